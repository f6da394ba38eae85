/- Part 5 of what the row stands on. -/
import Derived.Test.YtobglidemkpmaaaGreatM4
set_option linter.unusedVariables false
set_option linter.unusedSimpArgs false
namespace Go.Dn
open Go Go.Proofs
set_option maxRecDepth 100000
set_option maxHeartbeats 4000000
theorem Z94 {r:Bool} (h:Z2R = some r):Fn CX 11 [] (vb r):=by
 refine Fn.go Tryz.func11 V fun σ H => ?_;unfold Z2R at h;refine .tR 1 V H fun b1 σ H => (.aV V (.na H fun H => (.tR 9 V H fun b2 σ H => (.bV [(vi 0),(vi 0),(vi 0),(vi 0),(vi 0),(vb false),(vb false)] V (.cV (Z3t (V:ZL (Con.mk 0 0 0 (Range.mk 0 0 false false)) = _)) V ?_)))));obtain ⟨x1,q1,h⟩:=bs h;refine .cV (Z7A q1) V (.m1 (.tup [(.agg [(.v (.int .u8 x1.1.Kind)),(vi x1.1.Net.Vars),(vl Form.cs x1.1.Net.Forms),(vl Con.cs x1.1.Net.Cons),(vl (cL Bound.cs) x1.1.Ticks),(vi x1.1.Rounds)]),(vi x1.2)]) V V (.xV V (.xV V (.alc (cs:=[(.v (.int .u8 0)),(vi 0),.nils,.nils,.nils,(vi 0)]) H V V fun σ H => (.sV [(.v (.int .u8 x1.1.Kind)),(vi x1.1.Net.Vars),(vl Form.cs x1.1.Net.Forms),(vl Con.cs x1.1.Net.Cons),(vl (cL Bound.cs) x1.1.Ticks),(vi x1.1.Rounds)] H 0 V fun σ H => (.aV V (.na H fun H => (.tR 10 V H fun b3 σ H => ?_))))))));refine .bV [(vi 20),(vi 0),(vb true),(vb false)] V (.bV [(vi 0),(vi 2),(vi 0),(vi 20),(vi 0),(vb true),(vb false)] V (.cV (Z3t (V:ZL (Con.mk 0 2 0 (Range.mk 20 0 true false)) = _)) V ?_));obtain ⟨x2,q2,h⟩:=bs h;refine .cV (Z7A q2) V (.m1 (.tup [(.agg [(.v (.int .u8 x2.1.Kind)),(vi x2.1.Net.Vars),(vl Form.cs x2.1.Net.Forms),(vl Con.cs x2.1.Net.Cons),(vl (cL Bound.cs) x2.1.Ticks),(vi x2.1.Rounds)]),(vi x2.2)]) V V (.xV V (.xV V (.alc (cs:=[(.v (.int .u8 0)),(vi 0),.nils,.nils,.nils,(vi 0)]) H V V fun σ H => (.sV [(.v (.int .u8 x2.1.Kind)),(vi x2.1.Net.Vars),(vl Form.cs x2.1.Net.Forms),(vl Con.cs x2.1.Net.Cons),(vl (cL Bound.cs) x2.1.Ticks),(vi x2.1.Rounds)] H 0 V fun σ H => (.aV V (.na H fun H => (.tR 4 V H fun b4 σ H => ?_))))))))
 refine .bV [(vi 0),(vi 2),(vi 1),(vi 0),(vi 0),(vb false),(vb false)] V (.cV (Z3t (V:ZL (Con.mk 0 2 1 (Range.mk 0 0 false false)) = _)) V (.alc (cs:=[(vi 0),.nils,.nils]) H V V fun σ H => (.sV [(vi (ZL (Con.mk 0 2 1 (Range.mk 0 0 false false))).Vars),(vl Form.cs (ZL (Con.mk 0 2 1 (Range.mk 0 0 false false))).Forms),(vl Con.cs (ZL (Con.mk 0 2 1 (Range.mk 0 0 false false))).Cons)] H 0 V fun σ H => (.na H fun H => (.then (.Z0T 9 V (by kernel_rfl) H fun b5 σ H B5 => (.cV (Z5z V) V (.bV [(vi 0),(vi 2),(vi 0),(vi (ZV 3 10).Low),(vi (ZV 3 10).High),(vb (ZV 3 10).HasLow),(vb (ZV 3 10).HasHigh)] V ?_))))))));refine .Z2 H 0 V V V V V (so (B5 0 _ V _ V)) V (.ld (vl Con.cs (ZL (Con.mk 0 2 1 (Range.mk 0 0 false false))).Cons) H 0 V V V V V (so (B5 0 _ V _ V)) V ?_);obtain ⟨x3,q3,h⟩:=bs h;refine .jV q3 V (.qV [(.int .i64 x3.X),(.int .i64 x3.Y),(.int .i64 x3.Form),(.int .i64 x3.Range.Low),(.int .i64 x3.Range.High),(.bool x3.Range.HasLow),(.bool x3.Range.HasHigh)] V (.Z3w (sz:=7) ([(Con.mk 0 2 0 (ZV 3 10)),x3].map Con.cs) H (by omega) (by omega) V V V V V V V V V fun σ H => (.Z2 H 1 V V V V V (so (B5 0 _ V _ V)) V (.Z3M (cells':=[(vi (ZL (Con.mk 0 2 1 (Range.mk 0 0 false false))).Vars),(vl Form.cs (ZL (Con.mk 0 2 1 (Range.mk 0 0 false false))).Forms),(.buf (b5 + 6) 2 7)]) H 1 V V V V V V V V V (fun _ => .inl ⟨B5 0 _ V _ V,(Z4g (by kernel_rfl))⟩) fun σ H => (.na H fun H => (.tR 8 V H fun b6 σ H => (.LV [(vi (ZL (Con.mk 0 2 1 (Range.mk 0 0 false false))).Vars),(vl Form.cs (ZL (Con.mk 0 2 1 (Range.mk 0 0 false false))).Forms),(.buf (b5 + 6) 2 7)] H 1 V ?_)))))))
 obtain ⟨x4,q4,h⟩:=bs h;refine .callX (xs:=[(.agg [(vi (ZL (Con.mk 0 2 1 (Range.mk 0 0 false false))).Vars),(vl Form.cs (ZL (Con.mk 0 2 1 (Range.mk 0 0 false false))).Forms),(.buf (b5 + 6) 2 7)]),(vi 10)]) (ys:=[(.agg (vs (Net.cs (Net.mk ((ZL (Con.mk 0 2 1 (Range.mk 0 0 false false))).Vars) ((ZL (Con.mk 0 2 1 (Range.mk 0 0 false false))).Forms) [(Con.mk 0 2 0 (ZV 3 10)),x3])))),(vi 10)]) H V (.cons (.a (.cons (.v _) (.cons (.v _) (.cons (.s 0 V) .nil)))) (.cons (.c (.v _)) .nil)) (Z7A q4) V V nofun V fun σ H => (.m1 (.tup [(.agg [(.v (.int .u8 x4.1.Kind)),(vi x4.1.Net.Vars),(vl Form.cs x4.1.Net.Forms),(vl Con.cs x4.1.Net.Cons),(vl (cL Bound.cs) x4.1.Ticks),(vi x4.1.Rounds)]),(vi x4.2)]) V V (.xV V (.xV V (.alc (cs:=[(.v (.int .u8 0)),(vi 0),.nils,.nils,.nils,(vi 0)]) H V V fun σ H => (.sV [(.v (.int .u8 x4.1.Kind)),(vi x4.1.Net.Vars),(vl Form.cs x4.1.Net.Forms),(vl Con.cs x4.1.Net.Cons),(vl (cL Bound.cs) x4.1.Ticks),(vi x4.1.Rounds)] H 0 V fun σ H => (.aV V (.na H fun H => (.then ?_))))))));refine .tR 49 V H fun b7 σ H => (.mV V (.iV V (.mV V ?_)));refine .md H 4 [(42,(vb ((x1.2 != 0) || (x1.1.Kind != 1)))),(1,(.ptr (b2 + 6) 6 0)),(3,(.ptr (b3 + 7) 6 0)),(4,(vi x2.2)),(6,(.ptr (b6 + 5) 6 0)),(7,(vi x4.2))] [.blk (b6 + 5) 34 [(.v (.int .u8 x4.1.Kind)),(vi x4.1.Net.Vars),(vl Form.cs x4.1.Net.Forms),(vl Con.cs x4.1.Net.Cons),(vl (cL Bound.cs) x4.1.Ticks),(vi x4.1.Rounds)],.blk (b3 + 7) 34 [(.v (.int .u8 x2.1.Kind)),(vi x2.1.Net.Vars),(vl Form.cs x2.1.Net.Forms),(vl Con.cs x2.1.Net.Cons),(vl (cL Bound.cs) x2.1.Ticks),(vi x2.1.Rounds)],.blk (b2 + 6) 34 [(.v (.int .u8 x1.1.Kind)),(vi x1.1.Net.Vars),(vl Form.cs x1.1.Net.Forms),(vl Con.cs x1.1.Net.Cons),(vl (cL Bound.cs) x1.1.Ticks),(vi x1.1.Rounds)]] rfl ?_ fun e σ H => ?_
 ·refine .split V V ?_ ?_ <;> intro hc1
  ·refine .ps 3 V (.kT V (.nil ?_));exact ⟨⟨or_T hc1,V,V,V,V,V,U⟩,((H.erase 2).erase 1).wk (by omega)⟩
  ·refine .fV H 4 V (.lV H 4 V (.iV V (.kF V (.nil ?_))));exact ⟨⟨or_F hc1,V,V,V,V,V,U⟩,((H.erase 2).erase 1).wk (by omega)⟩
 refine .mV V ?_;refine .md H 5 [(48,(vb (((x1.2 != 0) || (x1.1.Kind != 1)) || ((x1.1.Ticks.length:Int) != 3)))),(1,(.ptr (b2 + 6) 6 0)),(3,(.ptr (b3 + 7) 6 0)),(4,(vi x2.2)),(6,(.ptr (b6 + 5) 6 0)),(7,(vi x4.2))] [.blk (b6 + 5) 34 [(.v (.int .u8 x4.1.Kind)),(vi x4.1.Net.Vars),(vl Form.cs x4.1.Net.Forms),(vl Con.cs x4.1.Net.Cons),(vl (cL Bound.cs) x4.1.Ticks),(vi x4.1.Rounds)],.blk (b3 + 7) 34 [(.v (.int .u8 x2.1.Kind)),(vi x2.1.Net.Vars),(vl Form.cs x2.1.Net.Forms),(vl Con.cs x2.1.Net.Cons),(vl (cL Bound.cs) x2.1.Ticks),(vi x2.1.Rounds)],.blk (b2 + 6) 34 [(.v (.int .u8 x1.1.Kind)),(vi x1.1.Net.Vars),(vl Form.cs x1.1.Net.Forms),(vl Con.cs x1.1.Net.Cons),(vl (cL Bound.cs) x1.1.Ticks),(vi x1.1.Rounds)]] rfl ?_ fun e σ H => ?_
 ·refine .split V V ?_ ?_ <;> intro hc2
  ·refine .ps 4 V (.kT V (.nil ?_));exact ⟨⟨or_T hc2,V,V,V,V,V,U⟩,H.wk (by omega)⟩
  ·refine .fV H 2 V (.lV H 2 V (.nV V (.iV V (.kF V (.nil ?_)))));exact ⟨⟨or_F hc2,V,V,V,V,V,U⟩,H.wk (by omega)⟩
 refine .mV V ?_;refine .md H 3 [(52,(vb ((((x1.2 != 0) || (x1.1.Kind != 1)) || ((x1.1.Ticks.length:Int) != 3)) || (x2.2 != 0)))),(1,(.ptr (b2 + 6) 6 0)),(3,(.ptr (b3 + 7) 6 0)),(6,(.ptr (b6 + 5) 6 0)),(7,(vi x4.2))] [.blk (b6 + 5) 34 [(.v (.int .u8 x4.1.Kind)),(vi x4.1.Net.Vars),(vl Form.cs x4.1.Net.Forms),(vl Con.cs x4.1.Net.Cons),(vl (cL Bound.cs) x4.1.Ticks),(vi x4.1.Rounds)],.blk (b3 + 7) 34 [(.v (.int .u8 x2.1.Kind)),(vi x2.1.Net.Vars),(vl Form.cs x2.1.Net.Forms),(vl Con.cs x2.1.Net.Cons),(vl (cL Bound.cs) x2.1.Ticks),(vi x2.1.Rounds)],.blk (b2 + 6) 34 [(.v (.int .u8 x1.1.Kind)),(vi x1.1.Net.Vars),(vl Form.cs x1.1.Net.Forms),(vl Con.cs x1.1.Net.Cons),(vl (cL Bound.cs) x1.1.Ticks),(vi x1.1.Rounds)]] rfl ?_ fun e σ H => ?_
 ·refine .split V V ?_ ?_ <;> intro hc3
  ·refine .ps 2 V (.kT V (.nil ?_));exact ⟨⟨or_T hc3,V,V,V,V,U⟩,H.wk (by omega)⟩
  ·refine .mV V (.iV V (.kF V (.nil ?_)));exact ⟨⟨or_F hc3,V,V,V,V,U⟩,H.wk (by omega)⟩
 refine .mV V ?_;refine .md H 4 [(57,(vb (((((x1.2 != 0) || (x1.1.Kind != 1)) || ((x1.1.Ticks.length:Int) != 3)) || (x2.2 != 0)) || (x2.1.Kind != 2)))),(1,(.ptr (b2 + 6) 6 0)),(6,(.ptr (b6 + 5) 6 0)),(7,(vi x4.2))] [.blk (b6 + 5) 34 [(.v (.int .u8 x4.1.Kind)),(vi x4.1.Net.Vars),(vl Form.cs x4.1.Net.Forms),(vl Con.cs x4.1.Net.Cons),(vl (cL Bound.cs) x4.1.Ticks),(vi x4.1.Rounds)],.blk (b2 + 6) 34 [(.v (.int .u8 x1.1.Kind)),(vi x1.1.Net.Vars),(vl Form.cs x1.1.Net.Forms),(vl Con.cs x1.1.Net.Cons),(vl (cL Bound.cs) x1.1.Ticks),(vi x1.1.Rounds)]] rfl ?_ fun e σ H => ?_
 ·refine .split V V ?_ ?_ <;> intro hc4
  ·refine .ps 3 V (.kT V (.nil ?_));exact ⟨⟨or_T hc4,V,V,V,U⟩,(H.erase 1).wk (by omega)⟩
  ·refine .fV H 1 V (.lV H 1 V (.iV V (.kF V (.nil ?_))));exact ⟨⟨or_F hc4,V,V,V,U⟩,(H.erase 1).wk (by omega)⟩
 refine .mV V ?_;refine .md H 3 [(61,(vb ((((((x1.2 != 0) || (x1.1.Kind != 1)) || ((x1.1.Ticks.length:Int) != 3)) || (x2.2 != 0)) || (x2.1.Kind != 2)) || (x4.2 != 0)))),(1,(.ptr (b2 + 6) 6 0)),(6,(.ptr (b6 + 5) 6 0))] [.blk (b6 + 5) 34 [(.v (.int .u8 x4.1.Kind)),(vi x4.1.Net.Vars),(vl Form.cs x4.1.Net.Forms),(vl Con.cs x4.1.Net.Cons),(vl (cL Bound.cs) x4.1.Ticks),(vi x4.1.Rounds)],.blk (b2 + 6) 34 [(.v (.int .u8 x1.1.Kind)),(vi x1.1.Net.Vars),(vl Form.cs x1.1.Net.Forms),(vl Con.cs x1.1.Net.Cons),(vl (cL Bound.cs) x1.1.Ticks),(vi x1.1.Rounds)]] rfl ?_ fun e σ H => ?_
 ·refine .split V V ?_ ?_ <;> intro hc5
  ·refine .ps 2 V (.kT V (.nil ?_));exact ⟨⟨or_T hc5,V,V,U⟩,H.wk (by omega)⟩
  ·refine .mV V (.iV V (.kF V (.nil ?_)));exact ⟨⟨or_F hc5,V,V,U⟩,H.wk (by omega)⟩
 refine .mV V ?_;refine .md H 6 [(68,(vb (((((((x1.2 != 0) || (x1.1.Kind != 1)) || ((x1.1.Ticks.length:Int) != 3)) || (x2.2 != 0)) || (x2.1.Kind != 2)) || (x4.2 != 0)) || ((x4.1.Net.Cons.length:Int) != 2)))),(1,(.ptr (b2 + 6) 6 0)),(6,(.ptr (b6 + 5) 6 0))] [.blk (b6 + 5) 34 [(.v (.int .u8 x4.1.Kind)),(vi x4.1.Net.Vars),(vl Form.cs x4.1.Net.Forms),(vl Con.cs x4.1.Net.Cons),(vl (cL Bound.cs) x4.1.Ticks),(vi x4.1.Rounds)],.blk (b2 + 6) 34 [(.v (.int .u8 x1.1.Kind)),(vi x1.1.Net.Vars),(vl Form.cs x1.1.Net.Forms),(vl Con.cs x1.1.Net.Cons),(vl (cL Bound.cs) x1.1.Ticks),(vi x1.1.Rounds)]] rfl ?_ fun e σ H => ?_
 ·refine .split V V ?_ ?_ <;> intro hc6
  ·refine .ps 5 V (.kT V (.nil ?_));exact ⟨⟨or_T hc6,V,V,U⟩,H.wk (by omega)⟩
  ·refine .fV H 0 V (.fV H 0 V (.lV H 0 V (.nV V (.iV V (.kF V (.nil ?_))))));exact ⟨⟨or_F hc6,V,V,U⟩,H.wk (by omega)⟩
 refine .mV V ?_;obtain ⟨y1,hj1,h⟩:=bs h;refine .md H 7 [(76,(vb y1)),(1,(.ptr (b2 + 6) 6 0)),(6,(.ptr (b6 + 5) 6 0))] [.blk (b6 + 5) 34 [(.v (.int .u8 x4.1.Kind)),(vi x4.1.Net.Vars),(vl Form.cs x4.1.Net.Forms),(vl Con.cs x4.1.Net.Cons),(vl (cL Bound.cs) x4.1.Ticks),(vi x4.1.Rounds)],.blk (b2 + 6) 34 [(.v (.int .u8 x1.1.Kind)),(vi x1.1.Net.Vars),(vl Form.cs x1.1.Net.Forms),(vl Con.cs x1.1.Net.Cons),(vl (cL Bound.cs) x1.1.Ticks),(vi x1.1.Rounds)]] V ?_ fun e σ H => ?_
 ·refine .sp hj1 V ?_ ?_ <;> intro h
  ·refine .ps 6 V (.kT V (.nil ?_));obtain rfl:=sj h;exact ⟨EI V,H.wk (by omega)⟩
  refine .fV H 1 V (.lV H 1 V (.wt V V ?_));obtain ⟨x5,q5,h⟩:=bs h;refine .jV q5 V (.pV V (.nV V (.iV V (.kF V (.nil ?_)))));obtain rfl:=sj h;exact ⟨EI V,H.wk (by omega)⟩
 refine .mV V ?_;obtain ⟨y2,hj2,h⟩:=bs h;refine .md H 7 [(84,(vb y2)),(1,(.ptr (b2 + 6) 6 0)),(6,(.ptr (b6 + 5) 6 0))] [.blk (b6 + 5) 34 [(.v (.int .u8 x4.1.Kind)),(vi x4.1.Net.Vars),(vl Form.cs x4.1.Net.Forms),(vl Con.cs x4.1.Net.Cons),(vl (cL Bound.cs) x4.1.Ticks),(vi x4.1.Rounds)],.blk (b2 + 6) 34 [(.v (.int .u8 x1.1.Kind)),(vi x1.1.Net.Vars),(vl Form.cs x1.1.Net.Forms),(vl Con.cs x1.1.Net.Cons),(vl (cL Bound.cs) x1.1.Ticks),(vi x1.1.Rounds)]] V ?_ fun e σ H => ?_
 ·refine .sp hj2 V ?_ ?_ <;> intro h
  ·refine .ps 6 V (.kT V (.nil ?_));obtain rfl:=sj h;exact ⟨EI V,H.wk (by omega)⟩
  refine .fV H 1 V (.lV H 1 V (.wt V V ?_));obtain ⟨x6,q6,h⟩:=bs h;refine .jV q6 V (.pV V (.nV V (.iV V (.kF V (.nil ?_)))));obtain rfl:=sj h;exact ⟨EI V,H.wk (by omega)⟩
 refine .na H fun H => ?_;refine .wh h V ?_ ?_ <;> intro h
 ·refine .tR 1 V H fun b8 σ H => (.aV V (.na H fun H => (.ret ?_)));obtain rfl:=sj h;exact Ends.eR V
 refine .skip (.then (.Z0T 29 V (by kernel_rfl) H fun b9 σ H B9 => (.Z2 H 1 V V V V V (so (B9 1 _ V _ V)) V (.ld (vl (cL Bound.cs) x1.1.Ticks) H 1 V V V V V (so (B9 1 _ V _ V)) V ?_))));obtain ⟨x7,q7,h⟩:=bs h;refine .jV q7 V (.pV V ?_);obtain ⟨x8,q8,h⟩:=bs h;refine .jV q8 V (.qV [(.int .i8 x8.Inf),(.int .i64 x8.N)] V (.bV [(.v (.int .i8 0)),(vi 14)] V (.binA (u:=(.agg [(.v (.int .i8 x8.Inf)),(vi x8.N)])) (w:=(.agg [(.v (.int .i8 0)),(vi 14)])) (r:=.bool ((x8.Inf == 0) && ((x8.N == 14) && true))) V V (by kernel_rfl) (fun _ => ZBY V V V V) V (.mV V ?_))));obtain ⟨y3,hj3,h⟩:=bs h;refine .md H 9 [(102,(vb y3)),(6,(.ptr (b6 + 5) 6 0))] [.blk (b6 + 5) 34 [(.v (.int .u8 x4.1.Kind)),(vi x4.1.Net.Vars),(vl Form.cs x4.1.Net.Forms),(vl Con.cs x4.1.Net.Cons),(vl (cL Bound.cs) x4.1.Ticks),(vi x4.1.Rounds)]] V ?_ fun e σ H => ?_
 ·refine .sp hj3 V ?_ ?_ <;> intro h
  ·refine .wt V V (.Z2 H 1 V V V V V (so (B9 1 _ V _ V)) V (.wt V V (.ld (vl (cL Bound.cs) x1.1.Ticks) H 1 V V V V V (so (B9 1 _ V _ V)) V (.wt V V ?_))));obtain ⟨x9,q9,h⟩:=bs h;refine .jV q9 V (.pV V (.wt V V ?_));obtain ⟨x10,q10,h⟩:=bs h;refine .jV q10 V (.qV [(.int .i8 x10.Inf),(.int .i64 x10.N)] V (.bV [(.v (.int .i8 0)),(vi (-5))] V (.wt V V (.binA (u:=(.agg [(.v (.int .i8 x10.Inf)),(vi x10.N)])) (w:=(.agg [(.v (.int .i8 0)),(vi (-5))])) (r:=.bool ((x10.Inf == 0) && ((x10.N == (-5)) && true))) V V (by kernel_rfl) (fun _ => ZBY V V V V) V (.kT V (.nil ?_))))));obtain rfl:=sj h;exact ⟨EI V,(H.erase 1).wk (by omega)⟩
  refine .ps 8 V (.kF V (.nil ?_));obtain rfl:=sj h;exact ⟨EI V,(H.erase 1).wk (by omega)⟩
 refine .mV V ?_;obtain ⟨y4,hj4,h⟩:=bs h;refine .md H 9 [(112,(vb y4))] [] V ?_ fun e σ H => ?_
 ·refine .sp hj4 V ?_ ?_ <;> intro h
  ·refine .wt V V (.Z2 H 0 V V V V V (so (B9 0 _ V _ V)) V (.wt V V (.Z2 H 0 V V V V V (so (B9 0 _ V _ V)) V (.wt V V (.ld (vl Con.cs x4.1.Net.Cons) H 0 V V V V V (so (B9 0 _ V _ V)) V (.wt V V ?_))))));obtain ⟨x11,q11,h⟩:=bs h;refine .jV q11 V (.wt V V (.Z0G V V V V (.qV [(.int .i64 x11.Range.Low),(.int .i64 x11.Range.High),(.bool x11.Range.HasLow),(.bool x11.Range.HasHigh)] V (.cV (Z5z V) V (.wt V V (.binA (u:=(.agg (vR x11.Range))) (w:=(.agg (vR (ZV 0 2)))) (r:=.bool ((x11.Range.Low == ((ZV 0 2).Low)) && ((x11.Range.High == ((ZV 0 2).High)) && ((x11.Range.HasLow == ((ZV 0 2).HasLow)) && ((x11.Range.HasHigh == ((ZV 0 2).HasHigh)) && true))))) V V (by kernel_rfl) (fun _ => ZBY V V V V) V (.kT V (.nil ?_))))))));obtain rfl:=sj h;exact ⟨EI V,(H.erase 0).wk (by omega)⟩
  refine .ps 8 V (.kF V (.nil ?_));obtain rfl:=sj h;exact ⟨EI V,(H.erase 0).wk (by omega)⟩
 refine .aV V (.na H fun H => (.ret ?_));obtain rfl:=sj h;exact Ends.eR V
theorem Z3v {r:Bool} (h:Zz = r):Fn CX 11 [] (vb r):=by
 subst h;exact Z94 Z8D
theorem Z9m {f:Form} {r:Bool} (h:Z0w f = some r):Fn CX 60 [(.agg (vs (Form.cs f)))] (vb r):=by
 refine Fn.go Tryz.func60 V fun σ H => ?_;unfold Z0w at h;refine .tR 2 V H fun b1 σ H => (.bxc (cs:=(vF f)) H V V V fun σ H => (.aV V (.na H fun H => (.tR 16 V H fun b2 σ H => (.fV H 0 V (.lV H 0 V (.nV V (.iV V ?_))))))));refine .mV V ?_;refine .md H 5 [(12,(vb ((decide ((f.Core.length:Int)≤12)) && (decide ((f.Odd.length:Int)≤8))))),(1,(.ptr (b1 + 0) 4 0))] [.blk (b1 + 0) 64 (vF f)] V ?_ fun e σ H => ?_
 ·refine .split V V ?_ ?_ <;> intro hc1
  ·refine .fV H 0 V (.lV H 0 V (.nV V (.iV V (.kT V (.nil ?_)))));exact ⟨⟨Z0r hc1,V,U⟩,H.wk (by omega)⟩
  ·refine .ps 4 V (.kF V (.nil ?_));exact ⟨⟨Z0s hc1,V,U⟩,H.wk (by omega)⟩
 refine .mV V ?_;obtain ⟨y1,hj1,h⟩:=bs h;refine .md H 4 [(17,(vb y1))] [] V ?_ fun e σ H => ?_
 ·refine .sp hj1 V ?_ ?_ <;> intro h
  ·refine .LV (vF f) H 0 V (.wt V V ?_);obtain ⟨x1,q1,h⟩:=bs h;refine .cV (ZBA q1) V (.iV V (.kT V (.nil ?_)));obtain rfl:=sj h;exact ⟨EI V,(H.erase 0).wk (by omega)⟩
  refine .ps 3 V (.kF V (.nil ?_));obtain rfl:=sj h;exact ⟨EI V,(H.erase 0).wk (by omega)⟩
 refine .aV V (.na H fun H => (.ret ?_));obtain rfl:=sj h;exact Ends.eR V
theorem ZAS {f:Form} {r:Bool} (h:ZZ f = some r):Fn CX 38 [(.agg (vs (Form.cs f)))] (vb r):=by
 refine Fn.go Tryz.func38 V fun σ H => ?_;unfold ZZ at h;refine .tR 2 V H fun b1 σ H => (.bxc (cs:=(vF f)) H V V V fun σ H => (.aV V (.na H fun H => (.then (.tR 13 V H fun b2 σ H => (.LV (vF f) H 0 V ?_))))));obtain ⟨x1,q1,h⟩:=bs h;refine .cV (Z9m q1) V (.tV V (.mV V ?_));obtain ⟨y1,hj1,h⟩:=bs h;refine .md H 4 [(16,(vb y1)),(1,(.ptr (b1 + 0) 4 0))] [.blk (b1 + 0) 64 (vF f)] V ?_ fun e σ H => ?_
 ·refine .sp hj1 V ?_ ?_ <;> intro h
  ·refine .ps 3 V (.kT V (.nil ?_));obtain rfl:=sj h;exact ⟨EI V,H.wk (by omega)⟩
  refine .LV (vF f) H 0 V (.wt V V ?_);obtain ⟨x2,q2,h⟩:=bs h;refine .cV (Z9u q2) V (.iV V (.kF V (.nil ?_)));obtain rfl:=sj h;exact ⟨EI V,H.wk (by omega)⟩
 refine .mV V ?_;refine .md H 4 [(21,(vb (y1 || (decide (f.Period > 200))))),(1,(.ptr (b1 + 0) 4 0))] [.blk (b1 + 0) 64 (vF f)] rfl ?_ fun e σ H => ?_
 ·refine .split V V ?_ ?_ <;> intro hc2
  ·refine .ps 3 V (.kT V (.nil ?_));exact ⟨⟨or_T hc2,V,U⟩,H.wk (by omega)⟩
  ·refine .fV H 0 V (.lV H 0 V (.iV V (.kF V (.nil ?_))));exact ⟨⟨or_F hc2,V,U⟩,H.wk (by omega)⟩
 refine .na H fun H => ?_;refine .wh h V ?_ ?_ <;> intro h
 ·refine .tR 1 V H fun b3 σ H => (.aV V (.na H fun H => (.ret ?_)));obtain rfl:=sj h;exact Ends.eR V
 refine .skip (.then (.tR 4 V H fun b4 σ H => (.fV H 0 V (.lV H 0 V (.nV V (.mV V (.na H fun H => (.inBlock ?_))))))));obtain ⟨y2,hj2,h⟩:=bs h;obtain ⟨n1,hj2⟩:=ZW.1 hj2;refine .mono (Runs.loopO hj2 (fun s1 e σ => Z5 e [(1,(.ptr (b1 + 0) 4 0)),(23,(vl (cL Span.cs) f.Core)),(24,(vi (f.Core.length:Int))),(25,(vi s1))]∧Hs σ [.blk (b1 + 0) 64 (vF f)]) (fun y2 x e σ => (∃ a1,y2 = (.go a1)∧x = .exit 0∧Z5 e [(1,(.ptr (b1 + 0) 4 0))]∧Hs σ [.blk (b1 + 0) 64 (vF f)])∨(∃ r',y2 = (.ret r')∧x = .ret∧Ends CX Tryz.f38.results.toList (vb r') x e σ)) ⟨EI V,H⟩ ?_) ?_
 ·intro s1 e σ hI z h;obtain ⟨he,H⟩:=hI;obtain ⟨e,rfl⟩:=he.ex;unfold ZZ.s0 at h;refine .tR 1 V H fun b5 σ H => (.iV V (.na H fun H => (.then ?_)));refine .wh h V ?_ ?_ <;> intro h
  ·refine .skip (.then (.inBlock (.tR 3 V H fun b6 σ H => ?_)));obtain ⟨x3,q3,h⟩:=bs h;refine .jV q3 V (.pV V (.aV V (.na H fun H => (.tR 8 V H fun b7 σ H => (.mV V ?_)))));obtain ⟨x4,q4,h⟩:=bs h;refine .cV (Z3C q4) V (.m1 (.tup [(.agg [(vi x4.1.From),(vi x4.1.To)]),(vb x4.2)]) V V (.xV V (.xV V (.alc (cs:=[(vi 0),(vi 0)]) H V V fun σ H => (.sV [(vi x4.1.From),(vi x4.1.To)] H 0 V fun σ H => (.aV V (.na H fun H => (.tR 11 V H fun b8 σ H => ?_))))))));refine .mV V (.mV V ?_);refine .md H 9 [(44,(vb (x4.2 && ((decide (x4.1.From < (-100))) || (decide (x4.1.To > 100)))))),(1,(.ptr (b1 + 0) 4 0)),(23,(vl (cL Span.cs) f.Core)),(24,(vi (f.Core.length:Int))),(25,(vi s1))] [.blk (b1 + 0) 64 (vF f)] rfl ?_ fun e σ H => ?_
   ·refine .split V V ?_ ?_ <;> intro hc5
    ·refine .fV H 0 V (.lV H 0 V (.iV V (.mV V ?_)));refine .md H 4 [(43,(vb ((decide (x4.1.From < (-100))) || (decide (x4.1.To > 100))))),(1,(.ptr (b1 + 0) 4 0)),(23,(vl (cL Span.cs) f.Core)),(24,(vi (f.Core.length:Int))),(25,(vi s1)),(35,(vb true))] [.blk (b1 + 0) 64 (vF f)] rfl ?_ fun e σ H => ?_
     ·refine .split V V ?_ ?_ <;> intro hc6
      ·refine .ps 3 V (.kT V (.nil ?_));exact ⟨⟨or_T hc6,V,V,V,V,V,U⟩,(H.erase 0).wk (by omega)⟩
      ·refine .fV H 0 V (.lV H 0 V (.iV V (.kF V (.nil ?_))));exact ⟨⟨or_F hc6,V,V,V,V,V,U⟩,(H.erase 0).wk (by omega)⟩
     refine .kT V (.nil ?_);exact ⟨⟨Z0r hc5,V,V,V,V,U⟩,H.wk (by omega)⟩
    ·refine .ps 8 V (.kF V (.nil ?_));exact ⟨⟨Z0s hc5,V,V,V,V,U⟩,(H.erase 0).wk (by omega)⟩
   refine .na H fun H => ?_;refine .wh h V ?_ ?_ <;> intro h
   ·refine .tR 1 V H fun b9 σ H => (.aV V (.na H fun H => (.ret ?_)));obtain rfl:=sj h;exact ⟨nofun,(.inr ⟨_,V,V,(Ends.H (xs:=[(vb false)]) (.inr V) H (.tmp (v:=(vb false)) V .nil) (.one (.c (.v _))))⟩)⟩
   refine .skip (.Z7 2 V H fun b10 σ H => (.iV V (.mV V (.na H fun H => ?_))));obtain rfl:=sj h;exact ⟨V,EI V,H⟩
  refine .exit ?_;obtain rfl:=sj h;exact ⟨nofun,(.inl ⟨_,V,V,EI V,H⟩)⟩
 ·rintro x e σ (⟨a2,rfl,rfl,he,H⟩ | ⟨r',rfl,rfl,hE⟩)
  ·replace h:=jgo h;obtain ⟨e,rfl⟩:=he.ex;refine .then (.tR 4 V H fun b11 σ H => (.fV H 0 V (.lV H 0 V (.nV V (.mV V (.na H fun H => (.inBlock ?_)))))));obtain ⟨y3,hj3,h⟩:=bs h;obtain ⟨n2,hj3⟩:=ZW.1 hj3;refine .mono (Runs.loopO hj3 (fun s2 e σ => Z5 e [(47,(vl Granule.cs f.Odd)),(48,(vi (f.Odd.length:Int))),(49,(vi s2))]∧Hs σ []) (fun y3 x e σ => (∃ a3,y3 = (.go a3)∧x = .exit 2∧Z5 e []∧Hs σ [])∨(∃ r',y3 = (.ret r')∧x = .ret∧Ends CX Tryz.f38.results.toList (vb r') x e σ)) ⟨EI V,(H.erase 0)⟩ ?_) ?_
   ·intro s2 e σ hI z h;obtain ⟨he,H⟩:=hI;obtain ⟨e,rfl⟩:=he.ex;unfold ZZ.s1 at h;refine .tR 1 V H fun b12 σ H => (.iV V (.na H fun H => (.then ?_)));refine .wh h V ?_ ?_ <;> intro h
    ·refine .skip (.then (.inBlock (.tR 4 V H fun b13 σ H => ?_)));obtain ⟨x5,q5,h⟩:=bs h;refine .jV q5 V (.qV [(.int .i64 x5.Index),(.sl (x5.Ticks.map Span.cs))] V (.alc (cs:=[(vi 0),.nils]) H V V fun σ H => (.sV [(vi x5.Index),(vl Span.cs x5.Ticks)] H 0 V fun σ H => (.na H fun H => (.tR 8 V H fun b14 σ H => (.fV H 0 V (.lV H 0 V (.iV V ?_))))))));refine .mV V ?_;refine .md H 4 [(60,(vb ((decide (x5.Index < (-100))) || (decide (x5.Index > 100))))),(47,(vl Granule.cs f.Odd)),(48,(vi (f.Odd.length:Int))),(49,(vi s2))] [] rfl ?_ fun e σ H => ?_
     ·refine .split V V ?_ ?_ <;> intro hc9
      ·refine .ps 3 V (.kT V (.nil ?_));exact ⟨⟨or_T hc9,V,V,V,U⟩,(H.erase 0).wk (by omega)⟩
      ·refine .fV H 0 V (.lV H 0 V (.iV V (.kF V (.nil ?_))));exact ⟨⟨or_F hc9,V,V,V,U⟩,(H.erase 0).wk (by omega)⟩
     refine .na H fun H => ?_;refine .wh h V ?_ ?_ <;> intro h
     ·refine .tR 1 V H fun b15 σ H => (.aV V (.na H fun H => (.ret ?_)));obtain rfl:=sj h;exact ⟨nofun,(.inr ⟨_,V,V,(Ends.H (xs:=[(vb false)]) (.inr V) H (.tmp (v:=(vb false)) V .nil) (.one (.c (.v _))))⟩)⟩
     refine .skip (.Z7 2 V H fun b16 σ H => (.iV V (.mV V (.na H fun H => ?_))));obtain rfl:=sj h;exact ⟨V,EI V,H⟩
    refine .exit ?_;obtain rfl:=sj h;exact ⟨nofun,(.inl ⟨_,V,V,U,H⟩)⟩
   ·rintro x e σ (⟨a4,rfl,rfl,he,H⟩ | ⟨r',rfl,rfl,hE⟩)
    ·replace h:=jgo h;obtain ⟨e,rfl⟩:=he.ex;refine .tR 1 V H fun b17 σ H => (.aV V (.na H fun H => (.ret ?_)));obtain rfl:=sj h;exact Ends.eR V
    ·replace h:=jret h;obtain rfl:=sj h;exact hE
  ·replace h:=jret h;obtain rfl:=sj h;exact hE
theorem ZBQ {n:Net} {r:Bool} (h:Zq n = some r):Fn CX 12 [(.agg (vs (Net.cs n)))] (vb r):=by
 refine Fn.go Tryz.func12 V fun σ H => ?_;unfold Zq at h;refine .tR 2 V H fun b1 σ H => (.bxc (cs:=(vN n)) H V V V fun σ H => (.aV V (.na H fun H => (.then (.tR 15 V H fun b2 σ H => (.fV H 0 V (.lV H 0 V (.nV V ?_))))))));refine .iV V (.mV V ?_);refine .md H 5 [(14,(vb ((decide ((n.Forms.length:Int) > 4)) || (decide ((n.Cons.length:Int) > 8))))),(1,(.ptr (b1 + 0) 3 0))] [.blk (b1 + 0) 25 (vN n)] rfl ?_ fun e σ H => ?_
 ·refine .split V V ?_ ?_ <;> intro hc1
  ·refine .ps 4 V (.kT V (.nil ?_));exact ⟨⟨or_T hc1,V,U⟩,H.wk (by omega)⟩
  ·refine .fV H 0 V (.lV H 0 V (.nV V (.iV V (.kF V (.nil ?_)))));exact ⟨⟨or_F hc1,V,U⟩,H.wk (by omega)⟩
 refine .mV V ?_;refine .md H 4 [(19,(vb (((decide ((n.Forms.length:Int) > 4)) || (decide ((n.Cons.length:Int) > 8))) || (decide (n.Vars > 8))))),(1,(.ptr (b1 + 0) 3 0))] [.blk (b1 + 0) 25 (vN n)] rfl ?_ fun e σ H => ?_
 ·refine .split V V ?_ ?_ <;> intro hc2
  ·refine .ps 3 V (.kT V (.nil ?_));exact ⟨⟨or_T hc2,V,U⟩,H.wk (by omega)⟩
  ·refine .fV H 0 V (.lV H 0 V (.iV V (.kF V (.nil ?_))));exact ⟨⟨or_F hc2,V,U⟩,H.wk (by omega)⟩
 refine .na H fun H => ?_;refine .wh h V ?_ ?_ <;> intro h
 ·refine .tR 1 V H fun b3 σ H => (.aV V (.na H fun H => (.ret ?_)));obtain rfl:=sj h;exact Ends.eR V
 refine .skip (.then (.tR 4 V H fun b4 σ H => (.fV H 0 V (.lV H 0 V (.nV V (.mV V (.na H fun H => (.inBlock ?_))))))));obtain ⟨y1,hj1,h⟩:=bs h;obtain ⟨n1,hj1⟩:=ZW.1 hj1;refine .mono (Runs.loopO hj1 (fun s1 e σ => Z5 e [(1,(.ptr (b1 + 0) 3 0)),(21,(vl Form.cs n.Forms)),(22,(vi (n.Forms.length:Int))),(23,(vi s1))]∧Hs σ [.blk (b1 + 0) 25 (vN n)]) (fun y1 x e σ => (∃ a1,y1 = (.go a1)∧x = .exit 0∧Z5 e [(1,(.ptr (b1 + 0) 3 0))]∧Hs σ [.blk (b1 + 0) 25 (vN n)])∨(∃ r',y1 = (.ret r')∧x = .ret∧Ends CX Tryz.f12.results.toList (vb r') x e σ)) ⟨EI V,H⟩ ?_) ?_
 ·intro s1 e σ hI z h;obtain ⟨he,H⟩:=hI;obtain ⟨e,rfl⟩:=he.ex;unfold Zq.s0 at h;refine .tR 1 V H fun b5 σ H => (.iV V (.na H fun H => (.then ?_)));refine .wh h V ?_ ?_ <;> intro h
  ·refine .skip (.then (.inBlock (.tR 4 V H fun b6 σ H => ?_)));obtain ⟨x1,q1,h⟩:=bs h;refine .jV q1 V (.qV [(.int .i64 x1.Period),(.int .i64 x1.Count),(.sl (x1.Core.map (cL Span.cs))),(.sl (x1.Odd.map Granule.cs))] V (.alc (cs:=[(vi 0),(vi 0),.nils,.nils]) H V V fun σ H => (.sV (vF x1) H 0 V fun σ H => (.na H fun H => (.tR 3 V H fun b7 σ H => (.LV (vF x1) H 0 V ?_))))));obtain ⟨x2,q2,h⟩:=bs h;refine .cV (ZAS q2) V (.tV V (.na H fun H => ?_));refine .wh h V ?_ ?_ <;> intro h
   ·refine .tR 1 V H fun b8 σ H => (.aV V (.na H fun H => (.ret ?_)));obtain rfl:=sj h;exact ⟨nofun,(.inr ⟨_,V,V,(Ends.H (xs:=[(vb false)]) (.inr V) H (.tmp (v:=(vb false)) V .nil) (.one (.c (.v _))))⟩)⟩
   refine .skip (.Z7 2 V H fun b9 σ H => (.iV V (.mV V (.na H fun H => ?_))));obtain rfl:=sj h;exact ⟨V,EI V,(H.erase 0)⟩
  refine .exit ?_;obtain rfl:=sj h;exact ⟨nofun,(.inl ⟨_,V,V,EI V,H⟩)⟩
 ·rintro x e σ (⟨a2,rfl,rfl,he,H⟩ | ⟨r',rfl,rfl,hE⟩)
  ·replace h:=jgo h;obtain ⟨e,rfl⟩:=he.ex;refine .tR 4 V H fun b10 σ H => (.LV (vN n) H 0 V ?_);obtain ⟨x3,q3,h⟩:=bs h;refine .cV (Z8A q3) V (.iV V (.aV V (.na H fun H => (.ret ?_))));obtain rfl:=sj h;exact Ends.eR V
  ·replace h:=jret h;obtain rfl:=sj h;exact hE
end Go.Dn

namespace Go.Dn
open Go Go.Proofs
set_option maxRecDepth 100000
set_option maxHeartbeats 4000000
theorem Z9r {n:Net} {ticks:(List Int)} {r:(List Int)} (h:Z2t n ticks = some r):Fn CX 13 [(.agg (vs (Net.cs n))),(vl (cI .i64) ticks)] (vl (cI .i64) r):=by
 refine Fn.go Tryz.func13 V fun σ H => ?_;unfold Z2t at h;refine .tR 2 V H fun b1 σ H => (.bxc (cs:=(vN n)) H V V V fun σ H => (.a1 .nils V V (.na H fun H => (.tR 4 V H fun b2 σ H => (.fV H 0 V (.lV H 0 V ?_))))));obtain ⟨x1,q1,h⟩:=bs h;refine .makeS (zs:=[(.int .i64 0)]) (cc:=(cI .i64)) H (by omega) (by omega) V V q1 V V V V V V V fun σ H => (.aB V (.na H fun H => (.tR 3 V H fun b3 σ H => (.mB V (.mV V (.copyS (c:=(cI .i64)) (w:=(vl (cI .i64) ticks)) (xs:=x1) (ys:=ticks) H 0 V V V V (.m (fun _ => V)) V V nofun V fun σ H => (.na H fun H => (.tR 2 V H fun b4 σ H => ?_))))))));refine .mB V (.aB V (.na H fun H => (.ret ?_)));obtain rfl:=sj h;exact (Ends.H (xs:=[(.buf (b2 + 2) (n.Vars).toNat 1)]) (.inr V) H (.tmp (v:=(.buf (b2 + 2) (n.Vars).toNat 1)) V .nil) (.one (.c (.s 0 V))))
theorem Z5o {s:(List Int)} {f:Int→Option Bool} {C:List Res} {cv0:PV} (hs0:cv0.one = true) (hp0:cv0.pure = true→C = []) (hf0:∀ z0 y,f z0 = some y→CloH CX cv0 [(vi z0)] (vb y) C) {r:Int} (h:Zk s f = some r):FnH CX 89 [(vl (cI .i64) s),cv0] (vi r) C:=by
 refine FnH.of Tryz.func89 V V V V (Z1Q V (Z1Q (Z13 hs0) all_nil)) V (fun h => hp0 (Z1Y h 1 V)) ?_;intro σ L hC H;unfold Zk at h;refine .tR 1 V H fun b1 σ H => (.aV V (.na H fun H => (.then (.tR 3 V H fun b2 σ H => (.mV V (.nV V (.mV V (.na H fun H => ?_))))))));refine .inBlock ?_;obtain ⟨y1,hj1,h⟩:=bs h;obtain ⟨n1,hj1⟩:=ZW.1 hj1;refine .mono (Runs.loopO hj1 (fun s1 e σ => Z5 e [(0,(vl (cI .i64) s)),(1,cv0),(7,(vi (s.length:Int))),(8,(vi s1))]∧Hs σ (L)) (fun y1 x e σ => (∃ a1,y1 = (.go a1)∧x = .exit 0∧Z5 e []∧Hs σ (L))∨(∃ r',y1 = (.ret r')∧x = .ret∧EndsH CX Tryz.f89.results.toList (vi r') L x e σ)) ⟨EI V,H⟩ ?_) ?_
 ·intro s1 e σ hI z h;obtain ⟨he,H⟩:=hI;obtain ⟨e,rfl⟩:=he.ex;unfold Zk.s0 at h;refine .tR 1 V H fun b3 σ H => (.iV V (.na H fun H => (.then ?_)));refine .wh h V ?_ ?_ <;> intro h
  ·refine .skip (.then (.inBlock (.tR 2 V H fun b4 σ H => (.mV V (.aV V (.na H fun H => (.tR 6 V H fun b5 σ H => (.m1 cv0 V V ?_))))))));refine .mV V (.mV V ?_);obtain ⟨x1,q1,h⟩:=bs h;refine .jV q1 V (.pV V ?_);obtain ⟨x2,q2,h⟩:=bs h;refine .callV (cv:=cv0) (ys:=[(vi x1)]) (r:=(vb x2)) H V V (hf0 x1 _ q2) hC nofun V fun σ H => (.na H fun H => ?_);refine .wh h V ?_ ?_ <;> intro h
   ·refine .tR 2 V H fun b6 σ H => (.mV V (.aV V (.na H fun H => (.ret ?_))));obtain rfl:=sj h;exact ⟨nofun,(.inr ⟨_,V,V,(EndsH.H (xs:=[(vi s1)]) (.inr V) H (.tmp (v:=(vi s1)) V .nil) (.one (.c (.v _))) 0 V)⟩)⟩
   refine .skip (.Z7 2 V H fun b7 σ H => (.iV V (.mV V (.na H fun H => ?_))));obtain rfl:=sj h;exact ⟨V,EI V,H⟩
  refine .exit ?_;obtain rfl:=sj h;exact ⟨nofun,(.inl ⟨_,V,V,U,H⟩)⟩
 ·rintro x e σ (⟨a2,rfl,rfl,he,H⟩ | ⟨r',rfl,rfl,hE⟩)
  ·replace h:=jgo h;obtain ⟨e,rfl⟩:=he.ex;refine .tR 1 V H fun b8 σ H => (.aV V (.na H fun H => (.ret ?_)));obtain rfl:=sj h;exact (EndsH.H (xs:=[(vi (-1))]) (.inr V) H (.tmp (v:=(vi (-1))) V .nil) (.one (.c (.v _))) 0 V)
  ·replace h:=jret h;obtain rfl:=sj h;exact hE
theorem Z50 {s:(List Int)} {f:Int→Option Bool} {C:List Res} {cv0:PV} (hs0:cv0.one = true) (hp0:cv0.pure = true→C = []) (hf0:∀ z0 y,f z0 = some y→CloH CX cv0 [(vi z0)] (vb y) C) {r:Bool} (h:Z0f s f = some r):FnH CX 63 [(vl (cI .i64) s),cv0] (vb r) C:=by
 refine FnH.of Tryz.func63 V V V V (Z1Q V (Z1Q (Z13 hs0) all_nil)) V (fun h => hp0 (Z1Y h 1 V)) ?_;intro σ L hC H;unfold Z0f at h;refine .tR 1 V H fun b1 σ H => (.aV V (.na H fun H => (.tR 5 V H fun b2 σ H => (.mV V (.m1 cv0 V V ?_)))));obtain ⟨x1,q1,h⟩:=bs h;refine .Z3q (ys:=[(vl (cI .i64) s),cv0]) (r:=(vi x1)) H V (Z5o (C:=C) hs0 hp0 hf0 q1) hC nofun V fun σ H => (.iV V (.aV V (.na H fun H => (.ret ?_))));obtain rfl:=sj h;exact (EndsH.H (xs:=[(vb (decide (x1 ≥ 0)))]) (.inr V) H (.tmp (v:=(vb (decide (x1 ≥ 0)))) V .nil) (.one (.c (.v _))) 0 V)
theorem tag_own_1_fn {t:Int} {r:Bool} (h:Z6M t = r):Fn CX 62 [(vi t)] (vb r):=by
 refine Fn.go Tryz.func62 V fun σ H => ?_;unfold Z6M at h;refine .tR 1 V H fun b1 σ H => (.aV V (.na H fun H => (.tR 7 V H fun b2 σ H => (.mV V (.iV V (.mV V ?_))))));refine .md H 3 [(8,(vb ((decide (t < (-1099511627776))) || (decide (t > 1099511627776)))))] [] rfl ?_ fun e σ H => ?_
 ·refine .split V V ?_ ?_ <;> intro hc1
  ·refine .ps 2 V (.kT V (.nil ?_));exact ⟨⟨or_T hc1,U⟩,H.wk (by omega)⟩
  ·refine .mV V (.iV V (.kF V (.nil ?_)));exact ⟨⟨or_F hc1,U⟩,H.wk (by omega)⟩
 refine .aV V (.na H fun H => (.ret ?_));subst h;exact Ends.eR V
theorem tag_own_fn {n:Net} {ticks:(List Int)} {r:Bool} (h:Z83 n ticks = some r):Fn CX 39 [(.agg (vs (Net.cs n))),(vl (cI .i64) ticks)] (vb r):=by
 refine Fn.go Tryz.func39 V fun σ H => ?_;unfold Z83 at h;refine .tR 2 V H fun b1 σ H => (.bxc (cs:=(vN n)) H V V V fun σ H => (.aV V (.na H fun H => (.tR 1 V H fun b2 σ H => (.aV V (.na H fun H => (.tR 12 V H fun b3 σ H => (.mV V ?_))))))));refine .nV V (.fV H 0 V (.lV H 0 V (.iV V (.mV V ?_))));obtain ⟨y1,hj1,h⟩:=bs h;refine .md H 5 [(16,(vb y1))] [] V ?_ fun e σ H => ?_
 ·refine .sp hj1 V ?_ ?_ <;> intro h
  ·refine .mV V (.mV V (.wt V V ?_));obtain ⟨x1,q1,h⟩:=bs h;refine .Z3q (ys:=[(vl (cI .i64) ticks),(.v (.fn 62))]) (r:=(vb x1)) H V (Z50 (C:=[]) V (fun _ => V) (fun z0 y hz => (CloH.fn (Fn.toH (tag_own_1_fn (Option.some.inj hz)) _))) q1) .nil nofun V fun σ H => (.tV V (.kT V (.nil ?_)));obtain rfl:=sj h;exact ⟨EI V,(H.erase 0).wk (by omega)⟩
  refine .ps 4 V (.kF V (.nil ?_));obtain rfl:=sj h;exact ⟨EI V,(H.erase 0).wk (by omega)⟩
 refine .aV V (.na H fun H => (.ret ?_));obtain rfl:=sj h;exact Ends.eR V
theorem ZDS {n:Net} {ticks:(List Int)} {σ:Heap} {lo hi:Nat} {L:List Res} (H:Has σ lo hi L):∃ r σ',Z0k CX (.fn 40) [(.agg (vs (Net.cs n))),(vl (cI .i64) ticks)] σ = some (r,σ')∧∃ i0' i1':Nat,r = (.clo 64 [] [(.ptr i1' 3 0),(.ptr i0' 1 0)])∧Hs σ' (.blk i0' 44 [(vl (cI .i64) ticks)] :: .blk i1' 25 (vN n) :: L):=by
 refine callO_of (Post:=fun r σ' => ∃ i0' i1':Nat,r = (.clo 64 [] [(.ptr i1' 3 0),(.ptr i0' 1 0)])∧Hs σ' (.blk i0' 44 [(vl (cI .i64) ticks)] :: .blk i1' 25 (vN n) :: L)) Tryz.func40 V V V V V V ?_;replace H:=H.all;refine .tR 3 V H fun b1 σ H => (.bxc (cs:=(vN n)) H V V V fun σ H => (.bxc (cs:=[(vl (cI .i64) ticks)]) H V V V fun σ H => (.aV V (.na H fun H => (.tR 2 V H fun b2 σ H => (.Z7D (fs:=[]) (cs:=[(.ptr (b1 + 0) 3 0),(.ptr (b1 + 1) 1 0)]) V V V V (.a1 (.clo 64 [] [(.ptr (b1 + 0) 3 0),(.ptr (b1 + 1) 1 0)]) V V (.na H fun H => ?_))))))));refine .ret ?_;exact ⟨.inr V,[(.clo 64 [] [(.ptr (b1 + 0) 3 0),(.ptr (b1 + 1) 1 0)])],Z21 H (.tmp (v:=(.clo 64 [] [(.ptr (b1 + 0) 3 0),(.ptr (b1 + 1) 1 0)])) V .nil),(b1 + 1),(b1 + 0),V,H.all⟩
theorem find_up_fn {r:Unit} (h:find_up = r):Fn CX 146 [] (.agg [(vi 1),(.v (.fn 81)),(.v (.fn 157)),(.v (.fn 158))]):=by
 refine Fn.go Tryz.func146 V fun σ H => ?_;unfold find_up at h;refine .tR 1 V H fun b1 σ H => (.alc (cs:=[(vi 0),(.v .nilf),(.v .nilf),(.v .nilf)]) H V V fun σ H => (.na H fun H => (.tR 2 V H fun b2 σ H => (.bV [(vi 1),(.v (.fn 81)),(.v (.fn 157)),(.v (.fn 158))] V (.sV [(vi 1),(.v (.fn 81)),(.v (.fn 157)),(.v (.fn 158))] H 0 V fun σ H => (.na H fun H => (.ret ?_)))))));subst h;exact (Ends.H (xs:=[(.agg [(vi 1),(.v (.fn 81)),(.v (.fn 157)),(.v (.fn 158))])]) (.inr V) H (.agg (cs:=[(vi 1),(.v (.fn 81)),(.v (.fn 157)),(.v (.fn 158))]) 0 V V V V V V V .nil) (.one (.p V)))
theorem find_up_1_fn {h':Span} {t:Int} {period:Int} {r:Int} (h:Z9a h' t period = some r):Fn CX 157 [(.agg (vs (Span.cs h'))),(vi t),(vi period)] (vi r):=by
 refine Fn.go Tryz.func157 V fun σ H => ?_;unfold Z9a at h;refine .tR 2 V H fun b1 σ H => (.bxc (cs:=[(vi h'.From),(vi h'.To)]) H V V V fun σ H => (.aV V (.na H fun H => (.tR 13 V H fun b2 σ H => (.fV H 0 V (.lV H 0 V (.mV V (.iV V ?_))))))));refine .mV V ?_;obtain ⟨x1,q1,h⟩:=bs h;refine .cV (Z3E q1) V (.m1 (.tup [(vi x1.1),(vi x1.2.1),(vi x1.2.2)]) V V (.xV V (.xV V (.xV V (.aV V (.aV V (.aV V (.na H fun H => ?_))))))));refine .tR 3 V H fun b3 σ H => (.mV V (.neg (m:=x1.1) V V (.aV V (.na H fun H => (.ret ?_)))));obtain rfl:=sj h;exact Ends.eR V
theorem Z3S {f:Form} {t:Int} {r:Int × Bool} (h:ZO f t = some r):Fn CX 163 [(.agg (vs (Form.cs f))),(vi t),(.agg [(vi 1),(.v (.fn 81)),(.v (.fn 157)),(.v (.fn 158))])] (.tup [(vi r.1),(vb r.2)]):=by
 refine Fn.go Tryz.func163 V fun σ H => ?_;unfold ZO at h;refine .tR 4 V H fun b1 σ H => (.bxc (cs:=(vF f)) H V V V fun σ H => (.bxc (cs:=[(vi 1),(.v (.fn 81)),(.v (.fn 157)),(.v (.fn 158))]) H V V V fun σ H => (.aV V (.aV V (.na H fun H => (.tR 2 V H fun b2 σ H => (.aV V (.aV V ?_))))))));refine .na H fun H => (.then (.tR 4 V H fun b3 σ H => (.fV H 1 V (.lV H 1 V (.nV V (.mV V (.na H fun H => (.inBlock ?_))))))));refine .lp h (fun s1 => [(1,(vi t)),(3,(.ptr (b1 + 0) 4 0)),(5,(.ptr (b1 + 1) 4 0)),(8,(vi s1.1)),(9,(vb s1.2.1)),(16,(vl (cL Span.cs) f.Core)),(17,(vi (f.Core.length:Int))),(18,(vi s1.2.2))]) (fun s1 => [.blk (b1 + 1) 197 [(vi 1),(.v (.fn 81)),(.v (.fn 157)),(.v (.fn 158))],.blk (b1 + 0) 64 (vF f)]) (.exit 0) (fun y1 => [(8,(vi y1.1)),(9,(vb y1.2))]) (fun y1 => []) (EI V) H (fun s1 e σ H z h => ?_) fun y1 e σ H h => ?_
 ·unfold ZO.s0 at h;refine .tR 1 V H fun b4 σ H => (.iV V (.na H fun H => (.then ?_)));refine .wh h V ?_ ?_ <;> intro h
  ·refine .skip (.then ?_);refine .jn h .normal (fun y2 => [(1,(vi t)),(3,(.ptr (b1 + 0) 4 0)),(5,(.ptr (b1 + 1) 4 0)),(8,(vi y2.1)),(9,(vb y2.2)),(16,(vl (cL Span.cs) f.Core)),(17,(vi (f.Core.length:Int))),(18,(vi s1.2.2))]) (fun y2 => [.blk (b1 + 1) 197 [(vi 1),(.v (.fn 81)),(.v (.fn 157)),(.v (.fn 158))],.blk (b1 + 0) 64 (vF f)]) (fun y2 h => ?_) fun y2 e σ H h => ?_
   ·refine .inBlock ?_;obtain ⟨y3,hj3,h⟩:=bs h;refine .mono (Q:=fun x e σ => (∃ a1,y3 = (.go a1)∧x = .normal∧Z5 e [(1,(vi t)),(3,(.ptr (b1 + 0) 4 0)),(5,(.ptr (b1 + 1) 4 0)),(8,(vi a1.1)),(9,(vb a1.2)),(16,(vl (cL Span.cs) f.Core)),(17,(vi (f.Core.length:Int))),(18,(vi s1.2.2))]∧Hs σ [.blk (b1 + 1) 197 [(vi 1),(.v (.fn 81)),(.v (.fn 157)),(.v (.fn 158))],.blk (b1 + 0) 64 (vF f)])∨(∃ a2,y3 = (.ret a2)∧x = .exit 1∧Z5 e [(1,(vi t)),(3,(.ptr (b1 + 0) 4 0)),(5,(.ptr (b1 + 1) 4 0)),(8,(vi s1.1)),(9,(vb s1.2.1)),(16,(vl (cL Span.cs) f.Core)),(17,(vi (f.Core.length:Int))),(18,(vi s1.2.2))]∧Hs σ [.blk (b1 + 1) 197 [(vi 1),(.v (.fn 81)),(.v (.fn 157)),(.v (.fn 158))],.blk (b1 + 0) 64 (vF f)])) ?_ ?_
    ·replace h:=hj3;refine .tR 5 V H fun b5 σ H => (.mV V ?_);obtain ⟨x1,q1,h⟩:=bs h;refine .jV q1 V (.pV V (.aV V (.aV V (.na H fun H => (.tR 8 V H fun b6 σ H => (.mV V ?_))))));obtain ⟨x2,q2,h⟩:=bs h;refine .cV (Z3C q2) V (.m1 (.tup [(.agg [(vi x2.1.From),(vi x2.1.To)]),(vb x2.2)]) V V (.xV V (.xV V (.alc (cs:=[(vi 0),(vi 0)]) H V V fun σ H => (.sV [(vi x2.1.From),(vi x2.1.To)] H 0 V fun σ H => (.aV V (.na H fun H => (.then ?_))))))));refine .tR 2 V H fun b7 σ H => (.mV V (.tV V (.na H fun H => ?_)));refine .wh h V ?_ ?_ <;> intro h
     ·refine .exit ?_;obtain rfl:=sj h;exact (.inr ⟨_,V,V,EI V,(H.erase 0)⟩)
     refine .skip (.then (.Z0T 13 V (by kernel_rfl) H fun b8 σ H B8 => (.Z2 H 1 V V V V V (so (B8 1 _ V _ V)) V (.ld (.v (.fn 157)) H 1 V V V V V (so (B8 1 _ V _ V)) V (.Z3u (cs:=[(vi x2.1.From),(vi x2.1.To)]) H 0 V V V V V V V (so (B8 0 _ V _ V)) V (.mV V (.Z2 H 2 V V V V V (so (B8 2 _ V _ V)) V (.ld (vi f.Period) H 2 V V V V V (so (B8 2 _ V _ V)) V ?_))))))));obtain ⟨x3,q3,h⟩:=bs h;refine .callF (ys:=[(.agg [(vi x2.1.From),(vi x2.1.To)]),(vi t),(vi f.Period)]) (r:=(vi x3)) V V (find_up_1_fn q3) V (.Z2 H 2 V V V V V (so (B8 2 _ V _ V)) V (.ld (vi f.Count) H 2 V V V V V (so (B8 2 _ V _ V)) V (.iV V (.mV V (.iV V (.aV V (.na H fun H => (.tR 11 V H fun b9 σ H => ?_))))))));refine .mV V (.tV V (.mV V ?_));refine .md H 8 [(52,(vb ((!s1.2.1) || (decide ((w64 ((w64 ((w64 ((w64 (x3 * f.Count)) + s1.2.2)) - s1.1)) * 1)) < 0))))),(1,(vi t)),(3,(.ptr (b1 + 0) 4 0)),(5,(.ptr (b1 + 1) 4 0)),(8,(vi s1.1)),(9,(vb s1.2.1)),(14,(vi (w64 ((w64 (x3 * f.Count)) + s1.2.2)))),(16,(vl (cL Span.cs) f.Core)),(17,(vi (f.Core.length:Int))),(18,(vi s1.2.2))] [.blk (b1 + 1) 197 [(vi 1),(.v (.fn 81)),(.v (.fn 157)),(.v (.fn 158))],.blk (b1 + 0) 64 (vF f)] rfl ?_ fun e σ H => ?_
     ·refine .split V V ?_ ?_ <;> intro hc3
      ·refine .ps 7 V (.kT V (.nil ?_));exact ⟨⟨or_T hc3,V,V,V,V,V,V,V,V,V,U⟩,(H.erase 0).wk (by omega)⟩
      ·refine .mV V (.mV V (.iV V (.fV H 1 V (.lV H 1 V (.iV V (.iV V (.kF V (.nil ?_))))))));exact ⟨⟨or_F hc3,V,V,V,V,V,V,V,V,V,U⟩,(H.erase 0).wk (by omega)⟩
     refine .na H fun H => ?_;refine .wh h V ?_ ?_ <;> intro h
     ·refine .Z7 3 V H fun b10 σ H => (.mV V (.aV V (.aV V (.na H fun H => ?_))));obtain rfl:=sj h;exact (.inl ⟨_,V,V,EI V,H⟩)
     refine .skip ?_;obtain rfl:=sj h;exact (.inl ⟨_,V,V,EI V,H⟩)
    ·rintro x e σ (⟨a3,rfl,rfl,he,H⟩ | ⟨a4,rfl,rfl,he,H⟩)
     ·replace h:=jgo h;obtain ⟨e,rfl⟩:=he.ex;obtain rfl:=sj h;exact ⟨V,EI V,H⟩
     ·replace h:=jret h;obtain ⟨e,rfl⟩:=he.ex;obtain rfl:=sj h;exact ⟨V,EI V,H⟩
   refine .Z7 2 V H fun b11 σ H => (.iV V (.mV V (.na H fun H => ?_)));obtain rfl:=sj h;exact ⟨V,EI V,H⟩
  refine .exit ?_;obtain rfl:=sj h;exact ⟨nofun,⟨V,EI V,((H.erase 1).erase 0)⟩⟩
 refine .tR 4 V H fun b12 σ H => (.mV V (.mV V (.aV V (.aV V (.na H fun H => (.ret ?_))))));obtain rfl:=sj h;exact Ends.eR V
theorem Z3T {f:Form} {t:Int} {r:Int × Bool} (h:Z4 f t = some r):Fn CX 156 [(.agg (vs (Form.cs f))),(vi t),(.agg [(vi 1),(.v (.fn 81)),(.v (.fn 157)),(.v (.fn 158))])] (.tup [(vi r.1),(vb r.2)]):=by
 refine Fn.go Tryz.func156 V fun σ H => ?_;unfold Z4 at h;refine .tR 4 V H fun b1 σ H => (.bxc (cs:=(vF f)) H V V V fun σ H => (.bxc (cs:=[(vi 1),(.v (.fn 81)),(.v (.fn 157)),(.v (.fn 158))]) H V V V fun σ H => (.aV V (.aV V (.na H fun H => (.tR 9 V H fun b2 σ H => (.fV H 1 V (.lV H 1 V ?_))))))));refine .fV H 1 V (.lV H 1 V (.fV H 1 V (.lV H 1 V (.bV [(vi f.Period),(vi f.Count),(vl (cL Span.cs) f.Core),.nils] V (.alc (cs:=[(vi 0),(vi 0),.nils,.nils]) H V V fun σ H => (.sV [(vi f.Period),(vi f.Count),(vl (cL Span.cs) f.Core),.nils] H 0 V fun σ H => (.na H fun H => (.tR 9 V H fun b3 σ H => ?_))))))));refine .LV (vF f) H 2 V (.mV V (.LV [(vi 1),(.v (.fn 81)),(.v (.fn 157)),(.v (.fn 158))] H 1 V ?_));obtain ⟨x1,q1,h⟩:=bs h;refine .cV (Z3S q1) V (.m1 (.tup [(vi x1.1),(vb x1.2)]) V V (.xV V (.xV V (.aV V (.aV V (.na H fun H => (.then (.tR 2 V H fun b4 σ H => ?_))))))));refine .mV V (.tV V (.na H fun H => ?_));refine .wh h V ?_ ?_ <;> intro h
 ·refine .tR 2 V H fun b5 σ H => (.aV V (.aV V (.na H fun H => (.ret ?_))));obtain rfl:=sj h;exact Ends.eR V
 refine .skip (.tR 2 V H fun b6 σ H => (.makeMapH H (by omega) (by omega) V V fun σ H => (.a1 (.mp (b6 + 0)) V V (.na H fun H => (.then (.tR 4 V H fun b7 σ H => (.fV H 3 V (.lV H 3 V ?_))))))));refine .nV V (.mV V (.na H fun H => (.inBlock ?_)));refine .lp h (fun s1 => [(5,(.ptr (b1 + 1) 4 0)),(8,(.ptr (b2 + 7) 4 0)),(9,(vi x1.1)),(11,(.mp (b6 + 0))),(35,(vl Granule.cs f.Odd)),(36,(vi (f.Odd.length:Int))),(37,(vi s1.1))]) (fun s1 => [.mp (b6 + 0) s1.2,.blk (b2 + 7) 64 [(vi f.Period),(vi f.Count),(vl (cL Span.cs) f.Core),.nils],.blk (b1 + 1) 197 [(vi 1),(.v (.fn 81)),(.v (.fn 157)),(.v (.fn 158))]]) (.exit 0) (fun y1 => [(5,(.ptr (b1 + 1) 4 0)),(8,(.ptr (b2 + 7) 4 0)),(9,(vi x1.1)),(11,(.mp (b6 + 0)))]) (fun y1 => [.mp (b6 + 0) y1,.blk (b2 + 7) 64 [(vi f.Period),(vi f.Count),(vl (cL Span.cs) f.Core),.nils],.blk (b1 + 1) 197 [(vi 1),(.v (.fn 81)),(.v (.fn 157)),(.v (.fn 158))]]) (EI V) (H.erase 3) (fun s1 e σ H z h => ?_) fun y1 e σ H h => ?_
 ·unfold Z4.s0 at h;refine .tR 1 V H fun b8 σ H => (.iV V (.na H fun H => (.then ?_)));refine .wh h V ?_ ?_ <;> intro h
  ·refine .skip (.then (.inBlock (.tR 4 V H fun b9 σ H => ?_)));obtain ⟨x2,q2,h⟩:=bs h;refine .jV q2 V (.qV [(.int .i64 x2.Index),(.sl (x2.Ticks.map Span.cs))] V (.alc (cs:=[(vi 0),.nils]) H V V fun σ H => (.sV [(vi x2.Index),(vl Span.cs x2.Ticks)] H 0 V fun σ H => (.na H fun H => (.Z7 6 V H fun b10 σ H => (.m1 (.mp (b6 + 0)) V V (.fV H 0 V (.lV H 0 V ?_))))))));refine .lookupH (a:=x2.Index) H 1 V V V V V (.iV V (.mapUpdateH (a:=x2.Index) (b:=(w64 ((mget s1.2 x2.Index) + 1))) H 1 V V V V V fun σ H => (.na H fun H => (.Z7 2 V H fun b11 σ H => (.iV V (.mV V (.na H fun H => ?_)))))));obtain rfl:=sj h;exact ⟨V,EI V,(H.erase 0)⟩
  refine .exit ?_;obtain rfl:=sj h;exact ⟨nofun,⟨V,EI V,H⟩⟩
 refine .tR 1 V H fun b12 σ H => (.aV V (.na H fun H => (.then (.tR 13 V H fun b13 σ H => (.fV H 2 V (.lV H 2 V (.LV [(vi f.Period),(vi f.Count),(vl (cL Span.cs) f.Core),.nils] H 1 V (.mV V ?_))))))));refine .fV H 2 V (.lV H 2 V (.iV V ?_));obtain ⟨x3,q3,h⟩:=bs h;refine .callFX (xs:=[(.agg [(vi f.Period),(vi f.Count),(vl (cL Span.cs) f.Core),.nils]),(vi (w64 (x1.1 - 1)))]) (ys:=[(.agg (vs (Form.cs (Form.mk f.Period f.Count f.Core [])))),(vi (w64 (x1.1 - 1)))]) H V V (.cons (.a (.cons (.v _) (.cons (.v _) (.cons (.v _) (.cons (.n) .nil))))) (.cons (.c (.v _)) .nil)) (Z6l q3) V V nofun V fun σ H => (.m1 (.tup [(vi x3.1),(vb x3.2)]) V V (.xV V (.xV V (.aV V (.aV V (.na H fun H => (.inBlock ?_)))))));obtain ⟨y2,hj2,h⟩:=bs h;obtain ⟨n2,hj2⟩:=ZW.1 hj2;refine .mono (Runs.loopO hj2 (fun s2 e σ => Z5 e [(5,(.ptr (b1 + 1) 4 0)),(8,(.ptr (b2 + 7) 4 0)),(9,(vi s2.1)),(10,(vb s2.2.1)),(11,(.mp (b6 + 0))),(14,(vi s2.2.2))]∧Hs σ [.mp (b6 + 0) y1,.blk (b2 + 7) 64 [(vi f.Period),(vi f.Count),(vl (cL Span.cs) f.Core),.nils],.blk (b1 + 1) 197 [(vi 1),(.v (.fn 81)),(.v (.fn 157)),(.v (.fn 158))]]) (fun y2 x e σ => (∃ a1,y2 = (.go a1)∧x = .exit 2∧Z5 e []∧Hs σ [])∨(∃ r',y2 = (.ret r')∧x = .ret∧Ends CX Tryz.f156.results.toList (.tup [(vi r'.1),(vb r'.2)]) x e σ)) ⟨EI V,H⟩ ?_) ?_
 ·intro s2 e σ hI z h;obtain ⟨he,H⟩:=hI;obtain ⟨e,rfl⟩:=he.ex;unfold Z4.s1 at h;refine .then (.tR 5 V H fun b14 σ H => (.mV V (.mV V ?_)));refine .md H 3 [(62,(vb (s2.2.1 && (decide (s2.2.2 < 2))))),(5,(.ptr (b1 + 1) 4 0)),(8,(.ptr (b2 + 7) 4 0)),(9,(vi s2.1)),(11,(.mp (b6 + 0))),(14,(vi s2.2.2))] [.mp (b6 + 0) y1,.blk (b2 + 7) 64 [(vi f.Period),(vi f.Count),(vl (cL Span.cs) f.Core),.nils],.blk (b1 + 1) 197 [(vi 1),(.v (.fn 81)),(.v (.fn 157)),(.v (.fn 158))]] V ?_ fun e σ H => ?_
  ·refine .split V V ?_ ?_ <;> intro hc3
   ·refine .mV V (.iV V (.kT V (.nil ?_)));exact ⟨⟨Z0r hc3,V,V,V,V,V,U⟩,H.wk (by omega)⟩
   ·refine .ps 2 V (.kF V (.nil ?_));exact ⟨⟨Z0s hc3,V,V,V,V,V,U⟩,H.wk (by omega)⟩
  refine .na H fun H => ?_;refine .wh h V ?_ ?_ <;> intro h
  ·refine .skip (.then ?_);obtain ⟨y3,hj3,h⟩:=bs h;refine .mono (Q:=fun x e σ => (∃ a2,y3 = (.go a2)∧x = .normal∧Z5 e [(5,(.ptr (b1 + 1) 4 0)),(8,(.ptr (b2 + 7) 4 0)),(9,(vi s2.1)),(11,(.mp (b6 + 0))),(14,(vi a2))]∧Hs σ [.mp (b6 + 0) y1,.blk (b2 + 7) 64 [(vi f.Period),(vi f.Count),(vl (cL Span.cs) f.Core),.nils],.blk (b1 + 1) 197 [(vi 1),(.v (.fn 81)),(.v (.fn 157)),(.v (.fn 158))]])∨(∃ r',y3 = (.ret r')∧x = .ret∧Ends CX Tryz.f156.results.toList (.tup [(vi r'.1),(vb r'.2)]) x e σ)) ?_ ?_
   ·replace h:=hj3;refine .inBlock ?_;obtain ⟨y4,hj4,h⟩:=bs h;refine .mono (Q:=fun x e σ => (∃ a3,y4 = (.go a3)∧x = .normal∧Z5 e [(5,(.ptr (b1 + 1) 4 0)),(8,(.ptr (b2 + 7) 4 0)),(9,(vi s2.1)),(11,(.mp (b6 + 0))),(14,(vi a3))]∧Hs σ [.mp (b6 + 0) y1,.blk (b2 + 7) 64 [(vi f.Period),(vi f.Count),(vl (cL Span.cs) f.Core),.nils],.blk (b1 + 1) 197 [(vi 1),(.v (.fn 81)),(.v (.fn 157)),(.v (.fn 158))]])∨(∃ r',y4 = (.ret r')∧x = .ret∧Ends CX Tryz.f156.results.toList (.tup [(vi r'.1),(vb r'.2)]) x e σ)) ?_ ?_
    ·replace h:=hj4;refine .tR 8 V H fun b15 σ H => (.LV [(vi f.Period),(vi f.Count),(vl (cL Span.cs) f.Core),.nils] H 1 V (.mV V ?_));obtain ⟨x4,q4,h⟩:=bs h;refine .callX (xs:=[(.agg [(vi f.Period),(vi f.Count),(vl (cL Span.cs) f.Core),.nils]),(vi s2.1)]) (ys:=[(.agg (vs (Form.cs (Form.mk f.Period f.Count f.Core [])))),(vi s2.1)]) H V (.cons (.a (.cons (.v _) (.cons (.v _) (.cons (.v _) (.cons (.n) .nil))))) (.cons (.c (.v _)) .nil)) (Z4R q4) V V nofun V fun σ H => (.m1 (.tup [(vl Span.cs x4.1),(vi x4.2)]) V V (.xV V (.xV V (.aV V (.aV V (.na H fun H => (.tR 2 V H fun b16 σ H => (.mV V ?_))))))));refine .iV V (.na H fun H => ?_);refine .wh h V ?_ ?_ <;> intro h
     ·refine .Z7 3 V H fun b17 σ H => (.mV V (.iV V (.aV V (.na H fun H => ?_))));obtain rfl:=sj h;exact (.inl ⟨_,V,V,EI V,H⟩)
     refine .tR 4 V H fun b18 σ H => (.m1 (.mp (b6 + 0)) V V (.mV V (.lookupH (a:=s2.1) H 0 V V V V V (.iV V (.na H fun H => ?_)))));refine .wh h V ?_ ?_ <;> intro h
     ·refine .tR 3 V H fun b19 σ H => (.mV V (.aV V (.aV V (.na H fun H => (.ret ?_)))));obtain rfl:=sj h;exact (.inr ⟨_,V,V,(Ends.H (xs:=[(vi s2.1),(vb true)]) (.inr V) H (.tmp (v:=(vi s2.1)) V (.tmp (v:=(vb true)) V .nil)) (.two (.cons (.c (.v _)) (.cons (.c (.v _)) .nil))))⟩)
     refine .skip ?_;obtain rfl:=sj h;exact (.inl ⟨_,V,V,EI V,H⟩)
    ·rintro x e σ (⟨a4,rfl,rfl,he,H⟩ | ⟨r',rfl,rfl,hE⟩)
     ·replace h:=jgo h;obtain ⟨e,rfl⟩:=he.ex;obtain rfl:=sj h;exact (.inl ⟨_,V,V,EI V,H⟩)
     ·replace h:=jret h;obtain rfl:=sj h;exact (.inr ⟨_,V,V,hE⟩)
   ·rintro x e σ (⟨a5,rfl,rfl,he,H⟩ | ⟨r',rfl,rfl,hE⟩)
    ·replace h:=jgo h;obtain ⟨e,rfl⟩:=he.ex;refine .Z7 10 V H fun b20 σ H => (.fV H 2 V (.lV H 2 V (.LV [(vi f.Period),(vi f.Count),(vl (cL Span.cs) f.Core),.nils] H 1 V (.mV V ?_))));obtain ⟨x5,q5,h⟩:=bs h;refine .callFX (xs:=[(.agg [(vi f.Period),(vi f.Count),(vl (cL Span.cs) f.Core),.nils]),(vi s2.1)]) (ys:=[(.agg (vs (Form.cs (Form.mk f.Period f.Count f.Core [])))),(vi s2.1)]) H V V (.cons (.a (.cons (.v _) (.cons (.v _) (.cons (.v _) (.cons (.n) .nil))))) (.cons (.c (.v _)) .nil)) (Z6l q5) V V nofun V fun σ H => (.m1 (.tup [(vi x5.1),(vb x5.2)]) V V (.xV V (.xV V (.aV V (.aV V (.na H fun H => ?_))))));obtain rfl:=sj h;exact ⟨V,EI V,H⟩
    ·replace h:=jret h;obtain rfl:=sj h;exact ⟨nofun,(.inr ⟨_,V,V,hE⟩)⟩
  refine .exit ?_;obtain rfl:=sj h;exact ⟨nofun,(.inl ⟨_,V,V,U,(((H.erase 2).erase 1).erase 0)⟩)⟩
 ·rintro x e σ (⟨a6,rfl,rfl,he,H⟩ | ⟨r',rfl,rfl,hE⟩)
  ·replace h:=jgo h;obtain ⟨e,rfl⟩:=he.ex;refine .tR 2 V H fun b21 σ H => (.aV V (.aV V (.na H fun H => (.ret ?_))));obtain rfl:=sj h;exact Ends.eR V
  ·replace h:=jret h;obtain rfl:=sj h;exact hE
theorem find_up_2_fn {h':Span} {t:Int} {r:Bool} (h:Z5N h' t = r):Fn CX 158 [(.agg (vs (Span.cs h'))),(vi t)] (vb r):=by
 refine Fn.go Tryz.func158 V fun σ H => ?_;unfold Z5N at h;refine .tR 2 V H fun b1 σ H => (.bxc (cs:=[(vi h'.From),(vi h'.To)]) H V V V fun σ H => (.aV V (.na H fun H => (.tR 5 V H fun b2 σ H => (.fV H 0 V (.lV H 0 V (.mV V (.iV V ?_))))))));refine .aV V (.na H fun H => (.ret ?_));subst h;exact Ends.eR V
end Go.Dn

namespace Go.Dn
open Go Go.Proofs
set_option maxRecDepth 100000
set_option maxHeartbeats 4000000
theorem Z35 {f:Form} {t:Int} {r:Int × Bool} (h:ZI f t = some r):Fn CX 145 [(.agg (vs (Form.cs f))),(vi t),(.agg [(vi 1),(.v (.fn 81)),(.v (.fn 157)),(.v (.fn 158))])] (.tup [(vi r.1),(vb r.2)]):=by
 refine Fn.go Tryz.func145 V fun σ H => ?_;unfold ZI at h;refine .tR 4 V H fun b1 σ H => (.bxc (cs:=(vF f)) H V V V fun σ H => (.bxc (cs:=[(vi 1),(.v (.fn 81)),(.v (.fn 157)),(.v (.fn 158))]) H V V V fun σ H => (.aV V (.aV V (.na H fun H => (.tR 4 V H fun b2 σ H => (.mV V (.min2 V V V ?_))))))));refine .max2 V V V (.aV V (.na H fun H => (.tR 9 V H fun b3 σ H => (.LV (vF f) H 1 V (.mV V (.LV [(vi 1),(.v (.fn 81)),(.v (.fn 157)),(.v (.fn 158))] H 0 V ?_))))));obtain ⟨x1,q1,h⟩:=bs h;refine .cV (Z3T q1) V (.m1 (.tup [(vi x1.1),(vb x1.2)]) V V (.xV V (.xV V (.aV V (.aV V (.na H fun H => (.then (.tR 4 V H fun b4 σ H => ?_))))))));refine .fV H 1 V (.lV H 1 V (.nV V (.mV V (.na H fun H => (.inBlock ?_)))));refine .lp h (fun s1 => [(1,(vi (iMax (iMin t 1099511627777) (-1099511627777)))),(5,(.ptr (b1 + 1) 4 0)),(8,(vi s1.1)),(9,(vb s1.2.1)),(25,(vl Granule.cs f.Odd)),(26,(vi (f.Odd.length:Int))),(27,(vi s1.2.2))]) (fun s1 => [.blk (b1 + 1) 197 [(vi 1),(.v (.fn 81)),(.v (.fn 157)),(.v (.fn 158))]]) (.exit 0) (fun y1 => [(8,(vi y1.1)),(9,(vb y1.2))]) (fun y1 => []) (EI V) (H.erase 1) (fun s1 e σ H z h => ?_) fun y1 e σ H h => ?_
 ·unfold ZI.s0 at h;refine .tR 1 V H fun b5 σ H => (.iV V (.na H fun H => (.then ?_)));refine .wh h V ?_ ?_ <;> intro h
  ·refine .skip (.then ?_);refine .jn h .normal (fun y2 => [(1,(vi (iMax (iMin t 1099511627777) (-1099511627777)))),(5,(.ptr (b1 + 1) 4 0)),(8,(vi y2.1)),(9,(vb y2.2)),(25,(vl Granule.cs f.Odd)),(26,(vi (f.Odd.length:Int))),(27,(vi s1.2.2))]) (fun y2 => [.blk (b1 + 1) 197 [(vi 1),(.v (.fn 81)),(.v (.fn 157)),(.v (.fn 158))]]) (fun y2 h => ?_) fun y2 e σ H h => ?_
   ·refine .inBlock ?_;refine .jn h .normal (fun y3 => [(1,(vi (iMax (iMin t 1099511627777) (-1099511627777)))),(5,(.ptr (b1 + 1) 4 0)),(8,(vi y3.1)),(9,(vb y3.2)),(25,(vl Granule.cs f.Odd)),(26,(vi (f.Odd.length:Int))),(27,(vi s1.2.2))]) (fun y3 => [.blk (b1 + 1) 197 [(vi 1),(.v (.fn 81)),(.v (.fn 157)),(.v (.fn 158))]]) (fun y3 h => ?_) fun y3 e σ H h => ?_
    ·refine .tR 4 V H fun b6 σ H => ?_;obtain ⟨x2,q2,h⟩:=bs h;refine .jV q2 V (.qV [(.int .i64 x2.Index),(.sl (x2.Ticks.map Span.cs))] V (.alc (cs:=[(vi 0),.nils]) H V V fun σ H => (.sV [(vi x2.Index),(vl Span.cs x2.Ticks)] H 0 V fun σ H => (.na H fun H => (.tR 9 V H fun b7 σ H => (.fV H 0 V (.lV H 0 V ?_)))))));obtain ⟨x3,q3,h⟩:=bs h;refine .cV (Z3C q3) V (.m1 (.tup [(.agg [(vi x3.1.From),(vi x3.1.To)]),(vb x3.2)]) V V (.xV V (.xV V (.alc (cs:=[(vi 0),(vi 0)]) H V V fun σ H => (.sV [(vi x3.1.From),(vi x3.1.To)] H 0 V fun σ H => (.aV V (.na H fun H => (.tR 22 V H fun b8 σ H => ?_))))))));refine .mV V (.mV V ?_);refine .md H 6 [(44,(vb (x3.2 && (Z5N x3.1 (iMax (iMin t 1099511627777) (-1099511627777)))))),(1,(vi (iMax (iMin t 1099511627777) (-1099511627777)))),(5,(.ptr (b1 + 1) 4 0)),(8,(vi s1.1)),(9,(vb s1.2.1)),(11,(.ptr (b6 + 2) 2 0)),(25,(vl Granule.cs f.Odd)),(26,(vi (f.Odd.length:Int))),(27,(vi s1.2.2))] [.blk (b6 + 2) 99 [(vi x2.Index),(vl Span.cs x2.Ticks)],.blk (b1 + 1) 197 [(vi 1),(.v (.fn 81)),(.v (.fn 157)),(.v (.fn 158))]] V ?_ fun e σ H => ?_
     ·refine .split V V ?_ ?_ <;> intro hc2
      ·refine .fV H 2 V (.lV H 2 V (.LV [(vi x3.1.From),(vi x3.1.To)] H 0 V (.mV V (.wt V V (.callF (ys:=[(.agg [(vi x3.1.From),(vi x3.1.To)]),(vi (iMax (iMin t 1099511627777) (-1099511627777)))]) (r:=(vb (Z5N x3.1 (iMax (iMin t 1099511627777) (-1099511627777))))) V V (find_up_2_fn (V:Z5N x3.1 (iMax (iMin t 1099511627777) (-1099511627777)) = _)) V (.kT V (.nil ?_)))))));exact ⟨⟨Z0r hc2,V,V,V,V,V,V,V,V,U⟩,(H.erase 0).wk (by omega)⟩
      ·refine .ps 5 V (.kF V (.nil ?_));exact ⟨⟨Z0s hc2,V,V,V,V,V,V,V,V,U⟩,(H.erase 0).wk (by omega)⟩
     refine .mV V ?_;refine .md H 13 [(58,(vb ((x3.2 && (Z5N x3.1 (iMax (iMin t 1099511627777) (-1099511627777)))) && ((!s1.2.1) || (decide ((w64 ((w64 (x2.Index - s1.1)) * 1)) < 0)))))),(1,(vi (iMax (iMin t 1099511627777) (-1099511627777)))),(5,(.ptr (b1 + 1) 4 0)),(8,(vi s1.1)),(9,(vb s1.2.1)),(11,(.ptr (b6 + 2) 2 0)),(25,(vl Granule.cs f.Odd)),(26,(vi (f.Odd.length:Int))),(27,(vi s1.2.2))] [.blk (b6 + 2) 99 [(vi x2.Index),(vl Span.cs x2.Ticks)],.blk (b1 + 1) 197 [(vi 1),(.v (.fn 81)),(.v (.fn 157)),(.v (.fn 158))]] rfl ?_ fun e σ H => ?_
     ·refine .split V V ?_ ?_ <;> intro hc3
      ·refine .mV V (.tV V (.mV V ?_));refine .md H 9 [(57,(vb ((!s1.2.1) || (decide ((w64 ((w64 (x2.Index - s1.1)) * 1)) < 0))))),(1,(vi (iMax (iMin t 1099511627777) (-1099511627777)))),(5,(.ptr (b1 + 1) 4 0)),(8,(vi s1.1)),(9,(vb s1.2.1)),(11,(.ptr (b6 + 2) 2 0)),(25,(vl Granule.cs f.Odd)),(26,(vi (f.Odd.length:Int))),(27,(vi s1.2.2)),(45,(vb true))] [.blk (b6 + 2) 99 [(vi x2.Index),(vl Span.cs x2.Ticks)],.blk (b1 + 1) 197 [(vi 1),(.v (.fn 81)),(.v (.fn 157)),(.v (.fn 158))]] rfl ?_ fun e σ H => ?_
       ·refine .split V V ?_ ?_ <;> intro hc4
        ·refine .ps 8 V (.kT V (.nil ?_));exact ⟨⟨or_T hc4,V,V,V,V,V,V,V,V,V,U⟩,H.wk (by omega)⟩
        ·refine .fV H 0 V (.lV H 0 V (.mV V (.iV V (.fV H 1 V (.lV H 1 V (.iV V (.iV V (.kF V ?_))))))));refine .nil ?_;exact ⟨⟨or_F hc4,V,V,V,V,V,V,V,V,V,U⟩,H.wk (by omega)⟩
       refine .kT V (.nil ?_);exact ⟨⟨Z0r hc3,V,V,V,V,V,V,V,V,U⟩,H.wk (by omega)⟩
      ·refine .ps 12 V (.kF V (.nil ?_));exact ⟨⟨Z0s hc3,V,V,V,V,V,V,V,V,U⟩,H.wk (by omega)⟩
     refine .na H fun H => ?_;refine .wh h V ?_ ?_ <;> intro h
     ·refine .Z7 4 V H fun b9 σ H => (.fV H 0 V (.lV H 0 V (.aV V (.aV V (.na H fun H => ?_)))));obtain rfl:=sj h;exact ⟨V,EI V,(H.erase 0)⟩
     refine .skip ?_;obtain rfl:=sj h;exact ⟨V,EI V,(H.erase 0)⟩
    obtain rfl:=sj h;exact ⟨V,EI V,H⟩
   refine .Z7 2 V H fun b10 σ H => (.iV V (.mV V (.na H fun H => ?_)));obtain rfl:=sj h;exact ⟨V,EI V,H⟩
  refine .exit ?_;obtain rfl:=sj h;exact ⟨nofun,⟨V,EI V,(H.erase 0)⟩⟩
 refine .tR 4 V H fun b11 σ H => (.mV V (.mV V (.aV V (.aV V (.na H fun H => (.ret ?_))))));obtain rfl:=sj h;exact Ends.eR V
theorem find_From_fn {f:Form} {t:Int} {r:Int × Bool} (h:Z9g f t = some r):Fn CX 128 [(.agg (vs (Form.cs f))),(vi t)] (.tup [(vi r.1),(vb r.2)]):=by
 refine Fn.go Tryz.func128 V fun σ H => ?_;unfold Z9g at h;refine .tR 3 V H fun b1 σ H => (.bxc (cs:=(vF f)) H V V V fun σ H => (.aV V (.aV V (.na H fun H => (.then (.Z0T 8 V (by kernel_rfl) H fun b2 σ H B2 => (.Z3u (cs:=(vF f)) H 0 V V V V V V V (so (B2 0 _ V _ V)) V (.mV V ?_))))))));refine .cV (find_up_fn V) V ?_;obtain ⟨x1,q1,h⟩:=bs h;refine .cV (Z35 q1) V (.xV V (.xV V (.aV V (.aV V (.na H fun H => (.ret ?_))))));obtain rfl:=sj h;exact Ends.eR V
theorem Z3B {x':(List Span)} {target:Int} {cmp:Span→Int→Option Int} {C:List Res} {cv0:PV} (hs0:cv0.one = true) (hp0:cv0.pure = true→C = []) (hf0:∀ z0 z1 y,cmp z0 z1 = some y→CloH CX cv0 [(.agg (vs (Span.cs z0))),(vi z1)] (vi y) C) {r:Int × Bool} (h:ZR x' target cmp = some r):FnH CX 147 [(vl Span.cs x'),(vi target),cv0] (.tup [(vi r.1),(vb r.2)]) C:=by
 refine FnH.of Tryz.func147 V V V V (Z1Q V (Z1Q V (Z1Q (Z13 hs0) all_nil))) V (fun h => hp0 (Z1Y h 2 V)) ?_;intro σ L hC H;unfold ZR at h;refine .tR 2 V H fun b1 σ H => (.aV V (.aV V (.na H fun H => (.tR 3 V H fun b2 σ H => (.mV V (.nV V (.aV V (.na H fun H => ?_))))))));refine .tR 3 V H fun b3 σ H => (.mV V (.aV V (.aV V (.na H fun H => (.then (.inBlock ?_))))));refine .lp h (fun s1 => [(0,(vl Span.cs x')),(1,(vi target)),(2,cv0),(8,(vi (x'.length:Int))),(9,(vi s1.1)),(10,(vi s1.2))]) (fun s1 => (L)) (.exit 0) (fun y1 => [(0,(vl Span.cs x')),(1,(vi target)),(2,cv0),(8,(vi (x'.length:Int))),(9,(vi y1))]) (fun y1 => (L)) (EI V) H (fun s1 e σ H z h => ?_) fun y1 e σ H h => ?_
 ·unfold ZR.s0 at h;refine .then (.tR 3 V H fun b4 σ H => (.mV V (.mV V (.iV V (.na H fun H => ?_)))));refine .wh h V ?_ ?_ <;> intro h
  ·refine .skip (.inBlock ?_);refine .jn h .normal (fun y2 => [(0,(vl Span.cs x')),(1,(vi target)),(2,cv0),(8,(vi (x'.length:Int))),(9,(vi y2.1)),(10,(vi y2.2))]) (fun y2 => (L)) (fun y2 h => ?_) fun y2 e σ H h => ?_
   ·refine .tR 7 V H fun b5 σ H => (.mV V (.mV V (.iV V (.conv (m:=(w64 (s1.1 + s1.2))) V V V V (.shr (m:=(IntKind.u64.wrap (w64 (s1.1 + s1.2)))) (m':=1) V V (by decide) V (.conv (m:=((IntKind.u64.wrap (w64 (s1.1 + s1.2))).fdiv (2 ^ 1))) V V V V (.aV V (.na H fun H => ?_))))))));refine .tR 8 V H fun b6 σ H => (.m1 cv0 V V (.mV V (.mV V ?_)));obtain ⟨x1,q1,h⟩:=bs h;refine .jV q1 V (.qV [(.int .i64 x1.From),(.int .i64 x1.To)] V (.mV V ?_));obtain ⟨x2,q2,h⟩:=bs h;refine .callV (cv:=cv0) (ys:=[(.agg (vs (Span.cs x1))),(vi target)]) (r:=(vi x2)) H V V (hf0 x1 target _ q2) hC nofun V fun σ H => (.iV V (.na H fun H => ?_));refine .wh h V ?_ ?_ <;> intro h
    ·refine .Z7 3 V H fun b7 σ H => (.mV V (.iV V (.aV V (.na H fun H => ?_))));obtain rfl:=sj h;exact ⟨V,EI V,H⟩
    refine .Z7 2 V H fun b8 σ H => (.mV V (.aV V (.na H fun H => ?_)));obtain rfl:=sj h;exact ⟨V,EI V,H⟩
   obtain rfl:=sj h;exact ⟨V,EI V,H⟩
  refine .exit ?_;obtain rfl:=sj h;exact ⟨nofun,⟨V,EI V,H⟩⟩
 refine .tR 16 V H fun b9 σ H => (.mV V (.mV V (.mV V (.iV V (.mV V ?_)))));obtain ⟨y3,hj3,h⟩:=bs h;refine .md H 9 [(48,(vb y3)),(35,(vi y1))] (L) V ?_ fun e σ H => ?_
 ·refine .sp hj3 V ?_ ?_ <;> intro h
  ·refine .m1 cv0 V V (.mV V (.mV V (.wt V V ?_)));obtain ⟨x3,q3,h⟩:=bs h;refine .jV q3 V (.qV [(.int .i64 x3.From),(.int .i64 x3.To)] V (.mV V (.wt V V ?_)));obtain ⟨x4,q4,h⟩:=bs h;refine .callV (cv:=cv0) (ys:=[(.agg (vs (Span.cs x3))),(vi target)]) (r:=(vi x4)) H V V (hf0 x3 target _ q4) hC nofun V fun σ H => (.iV V (.kT V (.nil ?_)));obtain rfl:=sj h;exact ⟨EI V,H.wk (by omega)⟩
  refine .ps 8 V (.kF V (.nil ?_));obtain rfl:=sj h;exact ⟨EI V,H.wk (by omega)⟩
 refine .aV V (.aV V (.na H fun H => (.ret ?_)));obtain rfl:=sj h;exact (EndsH.H (xs:=[(vi y1),(vb y3)]) (.inr V) H (.tmp (v:=(vi y1)) V (.tmp (v:=(vb y3)) V .nil)) (.two (.cons (.c (.v _)) (.cons (.c (.v _)) .nil))) 0 V)
theorem ZDH {s:Span} {t:Int} {r:Int} (h:Z4a s t = r):Fn CX 148 [(.agg (vs (Span.cs s))),(vi t)] (vi r):=by
 refine Fn.go Tryz.func148 V fun σ H => ?_;unfold Z4a at h;refine .tR 2 V H fun b1 σ H => (.bxc (cs:=[(vi s.From),(vi s.To)]) H V V V fun σ H => (.aV V (.na H fun H => (.then (.inBlock (.tR 5 V H fun b2 σ H => (.fV H 0 V (.lV H 0 V ?_))))))));refine .mV V (.iV V (.aV V (.na H fun H => ?_)));refine .wh h V ?_ ?_ <;> intro h
 ·refine .tR 1 V H fun b3 σ H => (.aV V (.na H fun H => (.ret ?_)));subst h;exact Ends.eR V
 refine .tR 5 V H fun b4 σ H => (.fV H 0 V (.lV H 0 V (.mV V (.iV V (.aV V (.na H fun H => ?_))))));refine .wh h V ?_ ?_ <;> intro h
 ·refine .tR 1 V H fun b5 σ H => (.aV V (.na H fun H => (.ret ?_)));subst h;exact Ends.eR V
 refine .skip (.tR 1 V H fun b6 σ H => (.aV V (.na H fun H => (.ret ?_))));subst h;exact Ends.eR V
theorem spans_Has_fn {l:(List Span)} {t:Int} {r:Bool} (h:Z7k l t = some r):Fn CX 129 [(vl Span.cs l),(vi t)] (vb r):=by
 refine Fn.go Tryz.func129 V fun σ H => ?_;unfold Z7k at h;refine .tR 1 V H fun b1 σ H => (.aV V (.na H fun H => (.tR 8 V H fun b2 σ H => (.mV V (.mV V ?_)))));obtain ⟨x1,q1,h⟩:=bs h;refine .Z3q (ys:=[(vl Span.cs l),(vi t),(.v (.fn 148))]) (r:=(.tup [(vi x1.1),(vb x1.2)])) H V (Z3B (C:=[]) V (fun _ => V) (fun z0 z1 y hz => (CloH.fn (Fn.toH (ZDH (Option.some.inj hz)) _))) q1) .nil nofun V fun σ H => (.m1 (.tup [(vi x1.1),(vb x1.2)]) V V (.xV V (.xV V (.aV V (.aV V (.na H fun H => (.tR 8 V H fun b3 σ H => (.mV V ?_))))))));refine .mV V ?_;refine .md H 5 [(19,(vb (x1.2 && (decide (x1.1 < (l.length:Int))))))] [] V ?_ fun e σ H => ?_
 ·refine .split V V ?_ ?_ <;> intro hc1
  ·refine .mV V (.mV V (.nV V (.iV V (.kT V (.nil ?_)))));exact ⟨⟨Z0r hc1,U⟩,H.wk (by omega)⟩
  ·refine .ps 4 V (.kF V (.nil ?_));exact ⟨⟨Z0s hc1,U⟩,H.wk (by omega)⟩
 refine .aV V (.na H fun H => (.ret ?_));obtain rfl:=sj h;exact Ends.eR V
theorem ZEE {f:Form} {t:Int} {r:Int × Bool} (h:Z7E f t = some r):Fn CX 110 [(.agg (vs (Form.cs f))),(vi t)] (.tup [(vi r.1),(vb r.2)]):=by
 refine Fn.go Tryz.func110 V fun σ H => ?_;unfold Z7E at h;refine .tR 3 V H fun b1 σ H => (.bxc (cs:=(vF f)) H V V V fun σ H => (.aV V (.aV V (.na H fun H => (.tR 8 V H fun b2 σ H => (.LV (vF f) H 0 V (.mV V ?_)))))));obtain ⟨x1,q1,h⟩:=bs h;refine .cV (find_From_fn q1) V (.m1 (.tup [(vi x1.1),(vb x1.2)]) V V (.xV V (.xV V (.aV V (.aV V (.na H fun H => (.then (.tR 2 V H fun b3 σ H => ?_))))))));refine .mV V (.tV V (.na H fun H => ?_));refine .wh h V ?_ ?_ <;> intro h
 ·refine .tR 2 V H fun b4 σ H => (.aV V (.aV V (.na H fun H => (.ret ?_))));obtain rfl:=sj h;exact Ends.eR V
 refine .skip (.tR 8 V H fun b5 σ H => (.LV (vF f) H 0 V (.mV V ?_)));obtain ⟨x2,q2,h⟩:=bs h;refine .cV (Z4R q2) V (.m1 (.tup [(vl Span.cs x2.1),(vi x2.2)]) V V (.xV V (.xV V (.aV V (.aV V (.na H fun H => (.then (.tR 4 V H fun b6 σ H => ?_))))))));refine .mV V (.mV V ?_);obtain ⟨x3,q3,h⟩:=bs h;refine .cV (spans_Has_fn q3) V (.tV V (.na H fun H => ?_));refine .wh h V ?_ ?_ <;> intro h
 ·refine .tR 2 V H fun b7 σ H => (.aV V (.aV V (.na H fun H => (.ret ?_))));obtain rfl:=sj h;exact Ends.eR V
 refine .skip (.tR 3 V H fun b8 σ H => (.mV V (.aV V (.aV V (.na H fun H => (.ret ?_))))));obtain rfl:=sj h;exact Ends.eR V
theorem ZD6 {f:Form} {a:Int} {b:Int} {r:Int × Bool} (h:Z0n f a b = some r):Fn CX 90 [(.agg (vs (Form.cs f))),(vi a),(vi b)] (.tup [(vi r.1),(vb r.2)]):=by
 refine Fn.go Tryz.func90 V fun σ H => ?_;unfold Z0n at h;refine .tR 3 V H fun b1 σ H => (.bxc (cs:=(vF f)) H V V V fun σ H => (.aV V (.aV V (.na H fun H => (.tR 8 V H fun b2 σ H => (.LV (vF f) H 0 V (.mV V ?_)))))));obtain ⟨x1,q1,h⟩:=bs h;refine .cV (ZEE q1) V (.m1 (.tup [(vi x1.1),(vb x1.2)]) V V (.xV V (.xV V (.aV V (.aV V (.na H fun H => (.then (.tR 2 V H fun b3 σ H => ?_))))))));refine .mV V (.tV V (.na H fun H => ?_));refine .wh h V ?_ ?_ <;> intro h
 ·refine .tR 2 V H fun b4 σ H => (.aV V (.aV V (.na H fun H => (.ret ?_))));obtain rfl:=sj h;exact Ends.eR V
 refine .skip (.tR 8 V H fun b5 σ H => (.LV (vF f) H 0 V (.mV V ?_)));obtain ⟨x2,q2,h⟩:=bs h;refine .cV (ZEE q2) V (.m1 (.tup [(vi x2.1),(vb x2.2)]) V V (.xV V (.xV V (.aV V (.aV V (.na H fun H => (.then (.tR 2 V H fun b6 σ H => ?_))))))));refine .mV V (.tV V (.na H fun H => ?_));refine .wh h V ?_ ?_ <;> intro h
 ·refine .tR 2 V H fun b7 σ H => (.aV V (.aV V (.na H fun H => (.ret ?_))));obtain rfl:=sj h;exact Ends.eR V
 refine .skip (.tR 5 V H fun b8 σ H => (.mV V (.mV V (.iV V (.aV V (.aV V (.na H fun H => (.ret ?_))))))));obtain rfl:=sj h;exact Ends.eR V
theorem tag_met_fn {n:Net} {c:Con} {ticks:(List Int)} {r:Bool} (h:Z5U n c ticks = some r):Fn CX 65 [(.agg (vs (Net.cs n))),(.agg (vs (Con.cs c))),(vl (cI .i64) ticks)] (vb r):=by
 refine Fn.go Tryz.func65 V fun σ H => ?_;unfold Z5U at h;refine .tR 3 V H fun b1 σ H => (.bxc (cs:=(vN n)) H V V V fun σ H => (.bxc (cs:=(vC c)) H V V V fun σ H => (.aV V (.na H fun H => (.then (.Z0T 22 V (by kernel_rfl) H fun b2 σ H B2 => (.Z2 H 1 V V V V V (so (B2 1 _ V _ V)) V (.ld (vl Form.cs n.Forms) H 1 V V V V V (so (B2 1 _ V _ V)) V ?_))))))));refine .Z2 H 0 V V V V V (so (B2 0 _ V _ V)) V (.ld (vi c.Form) H 0 V V V V V (so (B2 0 _ V _ V)) V ?_);obtain ⟨x1,q1,h⟩:=bs h;refine .jV q1 V (.qV [(.int .i64 x1.Period),(.int .i64 x1.Count),(.sl (x1.Core.map (cL Span.cs))),(.sl (x1.Odd.map Granule.cs))] V (.mV V (.Z2 H 0 V V V V V (so (B2 0 _ V _ V)) V (.ld (vi c.X) H 0 V V V V V (so (B2 0 _ V _ V)) V ?_))));obtain ⟨x2,q2,h⟩:=bs h;refine .jV q2 V (.pV V (.mV V (.Z2 H 0 V V V V V (so (B2 0 _ V _ V)) V (.ld (vi c.Y) H 0 V V V V V (so (B2 0 _ V _ V)) V ?_))));obtain ⟨x3,q3,h⟩:=bs h
 refine .jV q3 V (.pV V ?_);obtain ⟨x4,q4,h⟩:=bs h;refine .cV (ZD6 q4) V (.m1 (.tup [(vi x4.1),(vb x4.2)]) V V (.xV V (.xV V (.aV V (.aV V (.na H fun H => (.then ?_)))))));obtain ⟨y1,hj1,h⟩:=bs h;refine .mono (Q:=fun x e σ => (∃ a1,y1 = (.go a1)∧x = .normal∧Z5 e []∧Hs σ [])∨(∃ r',y1 = (.ret r')∧x = .ret∧Ends CX Tryz.f65.results.toList (vb r') x e σ)) ?_ ?_
 ·replace h:=hj1;refine .tR 4 V H fun b3 σ H => (.fV H 0 V (.LV (vR c.Range) H 0 V (.alc (cs:=[(vi 0),(vi 0),(vb false),(vb false)]) H V V fun σ H => (.sV (vR c.Range) H 0 V fun σ H => (.na H fun H => (.inBlock ?_))))));obtain ⟨y2,hj2,h⟩:=bs h;refine .mono (Q:=fun x e σ => (∃ a2,y2 = (.go a2)∧x = .normal∧Z5 e []∧Hs σ [])∨(∃ r',y2 = (.ret r')∧x = .ret∧Ends CX Tryz.f65.results.toList (vb r') x e σ)) ?_ ?_
  ·replace h:=hj2;refine .then ?_;refine .jn h .normal (fun y3 => [(32,(vb y3))]) (fun y3 => []) (fun y3 h => ?_) fun y3 e σ H h => ?_
   ·refine .tR 3 V H fun b4 σ H => (.mV V (.tV V (.aV V (.na H fun H => ?_))));refine .wh h V ?_ ?_ <;> intro h
    ·refine .skip ?_;obtain rfl:=sj h;exact ⟨V,EI V,(((H.erase 2).erase 1).erase 0)⟩
    refine .tR 9 V H fun b5 σ H => (.fV H 0 V (.lV H 0 V (.mV V ?_)));refine .md H 5 [(42,(vb (c.Range.HasLow && (decide (x4.1 < c.Range.Low))))),(7,(vi x4.1)),(9,(.ptr (b3 + 2) 4 0))] [.blk (b3 + 2) 27 (vR c.Range)] V ?_ fun e σ H => ?_
    ·refine .split V V ?_ ?_ <;> intro hc2
     ·refine .mV V (.fV H 0 V (.lV H 0 V (.iV V (.kT V (.nil ?_)))));exact ⟨⟨Z0r hc2,V,V,U⟩,((H.erase 2).erase 1).wk (by omega)⟩
     ·refine .ps 4 V (.kF V (.nil ?_));exact ⟨⟨Z0s hc2,V,V,U⟩,((H.erase 2).erase 1).wk (by omega)⟩
    refine .aV V (.na H fun H => ?_);refine .wh h V ?_ ?_ <;> intro h
    ·refine .skip ?_;obtain rfl:=sj h;exact ⟨V,EI V,(H.erase 0)⟩
    refine .Z7 9 V H fun b6 σ H => (.fV H 0 V (.lV H 0 V (.mV V ?_)));refine .md H 5 [(50,(vb (c.Range.HasHigh && (decide (x4.1 > c.Range.High)))))] [] V ?_ fun e σ H => ?_
    ·refine .split V V ?_ ?_ <;> intro hc4
     ·refine .mV V (.fV H 0 V (.lV H 0 V (.iV V (.kT V (.nil ?_)))));exact ⟨⟨Z0r hc4,U⟩,(H.erase 0).wk (by omega)⟩
     ·refine .ps 4 V (.kF V (.nil ?_));exact ⟨⟨Z0s hc4,U⟩,(H.erase 0).wk (by omega)⟩
    refine .aV V (.na H fun H => ?_);obtain rfl:=sj h;exact ⟨V,EI V,H⟩
   refine .wh h V ?_ ?_ <;> intro h
   ·refine .tR 1 V H fun b7 σ H => (.aV V (.na H fun H => (.ret ?_)));obtain rfl:=sj h;exact (.inr ⟨_,V,V,(Ends.H (xs:=[(vb false)]) (.inr V) H (.tmp (v:=(vb false)) V .nil) (.one (.c (.v _))))⟩)
   refine .skip ?_;obtain rfl:=sj h;exact (.inl ⟨_,V,V,U,H⟩)
  ·rintro x e σ (⟨a3,rfl,rfl,he,H⟩ | ⟨r',rfl,rfl,hE⟩)
   ·replace h:=jgo h;obtain ⟨e,rfl⟩:=he.ex;obtain rfl:=sj h;exact (.inl ⟨_,V,V,U,H⟩)
   ·replace h:=jret h;obtain rfl:=sj h;exact (.inr ⟨_,V,V,hE⟩)
 ·rintro x e σ (⟨a4,rfl,rfl,he,H⟩ | ⟨r',rfl,rfl,hE⟩)
  ·replace h:=jgo h;obtain ⟨e,rfl⟩:=he.ex;refine .tR 1 V H fun b8 σ H => (.aV V (.na H fun H => (.ret ?_)));obtain rfl:=sj h;exact Ends.eR V
  ·replace h:=jret h;obtain rfl:=sj h;exact hE
theorem ZBh {p1':Net} {p2':(List Int)} {S:Type} {C:S→List Res→Prop} {yield:S→Int→Option (S × Bool)} {yid:Nat} {id0':Nat} {id1':Nat} (hy:YldH CX yid C (fun z => [(vi z)]) yield) (hcap:∀ s L,C s L→Sub [.blk id0' 25 (vN p1'),.blk id1' 44 [(vl (cI .i64) p2')]] L) {st' r:S} (h:Z14 p1' p2' yield st' = some r):ItF CX 64 [(.yld yid),(.ptr id0' 3 0),(.ptr id1' 1 0)] C st' r:=by
 refine ItF.of Tryz.func64 V V V V V V V V ?_;intro σ L hC H;have hc0:=hcap _ _ hC;obtain ⟨k0',hk0',hc0⟩:=hc0.inv;obtain ⟨k1',hk1',hc0⟩:=hc0.inv;unfold Z14 at h;refine .tR 4 V H fun b1 σ H => (.Z2 H k0' hk0' V V V V nofun V (.ld (vl Con.cs p1'.Cons) H k0' hk0' V V V V nofun V (.nV V (.mV V (.na H fun H => (.inBlock ?_))))));obtain ⟨y1,hj1,h⟩:=bs h;obtain ⟨n1,hj1⟩:=ZW.1 hj1;refine .mono (Runs.loopO hj1 (fun s1 e σ => ∃ (L:List Res),C s1.2 L∧Z5 e [(0,(.yld yid)),(1,(.ptr id0' 3 0)),(2,(.ptr id1' 1 0)),(7,(vl Con.cs p1'.Cons)),(8,(vi (p1'.Cons.length:Int))),(9,(vi s1.1))]∧Hs σ (L)) (fun y1 x e σ => (∃ a1,∃ (L:List Res),C a1 L∧y1 = (.go a1)∧x = .exit 0∧Z5 e []∧Hs σ (L))∨(∃ r',y1 = (.ret r')∧x = .ret∧EndsI C r' x e σ)) ⟨_,hC,EI V,H⟩ ?_) ?_
 ·intro s1 e σ hI z h;obtain ⟨L,hC,he,H⟩:=hI;obtain ⟨e,rfl⟩:=he.ex;have hc0:=hcap _ _ hC;obtain ⟨k0',hk0',hc0⟩:=hc0.inv;obtain ⟨k1',hk1',hc0⟩:=hc0.inv;unfold Z14.s0 at h;refine .tR 1 V H fun b2 σ H => (.iV V (.na H fun H => (.then ?_)));refine .wh h V ?_ ?_ <;> intro h
  ·refine .skip (.then (.inBlock (.tR 6 V H fun b3 σ H => (.mV V ?_))));obtain ⟨x1,q1,h⟩:=bs h;refine .jV q1 V (.qV [(.int .i64 x1.X),(.int .i64 x1.Y),(.int .i64 x1.Form),(.int .i64 x1.Range.Low),(.int .i64 x1.Range.High),(.bool x1.Range.HasLow),(.bool x1.Range.HasHigh)] V (.alc (cs:=[(vi 0),(vi 0),(vi 0),(vi 0),(vi 0),(vb false),(vb false)]) H V V fun σ H => (.aV V (.sV (vC x1) H 0 V fun σ H => (.na H fun H => (.tR 11 V H fun b4 σ H => (.Z3u (cs:=(vN p1')) H (k0' + 1) hk0' V V V V V V nofun V (.LV (vC x1) H 0 V ?_))))))));refine .ld (vl (cI .i64) p2') H (k1' + 1) hk1' V V V V nofun V ?_;obtain ⟨x2,q2,h⟩:=bs h;refine .cV (tag_met_fn q2) V (.tV V (.mV V ?_));obtain ⟨y2,hj2,h⟩:=bs h;refine .mid 5 (K1:=fun e σ => ∃ L,C y2.2 L∧Z5 e [(24,(vb y2.1)),(0,(.yld yid)),(1,(.ptr id0' 3 0)),(2,(.ptr id1' 1 0)),(7,(vl Con.cs p1'.Cons)),(8,(vi (p1'.Cons.length:Int))),(9,(vi s1.1))]∧Hs σ (L)) V ?_ ?_
   ·refine .sp hj2 V ?_ ?_ <;> intro h
    ·refine .m1 (.yld yid) V V (.mV V (.wt V V ?_));obtain ⟨x3,q3,h⟩:=bs h;refine .callY (z:=s1.1) (s':=x3.1) (b:=x3.2) [.blk (b3 + 3) 42 (vC x1)] H hC V V hy q3 V V fun σ L hC H => ?_;have hc0:=hcap _ _ hC;obtain ⟨k0',hk0',hc0⟩:=hc0.inv;obtain ⟨k1',hk1',hc0⟩:=hc0.inv;refine .tV V (.kT V (.nil ?_));obtain rfl:=sj h;exact ⟨_,hC,EI V,(H.erase 0).all⟩
    refine .ps 4 V (.kF V (.nil ?_));obtain rfl:=sj h;exact ⟨_,hC,EI V,(H.erase 0).all⟩
   ·rintro e σ ⟨L,hC,he,H⟩;obtain ⟨e,rfl⟩:=he.ex;have hc0:=hcap _ _ hC;obtain ⟨k0',hk0',hc0⟩:=hc0.inv;obtain ⟨k1',hk1',hc0⟩:=hc0.inv;refine .na H fun H => ?_;refine .wh h V ?_ ?_ <;> intro h
    ·refine .ret ?_;obtain rfl:=sj h;exact ⟨nofun,(.inr ⟨_,V,V,(EndsI.H (.inr V) H 0 V hC)⟩)⟩
    refine .skip (.Z7 2 V H fun b5 σ H => (.iV V (.mV V (.na H fun H => ?_))));obtain rfl:=sj h;exact ⟨V,_,hC,EI V,H⟩
  refine .exit ?_;obtain rfl:=sj h;exact ⟨nofun,(.inl ⟨_,_,hC,V,V,U,H⟩)⟩
 ·rintro x e σ (⟨a2,L,hC,rfl,rfl,he,H⟩ | ⟨r',rfl,rfl,hE⟩)
  ·replace h:=jgo h;obtain ⟨e,rfl⟩:=he.ex;have hc0:=hcap _ _ hC;obtain ⟨k0',hk0',hc0⟩:=hc0.inv;obtain ⟨k1',hk1',hc0⟩:=hc0.inv;obtain rfl:=sj h;exact (EndsI.H (.inl V) H 0 V hC)
  ·replace h:=jret h;obtain rfl:=sj h;exact hE
theorem ZB1 {n:Net} {ticks:(List Int)} {r:Bool} (h:Z09 n ticks = some r):Fn CX 14 [(.agg (vs (Net.cs n))),(vl (cI .i64) ticks)] (vb r):=by
 refine Fn.go Tryz.func14 V fun σ H => ?_;unfold Z09 at h;refine .tR 2 V H fun b1 σ H => (.bxc (cs:=(vN n)) H V V V fun σ H => (.alc (cs:=[(vb false)]) H V V fun σ H => (.na H fun H => (.then (.tR 4 V H fun b2 σ H => (.LV (vN n) H 1 V (.mV V ?_)))))));obtain ⟨x1,q1,h⟩:=bs h;refine .cV (tag_own_fn q1) V (.tV V (.na H fun H => ?_));refine .wh h V ?_ ?_ <;> intro h
 ·refine .tR 1 V H fun b3 σ H => (.sV [(vb false)] H 0 V fun σ H => (.na H fun H => (.ret ?_)));obtain rfl:=sj h;exact (Ends.H (xs:=[(vb false)]) (.inr V) H (.cell (v:=(vb false)) 0 V V V V V .nil) (.one (.c (.v _))))
 refine .skip (.then (.tR 3 V H fun b4 σ H => (.LV (vN n) H 1 V (.mV V ?_))));refine .callO (ys:=[(.agg (vs (Net.cs n))),(vl (cI .i64) ticks)]) rfl (ZDS H) nofun rfl ?_;rintro _ σ ⟨id1,id2,rfl,H⟩;refine .na H fun H => (.inBlock ?_);replace H:=(H.erase 3);obtain ⟨y1,hj1,h⟩:=bs h;refine .rangeH H rfl (fun s1 M => M = [.blk id1 44 [(vl (cI .i64) ticks)],.blk id2 25 (vN n),.blk (b1 + 1) 4 [(vb false)]]) (fun z1 => [(vi z1)]) Z09.b0 (fun p => if p = 0 then none else some .ret) rfl (fun p => by (repeat' split) <;> exact ⟨_,rfl⟩) (r:=y1) rfl (fun _ => rfl) (fun _ => rfl) ?_ (fun id hy => ZBh hy (fun s L hL => by obtain ⟨M,hM,rfl⟩:=hL;obtain rfl:=hM;exact (.cons 2 rfl (.cons 1 rfl .nil))) hj1) ?_
 ·intro R0 R1 s1 z1 s' p h σ M O hM H;obtain rfl:=hM;unfold Z09.b0 at h;refine .env [(12,(vi z1)),(4,(.ptr (b1 + 1) 1 0)),(11,(.clo 64 [] [(.ptr id2 3 0),(.ptr id1 1 0)]))] (EI V) fun e => (.skip ?_);refine ⟨V,[.blk id1 44 [(vl (cI .i64) ticks)],.blk id2 25 (vN n),.blk (b1 + 1) 4 [(vb false)]],H,?_⟩;intro σ H;refine .inBlock (.tR 1 V H fun b5 σ H => (.sV [(vb false)] H 3 V fun σ H => (.na H fun H => (.ret ?_))));obtain ⟨rfl,rfl⟩:=Prod.mk.inj (Option.some.inj h);exact ⟨⟨V,(iff_of_false nofun nofun)⟩,_,V,H⟩
 ·intro x σ M hx hM H;obtain rfl:=hM;cases hc0_:(y1.2 == 0)
  ·replace h:=cond_F hc0_ h;have hx:x = .ret:=by simpa [ne_of_beq_false hc0_,Z7j] using hx.symm
   subst hx;obtain rfl:=sj h;exact (Ends.H (xs:=[(vb false)]) (.inr V) H (.cell (v:=(vb false)) 2 V V V V V .nil) (.one (.c (.v _))))
  ·replace h:=cond_T hc0_ h;have hx:x = .normal:=by rw [eq_of_beq hc0_] at hx;exact (Option.some.inj hx).symm
   subst hx;refine .tR 1 V H fun b6 σ H => (.sV [(vb true)] H 2 V fun σ H => (.na H fun H => (.ret ?_)));obtain rfl:=sj h;exact (Ends.H (xs:=[(vb true)]) (.inr V) H (.cell (v:=(vb true)) 2 V V V V V .nil) (.one (.c (.v _))))
theorem stp_Holds_fn {d:(List (List Bound))} {ticks:(List Int)} {r:Bool} (h:Zp d ticks = some r):Fn CX 15 [(vl (cL Bound.cs) d),(vl (cI .i64) ticks)] (vb r):=by
 refine Fn.go Tryz.func15 V fun σ H => ?_;unfold Zp at h;refine .tR 1 V H fun b1 σ H => (.aV V (.na H fun H => (.then (.tR 10 V H fun b2 σ H => (.mV V ?_)))));obtain ⟨x1,q1,h⟩:=bs h;refine .cV (ZAq q1) V (.tV V (.mV V ?_));refine .md H 6 [(20,(vb ((!x1) || ((ticks.length:Int) != (d.length:Int))))),(0,(vl (cL Bound.cs) d)),(1,(vl (cI .i64) ticks))] [] rfl ?_ fun e σ H => ?_
 ·refine .split V V ?_ ?_ <;> intro hc1
  ·refine .ps 5 V (.kT V (.nil ?_));exact ⟨⟨or_T hc1,V,V,U⟩,H.wk (by omega)⟩
  ·refine .mV V (.nV V (.mV V (.nV V (.iV V (.kF V (.nil ?_))))));exact ⟨⟨or_F hc1,V,V,U⟩,H.wk (by omega)⟩
 refine .na H fun H => ?_;refine .wh h V ?_ ?_ <;> intro h
 ·refine .tR 1 V H fun b3 σ H => (.aV V (.na H fun H => (.ret ?_)));obtain rfl:=sj h;exact Ends.eR V
 refine .skip (.then (.tR 3 V H fun b4 σ H => (.mV V (.nV V (.mV V (.na H fun H => (.inBlock ?_)))))));obtain ⟨y1,hj1,h⟩:=bs h;obtain ⟨n1,hj1⟩:=ZW.1 hj1;refine .mono (Runs.loopO hj1 (fun s1 e σ => Z5 e [(1,(vl (cI .i64) ticks)),(21,(vl (cL Bound.cs) d)),(22,(vi (d.length:Int))),(23,(vi s1))]∧Hs σ []) (fun y1 x e σ => (∃ a1,y1 = (.go a1)∧x = .exit 0∧Z5 e []∧Hs σ [])∨(∃ r',y1 = (.ret r')∧x = .ret∧Ends CX Tryz.f15.results.toList (vb r') x e σ)) ⟨EI V,H⟩ ?_) ?_
 ·intro s1 e σ hI z h;obtain ⟨he,H⟩:=hI;obtain ⟨e,rfl⟩:=he.ex;unfold Zp.s0 at h;refine .tR 1 V H fun b5 σ H => (.iV V (.na H fun H => (.then ?_)));refine .wh h V ?_ ?_ <;> intro h
  ·refine .skip (.then (.inBlock (.tR 5 V H fun b6 σ H => (.mV V ?_))));obtain ⟨x2,q2,h⟩:=bs h;refine .jV q2 V (.pV V (.aV V (.aV V (.na H fun H => (.tR 3 V H fun b7 σ H => (.mV V (.nV V (.mV V ?_))))))));refine .na H fun H => (.inBlock ?_);obtain ⟨y2,hj2,h⟩:=bs h;obtain ⟨n2,hj2⟩:=ZW.1 hj2;refine .mono (Runs.loopO hj2 (fun s2 e σ => Z5 e [(1,(vl (cI .i64) ticks)),(5,(vi s1)),(21,(vl (cL Bound.cs) d)),(22,(vi (d.length:Int))),(23,(vi s1)),(28,(vl Bound.cs x2)),(29,(vi (x2.length:Int))),(30,(vi s2))]∧Hs σ []) (fun y2 x e σ => (∃ a2,y2 = (.go a2)∧x = .exit 2∧Z5 e [(1,(vl (cI .i64) ticks)),(21,(vl (cL Bound.cs) d)),(22,(vi (d.length:Int))),(23,(vi s1))]∧Hs σ [])∨(∃ r',y2 = (.ret r')∧x = .ret∧Ends CX Tryz.f15.results.toList (vb r') x e σ)) ⟨EI V,H⟩ ?_) ?_
   ·intro s2 e σ hI z h;obtain ⟨he,H⟩:=hI;obtain ⟨e,rfl⟩:=he.ex;unfold Zp.s1 at h;refine .tR 1 V H fun b8 σ H => (.iV V (.na H fun H => (.then ?_)));refine .wh h V ?_ ?_ <;> intro h
    ·refine .skip (.then ?_);obtain ⟨y3,hj3,h⟩:=bs h;refine .mono (Q:=fun x e σ => (∃ a3,y3 = (.go a3)∧x = .normal∧Z5 e [(1,(vl (cI .i64) ticks)),(5,(vi s1)),(21,(vl (cL Bound.cs) d)),(22,(vi (d.length:Int))),(23,(vi s1)),(28,(vl Bound.cs x2)),(29,(vi (x2.length:Int))),(30,(vi s2))]∧Hs σ [])∨(∃ r',y3 = (.ret r')∧x = .ret∧Ends CX Tryz.f15.results.toList (vb r') x e σ)) ?_ ?_
     ·replace h:=hj3;refine .inBlock ?_;obtain ⟨y4,hj4,h⟩:=bs h;refine .mono (Q:=fun x e σ => (∃ a4,y4 = (.go a4)∧x = .normal∧Z5 e [(1,(vl (cI .i64) ticks)),(5,(vi s1)),(21,(vl (cL Bound.cs) d)),(22,(vi (d.length:Int))),(23,(vi s1)),(28,(vl Bound.cs x2)),(29,(vi (x2.length:Int))),(30,(vi s2))]∧Hs σ [])∨(∃ r',y4 = (.ret r')∧x = .ret∧Ends CX Tryz.f15.results.toList (vb r') x e σ)) ?_ ?_
      ·replace h:=hj4;refine .tR 6 V H fun b9 σ H => (.mV V ?_);obtain ⟨x3,q3,h⟩:=bs h;refine .jV q3 V (.qV [(.int .i8 x3.Inf),(.int .i64 x3.N)] V (.alc (cs:=[(.v (.int .i8 0)),(vi 0)]) H V V fun σ H => (.aV V (.sV [(.v (.int .i8 x3.Inf)),(vi x3.N)] H 0 V fun σ H => (.na H fun H => (.then (.Z0T 14 V (by kernel_rfl) H fun b10 σ H B10 => (.mV V ?_))))))));refine .mV V ?_;obtain ⟨x4,q4,h⟩:=bs h;refine .jV q4 V (.pV V (.mV V (.mV V ?_)));obtain ⟨x5,q5,h⟩:=bs h;refine .jV q5 V (.pV V (.cV (ZCe V) V (.m1 (.tup [(vi (Z0U x4 x5).1),(vi (Z0U x4 x5).2)]) V V (.xV V (.xV V (.aV V (.aV V (.na H fun H => ?_))))))));refine .inBlock ?_;obtain ⟨y5,hj5,h⟩:=bs h;refine .mono (Q:=fun x e σ => (∃ a5,y5 = (.go a5)∧x = .normal∧Z5 e [(1,(vl (cI .i64) ticks)),(5,(vi s1)),(21,(vl (cL Bound.cs) d)),(22,(vi (d.length:Int))),(23,(vi s1)),(28,(vl Bound.cs x2)),(29,(vi (x2.length:Int))),(30,(vi s2))]∧Hs σ [])∨(∃ r',y5 = (.ret r')∧x = .ret∧Ends CX Tryz.f15.results.toList (vb r') x e σ)) ?_ ?_
       ·replace h:=hj5;refine .tR 4 V H fun b11 σ H => (.fV H 0 V (.lV H 0 V (.iV V (.aV V (.na H fun H => ?_)))));refine .wh h V ?_ ?_ <;> intro h
        ·refine .skip ?_;obtain rfl:=sj h;exact (.inl ⟨_,V,V,EI V,(H.erase 0)⟩)
        refine .then ?_;refine .jn h .normal (fun y6 => [(1,(vl (cI .i64) ticks)),(5,(vi s1)),(21,(vl (cL Bound.cs) d)),(22,(vi (d.length:Int))),(23,(vi s1)),(28,(vl Bound.cs x2)),(29,(vi (x2.length:Int))),(30,(vi s2)),(51,(vb y6))]) (fun y6 => []) (fun y6 h => ?_) fun y6 e σ H h => ?_
        ·refine .then (.Z0T 14 V (by kernel_rfl) H fun b12 σ H B12 => (.mV V (.iV V (.mV V ?_))));obtain ⟨y7,hj7,h⟩:=bs h;refine .md H 10 [(64,(vb y7)),(1,(vl (cI .i64) ticks)),(5,(vi s1)),(8,(.ptr (b9 + 3) 2 0)),(9,(vi (Z0U x4 x5).1)),(10,(vi (Z0U x4 x5).2)),(21,(vl (cL Bound.cs) d)),(22,(vi (d.length:Int))),(23,(vi s1)),(28,(vl Bound.cs x2)),(29,(vi (x2.length:Int))),(30,(vi s2))] [.blk (b9 + 3) 57 [(.v (.int .i8 x3.Inf)),(vi x3.N)]] V ?_ fun e σ H => ?_
         ·refine .sp hj7 V ?_ ?_ <;> intro h
          ·refine .mV V (.mV V (.wt V V ?_));obtain ⟨x6,q6,h⟩:=bs h;refine .jV q6 V (.pV V (.mV V (.mV V (.wt V V ?_))));obtain ⟨x7,q7,h⟩:=bs h;refine .jV q7 V (.pV V (.iV V (.kT V (.nil ?_))));obtain rfl:=sj h;exact ⟨EI V,H.wk (by omega)⟩
          refine .ps 9 V (.kF V (.nil ?_));obtain rfl:=sj h;exact ⟨EI V,H.wk (by omega)⟩
         refine .aV V (.na H fun H => ?_);refine .wh h V ?_ ?_ <;> intro h
         ·refine .skip ?_;obtain rfl:=sj h;exact ⟨V,EI V,(H.erase 0)⟩
         refine .Z7 9 V H fun b13 σ H => (.mV V (.iV V (.mV V ?_)));refine .md H 5 [(72,(vb ((((Z0U x4 x5).2) == 0) && (decide (((Z0U x4 x5).1) > x3.N))))),(1,(vl (cI .i64) ticks)),(5,(vi s1)),(21,(vl (cL Bound.cs) d)),(22,(vi (d.length:Int))),(23,(vi s1)),(28,(vl Bound.cs x2)),(29,(vi (x2.length:Int))),(30,(vi s2))] [] V ?_ fun e σ H => ?_
         ·refine .split V V ?_ ?_ <;> intro hc8
          ·refine .mV V (.fV H 0 V (.lV H 0 V (.iV V (.kT V (.nil ?_)))));exact ⟨⟨Z0r hc8,V,V,V,V,V,V,V,V,U⟩,(H.erase 0).wk (by omega)⟩
          ·refine .ps 4 V (.kF V (.nil ?_));exact ⟨⟨Z0s hc8,V,V,V,V,V,V,V,V,U⟩,(H.erase 0).wk (by omega)⟩
         refine .aV V (.na H fun H => ?_);obtain rfl:=sj h;exact ⟨V,EI V,H⟩
        refine .wh h V ?_ ?_ <;> intro h
        ·refine .tR 1 V H fun b14 σ H => (.aV V (.na H fun H => (.ret ?_)));obtain rfl:=sj h;exact (.inr ⟨_,V,V,(Ends.H (xs:=[(vb false)]) (.inr V) H (.tmp (v:=(vb false)) V .nil) (.one (.c (.v _))))⟩)
        refine .skip ?_;obtain rfl:=sj h;exact (.inl ⟨_,V,V,EI V,H⟩)
       ·rintro x e σ (⟨a6,rfl,rfl,he,H⟩ | ⟨r',rfl,rfl,hE⟩)
        ·replace h:=jgo h;obtain ⟨e,rfl⟩:=he.ex;obtain rfl:=sj h;exact (.inl ⟨_,V,V,EI V,H⟩)
        ·replace h:=jret h;obtain rfl:=sj h;exact (.inr ⟨_,V,V,hE⟩)
      ·rintro x e σ (⟨a7,rfl,rfl,he,H⟩ | ⟨r',rfl,rfl,hE⟩)
       ·replace h:=jgo h;obtain ⟨e,rfl⟩:=he.ex;obtain rfl:=sj h;exact (.inl ⟨_,V,V,EI V,H⟩)
       ·replace h:=jret h;obtain rfl:=sj h;exact (.inr ⟨_,V,V,hE⟩)
     ·rintro x e σ (⟨a8,rfl,rfl,he,H⟩ | ⟨r',rfl,rfl,hE⟩)
      ·replace h:=jgo h;obtain ⟨e,rfl⟩:=he.ex;refine .Z7 2 V H fun b15 σ H => (.iV V (.mV V (.na H fun H => ?_)));obtain rfl:=sj h;exact ⟨V,EI V,H⟩
      ·replace h:=jret h;obtain rfl:=sj h;exact ⟨nofun,(.inr ⟨_,V,V,hE⟩)⟩
    refine .exit ?_;obtain rfl:=sj h;exact ⟨nofun,(.inl ⟨_,V,V,EI V,H⟩)⟩
   ·rintro x e σ (⟨a9,rfl,rfl,he,H⟩ | ⟨r',rfl,rfl,hE⟩)
    ·replace h:=jgo h;obtain ⟨e,rfl⟩:=he.ex;refine .Z7 2 V H fun b16 σ H => (.iV V (.mV V (.na H fun H => ?_)));obtain rfl:=sj h;exact ⟨V,EI V,H⟩
    ·replace h:=jret h;obtain rfl:=sj h;exact ⟨nofun,(.inr ⟨_,V,V,hE⟩)⟩
  refine .exit ?_;obtain rfl:=sj h;exact ⟨nofun,(.inl ⟨_,V,V,U,H⟩)⟩
 ·rintro x e σ (⟨a10,rfl,rfl,he,H⟩ | ⟨r',rfl,rfl,hE⟩)
  ·replace h:=jgo h;obtain ⟨e,rfl⟩:=he.ex;refine .tR 1 V H fun b17 σ H => (.aV V (.na H fun H => (.ret ?_)));obtain rfl:=sj h;exact Ends.eR V
  ·replace h:=jret h;obtain rfl:=sj h;exact hE
theorem Z7o {n:Net} {ticks:(List Int)} {rounds:Int} {r:Bool} (h:Z2S n ticks rounds = some r):Fn CX 4 [(.agg (vs (Net.cs n))),(vl (cI .i64) ticks),(.v (.int .u8 rounds))] (vb r):=by
 refine Fn.go Tryz.func4 V fun σ H => ?_;unfold Z2S at h;refine .tR 2 V H fun b1 σ H => (.bxc (cs:=(vN n)) H V V V fun σ H => (.aV V (.na H fun H => (.then (.tR 3 V H fun b2 σ H => (.LV (vN n) H 0 V ?_))))));obtain ⟨x1,q1,h⟩:=bs h;refine .cV (ZBQ q1) V (.tV V (.na H fun H => ?_));refine .wh h V ?_ ?_ <;> intro h
 ·refine .tR 2 V H fun b3 σ H => (.cV (Z3v V) V (.aV V (.na H fun H => (.ret ?_))));obtain rfl:=sj h;exact Ends.eR V
 refine .skip (.tR 4 V H fun b4 σ H => (.LV (vN n) H 0 V (.mV V ?_)));obtain ⟨x2,q2,h⟩:=bs h;refine .cV (Z9r q2) V (.aV V (.na H fun H => (.tR 4 V H fun b5 σ H => (.LV (vN n) H 0 V (.mV V ?_)))));obtain ⟨x3,q3,h⟩:=bs h;refine .cV (ZB1 q3) V (.aV V (.na H fun H => (.tR 12 V H fun b6 σ H => (.LV (vN n) H 0 V (.mV V (.rem (m:=rounds) (m':=20) V V (by decide) V (.conv (m:=(rounds.tmod 20)) V V V V (.iV V ?_))))))));obtain ⟨x4,q4,h⟩:=bs h;refine .cV (Z7A q4) V (.m1 (.tup [(.agg [(.v (.int .u8 x4.1.Kind)),(vi x4.1.Net.Vars),(vl Form.cs x4.1.Net.Forms),(vl Con.cs x4.1.Net.Cons),(vl (cL Bound.cs) x4.1.Ticks),(vi x4.1.Rounds)]),(vi x4.2)]) V V (.xV V (.xV V (.alc (cs:=[(.v (.int .u8 0)),(vi 0),.nils,.nils,.nils,(vi 0)]) H V V fun σ H => (.sV [(.v (.int .u8 x4.1.Kind)),(vi x4.1.Net.Vars),(vl Form.cs x4.1.Net.Forms),(vl Con.cs x4.1.Net.Cons),(vl (cL Bound.cs) x4.1.Ticks),(vi x4.1.Rounds)] H 0 V fun σ H => (.aV V (.na H fun H => (.then ?_))))))));refine .tR 16 V H fun b7 σ H => (.mV V (.iV V (.mV V ?_)));refine .md H 4 [(36,(vb ((x4.2 != 0) || (decide (x4.1.Rounds < 1))))),(2,(.v (.int .u8 rounds))),(7,(vl (cI .i64) x2)),(8,(vb x3)),(9,(.ptr (b6 + 9) 6 0))] [.blk (b6 + 9) 34 [(.v (.int .u8 x4.1.Kind)),(vi x4.1.Net.Vars),(vl Form.cs x4.1.Net.Forms),(vl Con.cs x4.1.Net.Cons),(vl (cL Bound.cs) x4.1.Ticks),(vi x4.1.Rounds)]] rfl ?_ fun e σ H => ?_
 ·refine .split V V ?_ ?_ <;> intro hc2
  ·refine .ps 3 V (.kT V (.nil ?_));exact ⟨⟨or_T hc2,V,V,V,V,U⟩,(H.erase 1).wk (by omega)⟩
  ·refine .fV H 0 V (.lV H 0 V (.iV V (.kF V (.nil ?_))));exact ⟨⟨or_F hc2,V,V,V,V,U⟩,(H.erase 1).wk (by omega)⟩
 refine .mV V ?_;refine .md H 8 [(45,(vb (((x4.2 != 0) || (decide (x4.1.Rounds < 1))) || (decide (x4.1.Rounds > (w64 (1 + (w64 (rounds.tmod 20))))))))),(2,(.v (.int .u8 rounds))),(7,(vl (cI .i64) x2)),(8,(vb x3)),(9,(.ptr (b6 + 9) 6 0))] [.blk (b6 + 9) 34 [(.v (.int .u8 x4.1.Kind)),(vi x4.1.Net.Vars),(vl Form.cs x4.1.Net.Forms),(vl Con.cs x4.1.Net.Cons),(vl (cL Bound.cs) x4.1.Ticks),(vi x4.1.Rounds)]] rfl ?_ fun e σ H => ?_
 ·refine .split V V ?_ ?_ <;> intro hc3
  ·refine .ps 7 V (.kT V (.nil ?_));exact ⟨⟨or_T hc3,V,V,V,V,U⟩,H.wk (by omega)⟩
  ·refine .fV H 0 V (.lV H 0 V (.mV V (.wt V V (.rem (m:=rounds) (m':=20) V V (by decide) V (.wt V V (.conv (m:=(rounds.tmod 20)) V V V V (.iV V (.iV V ?_))))))));refine .kF V (.nil ?_);exact ⟨⟨or_F hc3,V,V,V,V,U⟩,H.wk (by omega)⟩
 refine .na H fun H => ?_;refine .wh h V ?_ ?_ <;> intro h
 ·refine .tR 1 V H fun b8 σ H => (.aV V (.na H fun H => (.ret ?_)));obtain rfl:=sj h;exact Ends.eR V
 refine .skip (.then (.tR 3 V H fun b9 σ H => (.fV H 0 V (.lV H 0 V (.iV V (.na H fun H => ?_))))));refine .wh h V ?_ ?_ <;> intro h
 ·refine .tR 12 V H fun b10 σ H => (.mV V (.tV V (.mV V ?_)));refine .md H 5 [(56,(vb ((!x3) && ((x4.1.Ticks.length:Int) == 0))))] [] V ?_ fun e σ H => ?_
  ·refine .split V V ?_ ?_ <;> intro hc6
   ·refine .fV H 0 V (.lV H 0 V (.nV V (.iV V (.kT V (.nil ?_)))));exact ⟨⟨Z0r hc6,U⟩,(H.erase 0).wk (by omega)⟩
   ·refine .ps 4 V (.kF V (.nil ?_));exact ⟨⟨Z0s hc6,U⟩,(H.erase 0).wk (by omega)⟩
  refine .mV V ?_;refine .md H 2 [(59,(vb (((!x3) && ((x4.1.Ticks.length:Int) == 0)) && Zz)))] [] V ?_ fun e σ H => ?_
  ·refine .split V V ?_ ?_ <;> intro hc7
   ·refine .cV (Z3v V) V (.kT V (.nil ?_));exact ⟨⟨Z0r hc7,U⟩,H.wk (by omega)⟩
   ·refine .ps 1 V (.kF V (.nil ?_));exact ⟨⟨Z0s hc7,U⟩,H.wk (by omega)⟩
  refine .aV V (.na H fun H => (.ret ?_));obtain rfl:=sj h;exact Ends.eR V
 refine .skip (.then (.tR 12 V H fun b11 σ H => (.fV H 0 V (.LV (vN x4.1.Net) H 0 V ?_))));obtain ⟨x5,q5,h⟩:=bs h;refine .cV (Z8A q5) V (.iV V (.mV V ?_));obtain ⟨y1,hj1,h⟩:=bs h;refine .md H 7 [(71,(vb y1)),(2,(.v (.int .u8 rounds))),(7,(vl (cI .i64) x2)),(8,(vb x3)),(9,(.ptr (b6 + 9) 6 0))] [.blk (b6 + 9) 34 [(.v (.int .u8 x4.1.Kind)),(vi x4.1.Net.Vars),(vl Form.cs x4.1.Net.Forms),(vl Con.cs x4.1.Net.Cons),(vl (cL Bound.cs) x4.1.Ticks),(vi x4.1.Rounds)]] V ?_ fun e σ H => ?_
 ·refine .sp hj1 V ?_ ?_ <;> intro h
  ·refine .ps 6 V (.kT V (.nil ?_));obtain rfl:=sj h;exact ⟨EI V,H.wk (by omega)⟩
  refine .fV H 0 V (.LV (vN x4.1.Net) H 0 V (.mV V (.wt V V ?_)));obtain ⟨x6,q6,h⟩:=bs h;refine .cV (ZB1 q6) V (.mV V (.wt V V (.neB (b:=x6) (b':=x3) V V V V (.kF V (.nil ?_)))));obtain rfl:=sj h;exact ⟨EI V,H.wk (by omega)⟩
 refine .na H fun H => ?_;refine .wh h V ?_ ?_ <;> intro h
 ·refine .tR 1 V H fun b12 σ H => (.aV V (.na H fun H => (.ret ?_)));obtain rfl:=sj h;exact Ends.eR V
 refine .skip (.tR 31 V H fun b13 σ H => (.mV V (.tV V (.mV V ?_))));obtain ⟨y2,hj2,h⟩:=bs h;refine .md H 5 [(79,(vb y2)),(2,(.v (.int .u8 rounds))),(9,(.ptr (b6 + 9) 6 0))] [.blk (b6 + 9) 34 [(.v (.int .u8 x4.1.Kind)),(vi x4.1.Net.Vars),(vl Form.cs x4.1.Net.Forms),(vl Con.cs x4.1.Net.Cons),(vl (cL Bound.cs) x4.1.Ticks),(vi x4.1.Rounds)]] V ?_ fun e σ H => ?_
 ·refine .sp hj2 V ?_ ?_ <;> intro h
  ·refine .ps 4 V (.kT V (.nil ?_));obtain rfl:=sj h;exact ⟨EI V,H.wk (by omega)⟩
  refine .fV H 0 V (.lV H 0 V (.mV V (.wt V V ?_)));obtain ⟨x7,q7,h⟩:=bs h;refine .cV (stp_Holds_fn q7) V (.kF V (.nil ?_));obtain rfl:=sj h;exact ⟨EI V,H.wk (by omega)⟩
 refine .mV V ?_;refine .md H 18 [(98,(vb (y2 && ((x4.1.Kind == 1) || ((x4.1.Kind == 3) && (x4.1.Rounds == (w64 (1 + (w64 (rounds.tmod 20))))))))))] [] rfl ?_ fun e σ H => ?_
 ·refine .split V V ?_ ?_ <;> intro hc11
  ·refine .fV H 0 V (.lV H 0 V (.iV V (.mV V ?_)));refine .md H 13 [(97,(vb ((x4.1.Kind == 1) || ((x4.1.Kind == 3) && (x4.1.Rounds == (w64 (1 + (w64 (rounds.tmod 20))))))))),(80,(vb true))] [] rfl ?_ fun e σ H => ?_
   ·refine .split V V ?_ ?_ <;> intro hc12
    ·refine .ps 12 V (.kT V (.nil ?_));exact ⟨⟨or_T hc12,V,U⟩,(H.erase 0).wk (by omega)⟩
    ·refine .fV H 0 V (.lV H 0 V (.iV V (.mV V ?_)));refine .md H 8 [(96,(vb ((x4.1.Kind == 3) && (x4.1.Rounds == (w64 (1 + (w64 (rounds.tmod 20)))))))),(80,(vb true)),(84,(vb false))] [] V ?_ fun e σ H => ?_
     ·refine .split V V ?_ ?_ <;> intro hc13
      ·refine .fV H 0 V (.lV H 0 V (.mV V (.wt V V (.rem (m:=rounds) (m':=20) V V (by decide) V (.wt V V (.conv (m:=(rounds.tmod 20)) V V V V (.iV V (.iV V ?_))))))));refine .kT V (.nil ?_);exact ⟨⟨Z0r hc13,V,V,U⟩,(H.erase 0).wk (by omega)⟩
      ·refine .ps 7 V (.kF V (.nil ?_));exact ⟨⟨Z0s hc13,V,V,U⟩,(H.erase 0).wk (by omega)⟩
     refine .kF V (.nil ?_);exact ⟨⟨or_F hc12,V,U⟩,H.wk (by omega)⟩
   refine .kT V (.nil ?_);exact ⟨⟨Z0r hc11,U⟩,H.wk (by omega)⟩
  ·refine .ps 17 V (.kF V (.nil ?_));exact ⟨⟨Z0s hc11,U⟩,(H.erase 0).wk (by omega)⟩
 refine .mV V ?_;refine .md H 2 [(101,(vb ((y2 && ((x4.1.Kind == 1) || ((x4.1.Kind == 3) && (x4.1.Rounds == (w64 (1 + (w64 (rounds.tmod 20)))))))) && Zz)))] [] rfl ?_ fun e σ H => ?_
 ·refine .split V V ?_ ?_ <;> intro hc14
  ·refine .cV (Z3v V) V (.kT V (.nil ?_));exact ⟨⟨Z0r hc14,U⟩,H.wk (by omega)⟩
  ·refine .ps 1 V (.kF V (.nil ?_));exact ⟨⟨Z0s hc14,U⟩,H.wk (by omega)⟩
 refine .aV V (.na H fun H => (.ret ?_));obtain rfl:=sj h;exact Ends.eR V
end Go.Dn

namespace Go.Dn
open Go
theorem Z0N {S R:Type} {step:S→Option (S ⊕ R)} (I:S→Prop) (m:S→Nat) (post:R→Prop)
  (h:∀ s,I s→(∃ s',step s = some (.inl s')∧I s'∧m s' < m s)∨(∃ r,step s = some (.inr r)∧post r)):∀ s,I s→∃ r,loopO step s = some r∧post r:=by
 have key:∀ n s,m s = n→I s→∃ r,loopO step s = some r∧post r:=by
  intro n
  induction n using Nat.strongRecOn with
  | _ n ih =>
   intro s hm hI
   rcases h s hI with ⟨s',h1,h2,h3⟩ | ⟨r,h1,h2⟩
   ·obtain ⟨r,q1,q2⟩:=ih (m s') (by omega) s' rfl h2
    exact ⟨r,by rw [Z1k,h1];exact q1,q2⟩
   ·exact ⟨r,by rw [Z1k,h1],h2⟩
 exact fun s hI => key _ s rfl hI
theorem Z1F {S R:Type} {step:S→Option (S ⊕ R)} (I:S→R→Prop) (m:S→Nat)
  (h:∀ s r,I s r→(∃ s',step s = some (.inl s')∧I s' r∧m s' < m s)∨step s = some (.inr r)) {s:S} {r:R} (hI:I s r):loopO step s = some r:=by
 obtain ⟨r',h1,h2⟩:=Z0N (I:=fun s => I s r) m (fun r' => r' = r) (fun s hs => by
  rcases h s r hs with ⟨s',h1,h2,h3⟩ | h1
  ·exact .inl ⟨s',h1,h2,h3⟩
  ·exact .inr ⟨r,h1,rfl⟩) s hI
 rw [h1,h2]
theorem Z5m (a:Int):IntKind.i64.wrap a = (a + 9223372036854775808) % 18446744073709551616 - 9223372036854775808:=by
 simp [IntKind.wrap,IntKind.bits,IntKind.signed]
 split <;> omega
theorem Z4s (a:Int):IntKind.u64.wrap a = a % 18446744073709551616:=by
 simp [IntKind.wrap,IntKind.bits,IntKind.signed]
theorem ZAr {x:Int}:okI .i64 x ↔ -9223372036854775808≤x∧x≤9223372036854775807:=Iff.rfl
theorem okI_u8 {x:Int}:okI .u8 x ↔ 0≤x∧x≤255:=Iff.rfl
theorem Z9 {x:Int} (h : -9223372036854775808≤x∧x≤9223372036854775807):w64 x = x:=by
 unfold w64;rw [Z5m];omega
theorem ZCE:maxLen = 9223372036854775807:=rfl
theorem Z5T:room = 140737488355328:=rfl
theorem at?_lt {α:Type} {l:List α} {i:Int} (h0:0≤i) (h:i < l.length):at? l i = some (l[i.toNat]'(by omega)):=by
 unfold at?;rw [if_pos h0,Y2]
theorem at?_nat {α:Type} {l:List α} {k:Nat} (h:k < l.length):at? l (k:Int) = some l[k]:=by
 rw [at?_lt (by omega) (by omega)];rfl
theorem app?_ok {α:Type} {b:Nat} {l m:List α} (h:(l.length + m.length) * b≤room):app? b l m = some (l ++ m):=if_pos h
theorem nz?_ok {b:Int} (h:b ≠ 0):nz? b = some ():=if_neg h
theorem beq_t {a b:Int} (h:a = b):(a == b) = true:=by simp [h]
theorem beq_f {a b:Int} (h:a ≠ b):(a == b) = false:=by simp [h]
theorem bne_t {a b:Int} (h:a ≠ b):(a != b) = true:=by simp [h]
theorem bne_f {a b:Int} (h:a = b):(a != b) = false:=by simp [h]
theorem ibeq (a b:Int):(a == b) = decide (a = b):=by by_cases h:a = b <;> simp [h]
theorem ZP {p:Prop} [Decidable p] (h:p):decide p = true:=by simp [h]
theorem ZQ {p:Prop} [Decidable p] (h:¬ p):decide p = false:=by simp [h]
theorem Z9D {α:Type} (c:Bool) (a b:α):(bif c then a else b) = if c = true then a else b:=by cases c <;> rfl
theorem ZCN {α:Type} {l:List α} {good:Nat→α→Prop} (h:¬ ∀ k x,l[k]? = some x→good k x):∃ (k:Nat) (x:α),l[k]? = some x∧¬ good k x∧∀ j y,j < k→l[j]? = some y→good j y:=by
 have hex:∃ k:Nat,∃ x,l[k]? = some x∧¬ good k x:=by
  apply Classical.byContradiction;intro hn;exact h fun k x hk => Classical.byContradiction fun hg => hn ⟨k,x,hk,hg⟩
 obtain ⟨k,hk⟩:=hex
 induction k using Nat.strongRecOn with
 | _ k ih =>
  by_cases h:∃ j,j < k∧∃ x,l[j]? = some x∧¬ good j x
  ·obtain ⟨j,hj,hx⟩:=h
   exact ih j hj hx
  ·obtain ⟨x,hx,hb⟩:=hk
   exact ⟨k,x,hx,hb,fun j y hj hy => Classical.byContradiction fun hg => h ⟨j,hj,y,hy,hg⟩⟩
theorem Z2C {α R:Type} {l:List α} {step:Int→Option (Int ⊕ R)} (good:Nat→α→Prop) {no yes:R}
  (hstep:∀ (k:Nat) (x:α),l[k]? = some x→(∀ j y,j < k→l[j]? = some y→good j y)→(step (k:Int) = some (.inl ((k:Int) + 1))∧good k x)∨(step (k:Int) = some (.inr no)∧¬ good k x))
  (hend:step (l.length:Int) = some (.inr yes)):(loopO step 0 = some yes∧∀ k x,l[k]? = some x→good k x)∨(loopO step 0 = some no∧¬ ∀ k x,l[k]? = some x→good k x):=by
 by_cases hall:∀ k x,l[k]? = some x→good k x
 ·refine .inl ⟨?_,hall⟩;refine Z1F (I:=fun (s:Int) r => r = yes∧∃ k:Nat,s = k∧k≤l.length) (fun s => (l.length - s.toNat)) ?_ ⟨rfl,0,rfl,YM _⟩
  rintro s r ⟨rfl,k,rfl,hk⟩
  by_cases hlt:k < l.length
  ·rcases hstep k l[k] (Y2 hlt) (fun j y _ hy => hall j y hy) with ⟨h1,_⟩ | ⟨_,h2⟩
   ·exact .inl ⟨_,h1,⟨rfl,k + 1,by push_cast;rfl,hlt⟩,by simp;omega⟩
   ·exact absurd (hall k _ (Y2 hlt)) h2
  ·have:k = l.length:=by omega
   subst this;exact .inr hend
 ·refine .inr ⟨?_,hall⟩;obtain ⟨k0,x0,hx0,hb0,hgood⟩:=ZCN hall
  have hlt0:=(List.getElem?_eq_some_iff.1 hx0).1
  refine Z1F (I:=fun (s:Int) r => r = no∧∃ k:Nat,s = k∧k≤k0) (fun s => (l.length - s.toNat)) ?_ ⟨rfl,0,rfl,YM _⟩
  rintro s r ⟨rfl,k,rfl,hk⟩
  by_cases hlt:k < k0
  ·have hkl:k < l.length:=by omega
   rcases hstep k l[k] (Y2 hkl) (fun j y hj hy => hgood j y (by omega) hy) with ⟨h1,_⟩ | ⟨_,h2⟩
   ·exact .inl ⟨_,h1,⟨rfl,k + 1,by push_cast;rfl,hlt⟩,by simp;omega⟩
   ·exact absurd (hgood k _ hlt (Y2 hkl)) h2
  ·have:k = k0:=by omega
   subst this
   rcases hstep k x0 hx0 hgood with ⟨_,h2⟩ | ⟨h1,_⟩
   ·exact absurd h2 hb0
   ·exact .inr h1
theorem fold_loop {α A R:Type} {l:List α} {step:A × Int→Option ((A × Int) ⊕ R)} (f:A→Nat→α→A) (fin:A→R) (I:Nat→A→Prop) {a0:A} (h0:I 0 a0)
  (hgo:∀ (k:Nat) (x:α) (a:A),l[k]? = some x→I k a→step (a,(k:Int)) = some (.inl (f a k x,(k:Int) + 1))∧I (k + 1) (f a k x))
  (hend:∀ a,I l.length a→step (a,(l.length:Int)) = some (.inr (fin a))):∃ a,loopO step (a0,0) = some (fin a)∧I l.length a:=by
 obtain ⟨r,h1,a,rfl,h2⟩:=Z0N (step:=step) (I:=fun s => ∃ (k:Nat) (a:A),s = (a,(k:Int))∧k≤l.length∧I k a) (fun s => l.length - s.2.toNat) (fun r => ∃ a,r = fin a∧I l.length a) (by
  rintro s ⟨k,a,rfl,hk,hI⟩
  by_cases hlt:k < l.length
  ·obtain ⟨q1,q2⟩:=hgo k l[k] a (Y2 hlt) hI
   exact .inl ⟨_,q1,⟨k + 1,_,by push_cast;rfl,hlt,q2⟩,by simp;omega⟩
  ·have:k = l.length:=by omega
   subst this;exact .inr ⟨_,hend a hI,a,rfl,hI⟩) (a0,0) ⟨0,a0,rfl,YM _,h0⟩
 exact ⟨a,h1,h2⟩
end Go.Dn

namespace Go.Dn
open Go
def In64 (a:Int):Prop:=-9223372036854775808≤a∧a≤9223372036854775807
def Z8d (a:Int):Prop:=0≤a∧a≤18446744073709551615
def fitS (a:Int):Int × Int:=if -9223372036854775808≤a∧a≤9223372036854775807 then (a,0) else (0,10)
theorem fitS_of {a:Int} (h:In64 a):fitS a = (a,0):=if_pos h
theorem fitS_not {a:Int} (h:¬ In64 a):fitS a = (0,10):=if_neg h
theorem fit_or (x:Int):(In64 x∧fitS x = (x,0))∨(¬ In64 x∧fitS x = (0,10)):=by
 by_cases h:In64 x
 ·exact .inl ⟨h,fitS_of h⟩
 ·exact .inr ⟨h,fitS_not h⟩
theorem and32 (x:Int) (h:Z8d x):(((BitVec.ofInt 64 x &&& BitVec.ofInt 64 4294967295).toNat:Nat):Int) = x % 4294967296:=by
 obtain ⟨n,rfl⟩:=Int.eq_ofNat_of_zero_le h.1
 have hn:n < 2 ^ 64:=by have:=h.2;omega
 have h1:(BitVec.ofInt 64 (n:Int)).toNat = n:=by simp [BitVec.toNat_ofInt];omega
 have h2:(BitVec.ofInt 64 4294967295).toNat = 2 ^ 32 - 1:=by decide
 rw [BitVec.toNat_and,h1,h2,Nat.and_two_pow_sub_one_eq_mod]
 omega
theorem mul64_fact {x y:Int} (hx:Z8d x) (hy:Z8d y) :
  (x / 4294967296 * (y / 4294967296) + (x / 4294967296 * (y % 4294967296) + x % 4294967296 * (y % 4294967296) / 4294967296) / 4294967296 +
   ((x / 4294967296 * (y % 4294967296) + x % 4294967296 * (y % 4294967296) / 4294967296) % 4294967296 + x % 4294967296 * (y / 4294967296)) / 4294967296) = x * y / 18446744073709551616 ∧
  0≤x % 4294967296 * (y % 4294967296)∧x % 4294967296 * (y % 4294967296)≤18446744065119617025 ∧
  0≤x / 4294967296 * (y % 4294967296)∧x / 4294967296 * (y % 4294967296)≤18446744065119617025 ∧
  0≤x % 4294967296 * (y / 4294967296)∧x % 4294967296 * (y / 4294967296)≤18446744065119617025 ∧
  0≤x / 4294967296 * (y / 4294967296)∧x / 4294967296 * (y / 4294967296)≤18446744065119617025:=by
 have b:∀ {u v:Int},0≤u→u≤4294967295→0≤v→v≤4294967295→0≤u * v∧u * v≤18446744065119617025:=by
  intro u v h1 h2 h3 h4;exact ⟨Int.mul_nonneg h1 h3,Int.le_trans (Int.mul_le_mul h2 h4 h3 (by omega)) (by decide)⟩
 obtain ⟨hx1,hx2⟩:=hx
 obtain ⟨hy1,hy2⟩:=hy
 obtain ⟨a1,a2⟩:=b (u:=x % 4294967296) (v:=y % 4294967296) (by omega) (by omega) (by omega) (by omega)
 obtain ⟨b1,b2⟩:=b (u:=x / 4294967296) (v:=y % 4294967296) (by omega) (by omega) (by omega) (by omega)
 obtain ⟨c1,c2⟩:=b (u:=x % 4294967296) (v:=y / 4294967296) (by omega) (by omega) (by omega) (by omega)
 obtain ⟨d1,d2⟩:=b (u:=x / 4294967296) (v:=y / 4294967296) (by omega) (by omega) (by omega) (by omega)
 refine ⟨?_,a1,a2,b1,b2,c1,c2,d1,d2⟩
 have e:x * y = x / 4294967296 * (y / 4294967296) * 18446744073709551616 + (x / 4294967296 * (y % 4294967296) + x % 4294967296 * (y / 4294967296)) * 4294967296 + x % 4294967296 * (y % 4294967296):=by
  have ex:x = x / 4294967296 * 4294967296 + x % 4294967296:=by omega
  have ey:y = y / 4294967296 * 4294967296 + y % 4294967296:=by omega
  clear a1 a2 b1 b2 c1 c2 d1 d2 b hx1 hx2 hy1 hy2
  generalize x / 4294967296 = x1 at *
  generalize x % 4294967296 = x0 at *
  generalize y / 4294967296 = y1 at *
  generalize y % 4294967296 = y0 at *
  subst ex ey;simp only [Int.add_mul,Int.mul_add];have h1:x1 * 4294967296 * (y1 * 4294967296) = x1 * y1 * 18446744073709551616:=by
   rw [Y0j,Ys 4294967296,Y0j y1,← Y0j]
   rfl
  have h2:x1 * 4294967296 * y0 = x1 * y0 * 4294967296:=by rw [Y0j,Ys 4294967296,← Y0j]
  have h3:x0 * (y1 * 4294967296) = x0 * y1 * 4294967296:=by rw [← Y0j]
  rw [h1,h2,h3];omega
 rw [e]
 generalize x / 4294967296 * (y / 4294967296) = d at *
 generalize x / 4294967296 * (y % 4294967296) = b' at *
 generalize x % 4294967296 * (y / 4294967296) = c at *
 generalize x % 4294967296 * (y % 4294967296) = a at *
 omega
theorem Z9I {a b:Int} (ha:In64 a) (hb:In64 b):Zf a b = fitS (a + b):=by
 unfold In64 at ha hb
 unfold Zf fitS w64
 rw [Z5m]
 cases h:((decide ((a + b + 9223372036854775808) % 18446744073709551616 - 9223372036854775808 > a) != decide (b > 0)) && b != 0)
 ·rw [cond_false];simp only [Y0W,bne_eq_false_iff_eq,decide_eq_decide] at h
  split <;> simp only [Y3,and_true] <;> omega
 ·rw [cond_true];simp only [Y9,bne_iff_ne,ne_eq,decide_eq_decide] at h
  split <;> simp only [Y3] <;> omega
theorem ZBK {a:Int} (h:In64 a):Z1o a = a.natAbs:=by
 unfold In64 at h
 unfold Z1o
 rw [Z9D]
 simp only [decide_eq_true_eq,Z4s]
 split <;> omega
theorem inU_abs {a:Int} (h:In64 a):Z8d a.natAbs:=by unfold In64 at h;unfold Z8d;omega
theorem natAbs_prod (a b:Int):(a.natAbs:Int) * b.natAbs = (a * b).natAbs:=by rw [Int.natAbs_mul];simp
theorem mul64_eq {x y:Int} (hx:Z8d x) (hy:Z8d y):Z0I x y = (x * y / 18446744073709551616,x * y % 18446744073709551616):=by
 unfold Z0I
 have hb:∀ z:Int,z.fdiv (2 ^ 32) = z / 4294967296:=fun z => Y0E z (by decide)
 have hm:(IntKind.u64.bits) = 64:=rfl
 obtain ⟨h1,h2,h3,h4,h5,h6,h7,h8,h9⟩:=mul64_fact hx hy
 have hw:∀ z:Int,0≤z→z≤18446744073709551615→IntKind.u64.wrap z = z:=fun z q1 q2 => by rw [Z4s];omega
 simp only [hb,iAnd]
 rw [hm,and32 x hx,and32 y hy]
 have x0:0≤x % 4294967296∧x % 4294967296 < 4294967296:=by omega
 have y0:0≤y % 4294967296∧y % 4294967296 < 4294967296:=by omega
 rw [hw (x % 4294967296) (by omega) (by omega),hw (y % 4294967296) (by omega) (by omega),hw _ h2 (by omega),hw _ h4 (by omega),hw _ h6 (by omega),hw _ h8 (by omega)]
 rw [hw (x / 4294967296 * (y % 4294967296) + x % 4294967296 * (y % 4294967296) / 4294967296) (by omega) (by omega)]
 rw [and32 _ ⟨by omega,by omega⟩]
 have t0:0≤(x / 4294967296 * (y % 4294967296) + x % 4294967296 * (y % 4294967296) / 4294967296) % 4294967296∧(x / 4294967296 * (y % 4294967296) + x % 4294967296 * (y % 4294967296) / 4294967296) % 4294967296 < 4294967296:=by omega
 rw [hw ((x / 4294967296 * (y % 4294967296) + x % 4294967296 * (y % 4294967296) / 4294967296) % 4294967296) (by omega) (by omega)]
 rw [hw ((x / 4294967296 * (y % 4294967296) + x % 4294967296 * (y % 4294967296) / 4294967296) % 4294967296 + x % 4294967296 * (y / 4294967296)) (by omega) (by omega)]
 rw [hw (x / 4294967296 * (y / 4294967296) + (x / 4294967296 * (y % 4294967296) + x % 4294967296 * (y % 4294967296) / 4294967296) / 4294967296) (by omega) (by omega)]
 rw [hw _ (by omega) (by omega),h1,Z4s]
theorem ZEN {n:Int} (m:Bool) (h:Z8d n):Z4T n m = fitS (if m then -n else n):=by
 unfold Z8d at h
 unfold Z4T fitS w64
 rw [Z9D,Z9D,Z4s,Z5m,Z5m]
 cases m <;> simp only [Y0U,Y0Q,YD,Yj,decide_eq_true_eq,Y6,if_false,if_true]
 ·split
  ·rw [if_pos (by omega)];simp only [Y3,and_true];omega
  ·rw [if_neg (by omega)]
 ·split
  ·rw [if_pos (by omega)];simp only [Y3,and_true];omega
  ·rw [if_neg (by omega)]
theorem safe_Mul_eq {a b:Int} (ha:In64 a) (hb:In64 b):Z42 a b = fitS (a * b):=by
 unfold Z42
 rw [ZBK ha,ZBK hb,mul64_eq (inU_abs ha) (inU_abs hb),Z9D]
 simp only [natAbs_prod]
 rw [ZEN _ (by unfold Z8d;omega)]
 by_cases h:((a * b).natAbs:Int) / 18446744073709551616 = 0
 ·rw [if_neg (by simp [h])]
  have e:((a * b).natAbs:Int) % 18446744073709551616 = (a * b).natAbs:=by omega
  rw [e]
  show fitS _ = _
  refine congrArg fitS ?_
  by_cases h1:a < 0 <;> by_cases h2:b < 0 <;> simp only [h1,h2,decide_true,decide_false]
  ·have:=Int.mul_nonneg_of_nonpos_of_nonpos (Y0z h1) (Y0z h2)
   simp;omega
  ·have:=Int.mul_nonpos_of_nonpos_of_nonneg (Y0z h1) (Int.not_lt.1 h2)
   simp;omega
  ·have:=Int.mul_nonpos_of_nonneg_of_nonpos (Int.not_lt.1 h1) (Y0z h2)
   simp;omega
  ·have:=Int.mul_nonneg (Int.not_lt.1 h1) (Int.not_lt.1 h2)
   simp;omega
 ·rw [if_pos (by simp [h])]
  unfold fitS;rw [if_neg];omega
def ZAE (a b:Int):Int × Int × Int:=if b = 0 then (0,0,11) else if b = -1∧a = -9223372036854775808 then (0,0,10) else (a.fdiv b,a.fmod b,0)
theorem floor_up {a b:Int} (hb:b ≠ 0) (h1:a.tmod b ≠ 0) (h2:¬(a.tmod b < 0 ↔ b < 0)):a.fdiv b = a.tdiv b - 1∧a.fmod b = a.tmod b + b:=by
 have q1:=Yh a hb
 have q2:=Int.emod_lt a hb
 have hd:b ∣ a ↔ a % b = 0:=Int.dvd_iff_emod_eq_zero
 rw [Int.fdiv_eq_ediv,Int.fmod_eq_emod,Int.tdiv_eq_ediv]
 rw [Int.tmod_eq_emod] at h1 h2 ⊢
 simp only [hd] at h1 h2 ⊢
 rcases Int.lt_or_gt_of_ne hb with h | h
 ·rw [Int.sign_eq_neg_one_of_neg h]
  split at h1 <;> split <;> simp_all <;> omega
 ·rw [Int.sign_eq_one_of_pos h]
  split at h1 <;> split <;> simp_all <;> omega
theorem floor_same {a b:Int} (hb:b ≠ 0) (h:a.tmod b = 0∨(a.tmod b < 0 ↔ b < 0)):a.fdiv b = a.tdiv b∧a.fmod b = a.tmod b:=by
 have q1:=Yh a hb
 have q2:=Int.emod_lt a hb
 have hd:b ∣ a ↔ a % b = 0:=Int.dvd_iff_emod_eq_zero
 rw [Int.fdiv_eq_ediv,Int.fmod_eq_emod,Int.tdiv_eq_ediv]
 rw [Int.tmod_eq_emod] at h ⊢
 simp only [hd] at h ⊢
 rcases Int.lt_or_gt_of_ne hb with hh | hh
 ·rw [Int.sign_eq_neg_one_of_neg hh]
  split at h <;> split <;> simp_all <;> omega
 ·rw [Int.sign_eq_one_of_pos hh]
  split at h <;> split <;> simp_all <;> omega
theorem tdiv_in {a b:Int} (ha:In64 a) (hb:b ≠ 0) (hn:¬(b = -1∧a = -9223372036854775808)):In64 (a.tdiv b):=by
 have h:(a.tdiv b).natAbs = a.natAbs / b.natAbs:=Int.natAbs_tdiv a b
 obtain ⟨h1,h2⟩:=ha
 by_cases hb1:b = 1
 ·subst hb1;rw [Int.tdiv_one];exact ⟨h1,h2⟩
 ·by_cases hb2:b = -1
  ·have ha':a ≠ -9223372036854775808:=fun e => hn ⟨hb2,e⟩
   have:a.natAbs / b.natAbs≤a.natAbs:=Nat.div_le_self _ _
   unfold In64;omega
  ·have h3:a.natAbs / b.natAbs≤a.natAbs / 2:=Nat.div_le_div_left (by omega) (by omega)
   unfold In64;omega
theorem tdiv_in1 {a b:Int} (ha:In64 a) (hb:b ≠ 0) (h1:a.tmod b ≠ 0):In64 (a.tdiv b - 1):=by
 have h:(a.tdiv b).natAbs = a.natAbs / b.natAbs:=Int.natAbs_tdiv a b
 obtain ⟨h2,h3⟩:=ha
 by_cases hb1:b = 1
 ·subst hb1;simp at h1
 ·by_cases hb2:b = -1
  ·subst hb2;simp at h1
  ·have h3:a.natAbs / b.natAbs≤a.natAbs / 2:=Nat.div_le_div_left (by omega) (by omega)
   unfold In64;omega
theorem wrap_in {a:Int} (h:In64 a):IntKind.i64.wrap a = a:=by rw [Z5m];unfold In64 at h;omega
theorem fmod_in {a b:Int} (hb:In64 b) (hb0:b ≠ 0):In64 (a.fmod b):=by
 have q1:=Yh a hb0
 have q2:=Int.emod_lt a hb0
 rw [Int.fmod_eq_emod]
 unfold In64 at *
 split <;> omega
theorem floor_leaf1 {a b:Int} (ha:In64 a) (hb:In64 b) (h0:b ≠ 0) (hn:¬(b = -1∧a = -9223372036854775808)) (h1:a.tmod b ≠ 0) (h2:¬(a.tmod b < 0 ↔ b < 0)) :
  (IntKind.i64.wrap (IntKind.i64.wrap (a.tdiv b) - 1),IntKind.i64.wrap (a.tmod b + b),(0:Int)) = ZAE a b:=by
 obtain ⟨e1,e2⟩:=floor_up h0 h1 h2
 rw [ZAE,if_neg h0,if_neg hn,e1,e2,wrap_in (tdiv_in ha h0 hn),wrap_in (tdiv_in1 ha h0 h1),wrap_in (by rw [← e2];exact fmod_in hb h0)]
theorem floor_leaf2 {a b:Int} (ha:In64 a) (hb:In64 b) (h0:b ≠ 0) (hn:¬(b = -1∧a = -9223372036854775808)) (h:a.tmod b = 0∨(a.tmod b < 0 ↔ b < 0)) :
  (IntKind.i64.wrap (a.tdiv b),a.tmod b,(0:Int)) = ZAE a b:=by
 obtain ⟨e1,e2⟩:=floor_same h0 h
 rw [ZAE,if_neg h0,if_neg hn,e1,e2,wrap_in (tdiv_in ha h0 hn)]
theorem Z3F {a b:Int} (ha:In64 a) (hb:In64 b):Z19 a b = some (ZAE a b):=by
 unfold Z19
 by_cases h0:b = 0
 ·subst h0;rfl
 rw [beq_f h0,cond_false]
 by_cases hn:b = -1∧a = -9223372036854775808
 ·obtain ⟨rfl,rfl⟩:=hn
  rfl
 have:(b == -1 && a == -9223372036854775808) = false:=by
  simp only [Y0W,beq_eq_false_iff_ne]
  by_cases h:b = -1
  ·exact .inr fun e => hn ⟨h,e⟩
  ·exact .inl h
 rw [this,cond_false,nz?_ok h0]
 simp only [Y0,Z9D,Y9,bne_iff_ne,ne_eq,decide_eq_decide]
 split
 ·rename_i h;simp only [Y0];exact congrArg some (floor_leaf1 ha hb h0 hn h.1 h.2)
 ·rename_i h;simp only [Y0];refine congrArg some (floor_leaf2 ha hb h0 hn ?_)
  by_cases h1:a.tmod b = 0
  ·exact .inl h1
  ·exact .inr (Classical.byContradiction fun h2 => h ⟨h1,h2⟩)
theorem Z8l {a b:Int} (hb:0 < b):a.fdiv b = a / b∧a.fmod b = a % b:=⟨Y0E a (Y0z hb),Int.fmod_eq_emod_of_nonneg a (Y0z hb)⟩
theorem Z6W {a b:Int} (hb:0 < b):ZAE a b = (a / b,a % b,0):=by
 unfold ZAE
 rw [if_neg (by omega),if_neg (by omega),(Z8l hb).1,(Z8l hb).2]
end Go.Dn

namespace Go.Dn
open Go
theorem Z1S:reachBytes = 140737488351232:=rfl
def ZE (t:Int):Prop:=-1099511627776≤t∧t≤1099511627776
instance (t:Int):Decidable (ZE t):=by unfold ZE;infer_instance
theorem Z7V (t:Int):Z1A t = decide (ZE t):=by
 rw [Bool.eq_iff_iff,decide_eq_true_iff];simp [Z1A,ZE]
theorem Z8K (t:Int):Z1L t = decide (ZE t):=by
 rw [Bool.eq_iff_iff,decide_eq_true_iff];simp [Z1L,ZE]
theorem Z2x {t:Int} (h:ZE t):In64 t:=by unfold ZE at h;unfold In64;omega
structure RightL (l:List Span):Prop where
 ok:∀ (k:Nat) (s:Span),l[k]? = some s→ZE s.From∧ZE s.To∧s.From≤s.To
 gap:∀ (k:Nat) (s t:Span),l[k]? = some s→l[k + 1]? = some t→s.To + 2≤t.From
abbrev Len (l:List Span):Prop:=l.length * 16≤reachBytes
abbrev Sp64 (l:List Span):Prop:=∀ s ∈ l,In64 s.From∧In64 s.To
theorem Span.ok64 {s:Span} (h:s.ok):In64 s.From∧In64 s.To:=h
theorem okSpans {l:List Span} (h:okL 16 Span.ok l):Len l∧Sp64 l:=⟨h.1,fun s hs => Span.ok64 (h.2 s hs)⟩
theorem RightL.sp64 {l:List Span} (h:RightL l):Sp64 l:=fun s hs => by
 obtain ⟨k,hk⟩:=YC hs
 have:=h.ok k s hk
 exact ⟨Z2x this.1,Z2x this.2.1⟩
def Z5i (l:List Span) (k:Nat) (s:Span):Prop:=ZE s.From∧ZE s.To∧s.From≤s.To∧∀ p,k ≠ 0→l[k - 1]? = some p→p.To + 2≤s.From
theorem Z8b {l:List Span}:RightL l ↔ ∀ k s,l[k]? = some s→Z5i l k s:=by
 constructor
 ·intro h k s hk;obtain ⟨h1,h2,h3⟩:=h.ok k s hk
  refine ⟨h1,h2,h3,fun p h0 hp => ?_⟩
  have:k - 1 + 1 = k:=by omega
  exact h.gap (k - 1) p s hp (by rw [this];exact hk)
 ·intro h;refine ⟨fun k s hk => ⟨(h k s hk).1,(h k s hk).2.1,(h k s hk).2.2.1⟩,fun k s t hs ht => (h (k + 1) t ht).2.2.2 s (by omega) (by simpa using hs)⟩
theorem Z96 {l:List Span} (hl:Len l) (h64:Sp64 l):∃ b,Z0Q l = some b∧(b = true ↔ RightL l):=by
 have hlen:l.length≤maxLen:=by rw [ZCE];have:=Z1S;unfold Len at hl;omega
 have step:∀ (k:Nat) (s:Span),l[k]? = some s→(∀ j y,j < k→l[j]? = some y→Z5i l j y)→∃ b,Z0Q.s0 l (k:Int) = (if b = true then some (.inl ((k:Int) + 1)) else some (.inr (.ret false)))∧(b = true ↔ Z5i l k s):=by
  intro k s hk hprev;have hlt:=(List.getElem?_eq_some_iff.1 hk).1
  have hat:at? l (k:Int) = some s:=by rw [at?_nat hlt];rw [Y2 hlt] at hk;exact hk
  unfold Z0Q.s0;rw [ZP (show (k:Int) < l.length by omega),cond_true,hat]
  simp only [Y0,Z7V];have hk1:w64 ((k:Int) + 1) = k + 1:=Z9 (by rw [ZCE] at hlen;omega)
  by_cases h1:ZE s.From∧ZE s.To∧s.From≤s.To
  ·have:(!decide (ZE s.From) || !decide (ZE s.To) || decide (s.From > s.To)) = false:=by
    rw [ZP h1.1,ZP h1.2.1,ZQ (by omega)];rfl
   rw [this,cond_false]
   by_cases h0:k = 0
   ·subst h0;refine ⟨true,by simp [w64];rw [Z5m];rfl,by simp [Z5i,h1]⟩
   ·have hk0:(k:Int) > 0:=by omega
    have hpl:k - 1 < l.length:=by omega
    have hp:at? l (w64 ((k:Int) - 1)) = some l[k - 1]:=by
     rw [Z9 (by rw [ZCE] at hlen;omega),show ((k:Int) - 1) = ((k - 1:Nat):Int) by omega,at?_nat hpl]
    have hpg:=hprev (k - 1) _ (by omega) (Y2 hpl)
    have hpt:w64 (l[k - 1].To + 2) = l[k - 1].To + 2:=by
     have:=hpg.2.1;unfold ZE at this;exact Z9 (by omega)
    rw [ZP hk0,cond_true,hp];simp only [Y0,hpt];refine ⟨!decide (s.From < l[k - 1].To + 2),?_,?_⟩
    ·cases hd:decide (s.From < l[k - 1].To + 2) <;> simp [hk1]
    ·simp only [YQ,decide_eq_false_iff_not,Z5i]
     constructor
     ·intro h;refine ⟨h1.1,h1.2.1,h1.2.2,fun p _ hp' => ?_⟩
      rw [Y2 hpl] at hp';cases hp';omega
     ·intro h;have:=h.2.2.2 _ h0 (Y2 hpl);omega
  ·refine ⟨false,?_,by simp only [Y6,Z5i,false_iff];intro h;exact h1 ⟨h.1,h.2.1,h.2.2.1⟩⟩
   have:(!decide (ZE s.From) || !decide (ZE s.To) || decide (s.From > s.To)) = true:=by
    by_cases a1:ZE s.From
    ·by_cases a2:ZE s.To
     ·have a3:s.From > s.To:=by
       apply Classical.byContradiction;intro h;exact h1 ⟨a1,a2,by omega⟩
      rw [ZP a3];simp
     ·rw [ZQ a2];simp
    ·rw [ZQ a1];simp
   rw [this];rfl
 unfold Z0Q
 rcases Z2C (l:=l) (step:=Z0Q.s0 l) (Z5i l) (no:=.ret false) (yes:=.go ()) (fun k x hk hp => by
   obtain ⟨b,h1,h2⟩:=step k x hk hp
   cases b
   ·exact .inr ⟨h1,fun h => by have:=h2.2 h;cases this⟩
   ·exact .inl ⟨h1,h2.1 rfl⟩) (by
   unfold Z0Q.s0;rw [ZQ (by omega)];rfl) with ⟨h1,h2⟩ | ⟨h1,h2⟩
 ·rw [h1];exact ⟨true,rfl,by simp [Z8b.2 h2]⟩
 ·rw [h1];exact ⟨false,rfl,by simp only [Y6,false_iff];exact fun h => h2 (Z8b.1 h)⟩
def Z0B (by_:Int) (s:Span):Span:=⟨s.From + by_,s.To + by_⟩
theorem Z9z {l:List Span} {b:Int} (hl:Len l) (h64:Sp64 l) (hb:In64 b) :
  ((∀ s ∈ l,ZE (s.From + b)∧ZE (s.To + b))∧Z0d l b = some (l.map (Z0B b),0))∨((¬ ∀ s ∈ l,ZE (s.From + b)∧ZE (s.To + b))∧Z0d l b = some ([],20)):=by
 have hlen:(l.length:Int) < 9223372036854775807:=by have:=Z1S;unfold Len at hl;omega
 have step:∀ (k:Nat) (s:Span) (acc:List Span),l[k]? = some s→acc.length = k→Z0d.s0 l b ((k:Int),acc) = if ZE (s.From + b)∧ZE (s.To + b) then some (.inl ((k:Int) + 1,acc ++ [Z0B b s])) else some (.inr (.ret ([],20))):=by
  intro k s acc hk hacc;have hlt:=(List.getElem?_eq_some_iff.1 hk).1
  have hat:at? l (k:Int) = some s:=by rw [at?_nat hlt];rw [Y2 hlt] at hk;exact hk
  obtain ⟨f64,t64⟩:=h64 s (Y7 hk)
  unfold Z0d.s0;rw [ZP (show (k:Int) < l.length by omega),cond_true,hat]
  simp only [Y0];rw [Z9I f64 hb,Z9I t64 hb,Z7V,Z7V];have hk1:w64 ((k:Int) + 1) = k + 1:=Z9 (by omega)
  have happ:∀ x:Span,app? 16 acc [x] = some (acc ++ [x]):=fun x => app?_ok (by
   have:=Z1S;have:=Z5T;unfold Len at hl;simp;omega)
  rcases fit_or (s.From + b) with ⟨q1,q2⟩ | ⟨q1,q2⟩ <;> rcases fit_or (s.To + b) with ⟨q3,q4⟩ | ⟨q3,q4⟩ <;> rw [q2,q4]
  ·by_cases h:ZE (s.From + b)∧ZE (s.To + b)
   ·rw [if_pos h,ZP h.1,ZP h.2];simp [happ,hk1,Z0B]
   ·rw [if_neg h];have:(!decide (ZE (s.From + b)) || !decide (ZE (s.To + b))) = true:=by
     by_cases h1:ZE (s.From + b)
     ·rw [ZQ (fun h2 => h ⟨h1,h2⟩)];simp
     ·rw [ZQ h1];simp
    simp only [bne_self_eq_false,Y0s,Bool.or_assoc] at this ⊢;rw [this];rfl
  ·rw [if_neg (fun h => q3 (Z2x h.2))];rfl
  ·rw [if_neg (fun h => q1 (Z2x h.1))];rfl
  ·rw [if_neg (fun h => q1 (Z2x h.1))];rfl
 have hend:∀ acc,Z0d.s0 l b ((l.length:Int),acc) = some (.inr (.go acc)):=fun acc => by unfold Z0d.s0;rw [ZQ (by omega)];rfl
 unfold Z0d
 by_cases hall:∀ s ∈ l,ZE (s.From + b)∧ZE (s.To + b)
 ·refine .inl ⟨hall,?_⟩;have:loopO (Z0d.s0 l b) (0,[]) = some (.go (l.map (Z0B b))):=by
   refine Z1F (I:=fun (s:Int × List Span) r => r = .go (l.map (Z0B b))∧∃ k:Nat,k≤l.length∧s = ((k:Int),(l.take k).map (Z0B b))) (fun s => l.length - s.1.toNat) ?_ ⟨rfl,0,YM _,by simp⟩
   rintro s r ⟨rfl,k,hk,rfl⟩
   by_cases hlt:k < l.length
   ·refine .inl ⟨_,by rw [step k l[k] _ (Y2 hlt) (by simp;omega),if_pos (hall _ (YE hlt))],⟨rfl,k + 1,hlt,?_⟩,by simp;omega⟩
    rw [Y0c hlt,Y0J];push_cast;rfl
   ·have:k = l.length:=by omega
    subst this;rw [Yx];exact .inr (hend _)
  rw [this];rfl
 ·refine .inr ⟨hall,?_⟩;obtain ⟨k0,s0,hk0,hb0,hg⟩:=ZCN (l:=l) (good:=fun _ s => ZE (s.From + b)∧ZE (s.To + b)) (fun h => hall fun s hs => by
   obtain ⟨k,hk⟩:=YC hs;exact h k s hk)
  have hlt0:=(List.getElem?_eq_some_iff.1 hk0).1
  have:loopO (Z0d.s0 l b) (0,[]) = some (.ret ([],20)):=by
   refine Z1F (I:=fun (s:Int × List Span) r => r = .ret ([],20)∧∃ k:Nat,k≤k0∧s.1 = (k:Int)∧s.2.length = k) (fun s => l.length - s.1.toNat) ?_ ⟨rfl,0,YM _,rfl,rfl⟩
   rintro ⟨i,acc⟩ r ⟨rfl,k,hk,h1,h2⟩;simp only at h1 h2;subst h1
   by_cases hlt:k < k0
   ·have hkl:k < l.length:=by omega
    exact .inl ⟨_,by rw [step k l[k] _ (Y2 hkl) h2,if_pos (hg k _ hlt (Y2 hkl))],⟨rfl,k + 1,hlt,by push_cast;rfl,by simp;omega⟩,by simp;omega⟩
   ·have:k = k0:=by omega
    subst this;exact .inr (by rw [step k s0 _ hk0 h2,if_neg hb0])
  rw [this];rfl
theorem RightL.shift {l:List Span} {b:Int} (h:RightL l) (ht:∀ s ∈ l,ZE (s.From + b)∧ZE (s.To + b)):RightL (l.map (Z0B b)):=by
 constructor
 ·intro k s hk;rw [YN,Y1] at hk;obtain ⟨s,hk,rfl⟩:=hk
  have h1:=h.ok k s hk
  have h2:=ht s (Y7 hk)
  exact ⟨h2.1,h2.2,by simp only [Z0B];omega⟩
 ·intro k s t hk hk1;rw [YN,Y1] at hk hk1;obtain ⟨s,hk,rfl⟩:=hk
  obtain ⟨t,hk1,rfl⟩:=hk1
  have:=h.gap k s t hk hk1
  simp only [Z0B];omega
def Z4F (a b:List Span):Prop:=∀ x,a.getLast? = some x→∀ y,b.head? = some y→x.To < y.From
theorem Z6h {a b:List Span} (ha:Len a):∃ r,Z11 a b = some r∧(r = true ↔ Z4F a b):=by
 unfold Z11
 cases a with
 | nil => exact ⟨true,by simp,by simp [Z4F]⟩
 | cons x a =>
  cases b with
  | nil => exact ⟨true,by simp,by simp [Z4F]⟩
  | cons y b =>
   have hl:((x :: a).length:Int) < 9223372036854775807:=by have:=Z1S;unfold Len at ha;omega
   have e1:(((x :: a).length:Int) == 0 || ((y :: b).length:Int) == 0) = false:=by simp;omega
   have hlt:(x :: a).length - 1 < (x :: a).length:=by simp
   have e2:at? (x :: a) (w64 (((x :: a).length:Int) - 1)) = some (x :: a)[(x :: a).length - 1]:=by
    rw [Z9 (by simp at hl ⊢;omega),show (((x :: a).length:Int) - 1) = (((x :: a).length - 1:Nat):Int) by simp,at?_nat hlt]
   have e3:at? (y :: b) 0 = some y:=rfl
   rw [e1,cond_false,e2,e3];refine ⟨decide ((x :: a)[(x :: a).length - 1].To < y.From),rfl,?_⟩;have hlast:(x :: a).getLast? = some (x :: a)[(x :: a).length - 1]:=by rw [Y0Z,Y2 hlt]
   simp only [decide_eq_true_eq,Z4F,hlast,List.head?_cons,Y5];exact ⟨fun h x' hx y' hy => by rw [← hx,← hy];exact h,fun h => h _ rfl _ rfl⟩
theorem span_beq (x y:Span):((x.From == y.From) && ((x.To == y.To) && true)) = decide (x = y):=by
 obtain ⟨x1,x2⟩:=x
 obtain ⟨y1,y2⟩:=y
 by_cases h1:x1 = y1 <;> by_cases h2:x2 = y2 <;> simp [h1,h2]
theorem spans_Same_eq {a b:List Span} (ha:Len a):∃ r,Z1d a b = some r∧(r = true ↔ a = b):=by
 have hl:(a.length:Int) < 9223372036854775807:=by have:=Z1S;unfold Len at ha;omega
 unfold Z1d Zd
 by_cases hlen:a.length = b.length
 ·have e1:((a.length:Int) != (b.length:Int)) = false:=bne_f (by omega)
  rw [e1,cond_false]
  rcases Z2C (l:=a) (step:=Zd.s0 a b) (fun k x => b[k]? = some x) (no:=.ret false) (yes:=.go ()) (fun k x hk hp => by
   have hlt:=(List.getElem?_eq_some_iff.1 hk).1
   have hat:at? a (k:Int) = some x:=by rw [at?_nat hlt];rw [Y2 hlt] at hk;exact hk
   have hbt:at? b (k:Int) = some (b[k]'(by omega)):=at?_nat (by omega)
   unfold Zd.s0;rw [ZP (show (k:Int) < a.length by omega),cond_true,hat,hbt,Z9 (show _ by omega)]
   simp only [Y0,span_beq];rw [Y2 (show k < b.length by omega)]
   by_cases h:x = b[k]'(by omega)
   ·rw [ZP h];exact .inl ⟨rfl,congrArg some h.symm⟩
   ·rw [ZQ h];exact .inr ⟨rfl,fun e => h (Option.some.inj e).symm⟩) (by
   unfold Zd.s0;rw [ZQ (by omega)];rfl) with ⟨h1,h2⟩ | ⟨h1,h2⟩
  ·rw [h1];refine ⟨true,rfl,⟨fun _ => Y0R fun k => ?_,fun _ => rfl⟩⟩
   by_cases hk:k < a.length
   ·rw [Y2 hk];exact (h2 k _ (Y2 hk)).symm
   ·rw [YS (by omega),YS (by omega)]
  ·rw [h1];refine ⟨false,rfl,by simp only [Y6,false_iff];rintro rfl;exact h2 fun k x hk => hk⟩
 ·have e1:((a.length:Int) != (b.length:Int)) = true:=bne_t (by omega)
  rw [e1,cond_true];exact ⟨false,rfl,by simp only [Y6,false_iff];rintro rfl;exact hlen rfl⟩
end Go.Dn

namespace Go.Dn
open Go
theorem ZEP (x y:Int):Z2O x y = if x < y then -1 else if y < x then 1 else 0:=by
 unfold Z2O Z3I
 simp only [bne_self_eq_false,cond_false,Z9D,decide_eq_true_eq,gt_iff_lt,Y6,if_false]
def Inc (l:List Granule):Prop:=∀ (j k:Nat) (a b:Granule),j < k→l[j]? = some a→l[k]? = some b→a.Index < b.Index
theorem ZEI {l:List Granule} {t:Int} (hl:l.length * 32≤reachBytes) (hs:Inc l):∃ p:Nat,p≤l.length∧(∀ (k:Nat) (g:Granule),l[k]? = some g→(k < p ↔ g.Index < t)) ∧
  Z1 l t (fun z0 z1 => some (Z4E z0 z1)) = some ((p:Int),decide (∃ g,l[p]? = some g∧g.Index = t)):=by
 have hlen:(l.length:Int) < 4398046511104 * 4:=by have:=Z1S;omega
 have hcmp:∀ g i,Z4E g i = if g.Index < i then -1 else if i < g.Index then 1 else 0:=fun g i => ZEP _ _
 obtain ⟨r,h1,p,rfl,hp,hlow,hhigh⟩:=Z0N (step:=Z1.s0 l t (fun z0 z1 => some (Z4E z0 z1)))
  (I:=fun s => ∃ i j:Nat,s = ((i:Int),(j:Int))∧i≤j∧j≤l.length∧(∀ k g,l[k]? = some g→k < i→g.Index < t)∧(∀ k g,l[k]? = some g→j≤k→t≤g.Index))
  (fun s => (s.2 - s.1).toNat)
  (fun r => ∃ p:Nat,r = (p:Int)∧p≤l.length∧(∀ k g,l[k]? = some g→k < p→g.Index < t)∧(∀ k g,l[k]? = some g→p≤k→t≤g.Index)) (by
  rintro s ⟨i,j,rfl,hij,hj,hlow,hhigh⟩;unfold Z1.s0
  by_cases hlt:i < j
  ·have hm:w64 ((IntKind.u64.wrap (w64 ((i:Int) + j))).fdiv (2 ^ 1)) = ((i + j) / 2:Nat):=by
    rw [Z9 (x:=(i:Int) + j) (by omega),Z4s,Y0E _ (by decide),Z9 (by omega)]
    omega
   have hml:(i + j) / 2 < l.length:=by omega
   simp only [hm];rw [ZP (show (i:Int) < j by omega),cond_true,at?_nat hml]
   simp only [Y0,hcmp];refine .inl ?_;have hget:=Y2 hml
   by_cases hc:l[(i + j) / 2].Index < t
   ·rw [if_pos hc];refine ⟨((((i + j) / 2 + 1:Nat):Int),(j:Int)),?_,⟨(i + j) / 2 + 1,j,rfl,by omega,hj,fun k g hk hki => ?_,hhigh⟩,by simp;omega⟩
    ·rw [Z9 (by omega)];simp
    ·rcases YI k ((i + j) / 2) with h | h
     ·have:=hs k _ g _ h hk hget;omega
     ·have:k = (i + j) / 2:=by omega
      subst this;rw [hget] at hk;cases hk;exact hc
   ·rw [if_neg hc];refine ⟨((i:Int),(((i + j) / 2:Nat):Int)),?_,⟨i,(i + j) / 2,rfl,by omega,by omega,hlow,fun k g hk hki => ?_⟩,by simp;omega⟩
    ·split <;> simp
    ·rcases YI ((i + j) / 2) k with h | h
     ·have:=hs _ k _ g h hget hk;omega
     ·have:k = (i + j) / 2:=by omega
      subst this;rw [hget] at hk;cases hk;omega
  ·refine .inr ⟨(i:Int),by rw [ZQ (show ¬ (i:Int) < j by omega)];rfl,i,rfl,by omega,hlow,fun k g hk hki => hhigh k g hk (by omega)⟩) (0,(l.length:Int)) ⟨0,l.length,rfl,YM _,YB _,fun k g _ h => by omega,fun k g hk h => by
    rw [YS h] at hk;cases hk⟩
 refine ⟨p,hp,fun k g hk => ⟨fun h => hlow k g hk h,fun h => ?_⟩,?_⟩
 ·rcases YI k p with h2 | h2
  ·exact h2
  ·have:=hhigh k g hk h2;omega
 ·unfold Z1;rw [h1];simp only [Y0]
  by_cases hlt:p < l.length
  ·rw [ZP (show (p:Int) < l.length by omega),cond_true,at?_nat hlt]
   simp only [Y0,hcmp,Y5,Y3,true_and];have:=hhigh p _ (Y2 hlt) (YB _)
   rw [Y2 hlt]
   by_cases he:l[p].Index = t
   ·rw [if_neg (by omega),if_neg (by omega)];simp [he]
   ·rw [if_neg (by omega),if_pos (by omega)];simp [he]
  ·rw [ZQ (show ¬ (p:Int) < l.length by omega),cond_false]
   simp only [Y0,Y5,Y3,true_and];rw [YS (by omega)]
   simp
structure Shape (f:Form):Prop where
 count:f.Count = f.Core.length
 zero:f.Count = 0 ↔ f.Period = 0
 per:0≤f.Period∧f.Period≤1099511627776
 core:∀ l ∈ f.Core,RightL l
 odd:∀ g ∈ f.Odd,RightL g.Ticks∧ZE g.Index
 inc:Inc f.Odd
structure Lim (f:Form):Prop where
 core:f.Core.length * 24≤reachBytes
 sets:∀ l ∈ f.Core,Len l∧Sp64 l
 odd:f.Odd.length * 32≤reachBytes
 ticks:∀ g ∈ f.Odd,In64 g.Index∧Len g.Ticks∧Sp64 g.Ticks
 count:In64 f.Count
 period:In64 f.Period
theorem Form.lim {f:Form} (h:f.ok):Lim f:=by
 obtain ⟨h1,h2,h3,h4⟩:=h
 exact ⟨h3.1,fun l hl => okSpans (h3.2 l hl),h4.1,fun g hg => ⟨(h4.2 g hg).1,okSpans (h4.2 g hg).2⟩,h2,h1⟩
theorem Z76 {f:Form} (hl:Lim f) (hs:Inc f.Odd) (i:Int):∃ p:Nat,p≤f.Odd.length∧(∀ (k:Nat) (g:Granule),f.Odd[k]? = some g→(k < p ↔ g.Index < i))∧Z5n f i = some ((p:Int),decide (∃ g,f.Odd[p]? = some g∧g.Index = i)):=by
 obtain ⟨p,h1,h2,h3⟩:=ZEI (t:=i) hl.odd hs
 exact ⟨p,h1,h2,by unfold Z5n;rw [h3];rfl⟩
def Z0F (f:Form) (i:Int):Prop:=∃ g ∈ f.Odd,g.Index = i
def Z2L (f:Form) (i:Int):List Span:=f.Core.getD (i % f.Count).toNat []
def Z5Z (f:Form) (i:Int):Int:=i / f.Count * f.Period
open Classical in
noncomputable def ZK (f:Form) (i:Int):List Span:=if h:Z0F f i then h.choose.Ticks else if f.Count = 0 then [] else (Z2L f i).map (Z0B (Z5Z f i))
theorem Inc.uniq {l:List Granule} (h:Inc l) {a b:Granule} (ha:a ∈ l) (hb:b ∈ l) (he:a.Index = b.Index):a = b:=by
 obtain ⟨j,hj⟩:=YC ha
 obtain ⟨k,hk⟩:=YC hb
 rcases Nat.lt_trichotomy j k with hjk | rfl | hjk
 ·have:=h j k a b hjk hj hk;omega
 ·rw [hj] at hk;cases hk;rfl
 ·have:=h k j b a hjk hk hj;omega
theorem Z1c {f:Form} (hs:Inc f.Odd) {g:Granule} (hg:g ∈ f.Odd):ZK f g.Index = g.Ticks:=by
 have h:Z0F f g.Index:=⟨g,hg,rfl⟩
 unfold ZK
 rw [dif_pos h]
 rw [hs.uniq h.choose_spec.1 hg h.choose_spec.2]
theorem Z1q {f:Form} {i:Int} (h:¬ Z0F f i) (h0:f.Count = 0):ZK f i = []:=by unfold ZK;rw [dif_neg h,if_pos h0]
theorem Z3d {f:Form} {i:Int} (h:¬ Z0F f i) (h0:f.Count ≠ 0):ZK f i = (Z2L f i).map (Z0B (Z5Z f i)):=by unfold ZK;rw [dif_neg h,if_neg h0]
theorem ZB3 {f:Form} (hs:Shape f) (h0:f.Count ≠ 0):0 < f.Count:=by have:=hs.count;omega
theorem Z2g {f:Form} (hs:Shape f) (h0:f.Count ≠ 0) (i:Int):at? f.Core (i % f.Count) = some (Z2L f i)∧Z2L f i ∈ f.Core:=by
 have hp:=ZB3 hs h0
 have h1:=Yh i h0
 have h2:=Yt i hp
 have h3:(i % f.Count).toNat < f.Core.length:=by have:=hs.count;omega
 unfold Z2L
 rw [at?_lt h1 (by have:=hs.count;omega),YJ,Y2 h3]
 exact ⟨rfl,YE h3⟩
theorem Z9y {f:Form} (hl:Lim f) (hs:Shape f) {g:Granule} (hg:g ∈ f.Odd):Z3G f g.Index = some (g.Ticks,0,0):=by
 obtain ⟨p,h1,h2,h3⟩:=Z76 hl hs.inc g.Index
 obtain ⟨k,hk⟩:=YC hg
 have hkl:=(List.getElem?_eq_some_iff.1 hk).1
 have hpk:p≤k:=by
  rcases YI k p with h | h
  ·have:=(h2 k g hk).1 h;omega
  ·exact h
 have hpl:p < f.Odd.length:=by omega
 have hpg:=h2 p _ (Y2 hpl)
 have:p = k:=by
  rcases YI p k with h | h
  ·have:=hs.inc p k _ g h (Y2 hpl) hk
   exact absurd (hpg.2 this) (Nat.lt_irrefl _)
  ·omega
 subst this
 unfold Z3G
 rw [h3]
 simp only [Y0]
 rw [ZP ⟨g,hk,rfl⟩,cond_true,at?_nat hpl]
 rw [Y2 hpl] at hk
 cases hk;rfl
theorem Z8q {f:Form} (hl:Lim f) (hs:Shape f) {i:Int} (hi:In64 i) (ho:¬ Z0F f i):Z3G f i = if f.Count = 0 then some ([],0,0) else some (Z2L f i,(fitS (Z5Z f i)).1,(fitS (Z5Z f i)).2):=by
 obtain ⟨p,h1,h2,h3⟩:=Z76 hl hs.inc i
 unfold Z3G
 rw [h3]
 simp only [Y0]
 rw [ZQ (by rintro ⟨g,hg,he⟩;exact ho ⟨g,Y7 hg,he⟩),cond_false]
 by_cases h0:f.Count = 0
 ·rw [beq_t h0,cond_true,if_pos h0]
 ·rw [beq_f h0,cond_false,if_neg h0,Z3F hi hl.count,Z6W (ZB3 hs h0)];simp only [Y0];rw [(Z2g hs h0 i).1];simp only [Y0];have hq:In64 (i / f.Count):=by
   have hp:=ZB3 hs h0
   unfold In64 at hi ⊢
   constructor
   ·have : -9223372036854775808≤i / f.Count:=by
     rw [Int.le_ediv_iff_mul_le hp];have:(-9223372036854775808) * f.Count≤-9223372036854775808:=by
      have:(-9223372036854775808) * f.Count≤(-9223372036854775808) * 1:=Int.mul_le_mul_of_nonpos_left (by omega) (by omega)
      omega
     omega
    exact this
   ·have:i / f.Count≤9223372036854775807:=by
     rcases Int.lt_or_le i 0 with h | h
     ·have:i / f.Count < 0:=Int.ediv_neg_of_neg_of_pos h hp
      omega
     ·have:=Y0f f.Count h
      omega
    exact this
  rw [safe_Mul_eq hq hl.period]
  rfl
def fits (f:Form) (i:Int):Prop:=∀ s ∈ ZK f i,ZE s.From∧ZE s.To
theorem ZAA (l:List Span):l.map (Z0B 0) = l:=by
 have:Z0B 0 = id:=by funext s;simp [Z0B]
 rw [this,List.map_id]
theorem Z2v {f:Form} {i:Int} (ho:¬ Z0F f i) (h0:f.Count ≠ 0):ZK f i = [] ↔ Z2L f i = []:=by rw [Z3d ho h0,List.map_eq_nil_iff]
open Classical in
theorem Z5j {f:Form} (hl:Lim f) (hs:Shape f) {i:Int} (hi:In64 i):Z0g f i = some (if ZE i∧fits f i then (ZK f i,0) else ([],20)):=by
 unfold Z0g
 rw [Z8K]
 by_cases ht:ZE i
 ·rw [ZP ht,YD,cond_false]
  by_cases ho:Z0F f i
  ·obtain ⟨g,hg,rfl⟩:=ho
   have hset:=Z1c hs.inc hg
   have hr:=(hs.odd g hg).1
   have hf:fits f g.Index:=by
    intro s hsm;rw [hset] at hsm;obtain ⟨k,hk⟩:=YC hsm
    exact ⟨(hr.ok k s hk).1,(hr.ok k s hk).2.1⟩
   rw [Z9y hl hs hg,if_pos ⟨ht,hf⟩,hset];simp only [Y0]
   by_cases hn:g.Ticks = []
   ·rw [hn];rfl
   ·have:((g.Ticks.length:Int) == 0) = false:=beq_f (by have:=List.length_pos_iff.2 hn;omega)
    rw [this,cond_false];simp only [bne_self_eq_false,cond_false]
    rcases Z9z (b:=0) (hl.ticks g hg).2.1 hr.sp64 ⟨by decide,by decide⟩ with ⟨_,h2⟩ | ⟨h1,_⟩
    ·rw [h2,ZAA];rfl
    ·refine absurd (fun s hsm => ?_) h1
     rw [← hset] at hsm
     simpa using hf s hsm
  ·rw [Z8q hl hs hi ho]
   by_cases h0:f.Count = 0
   ·rw [if_pos h0,if_pos ⟨ht,by intro s hsm;rw [Z1q ho h0] at hsm;cases hsm⟩,Z1q ho h0];rfl
   ·rw [if_neg h0];simp only [Y0]
    by_cases hn:Z2L f i = []
    ·rw [if_pos ⟨ht,by intro s hsm;rw [(Z2v ho h0).2 hn] at hsm;cases hsm⟩,(Z2v ho h0).2 hn,hn];rfl
    ·have:(((Z2L f i).length:Int) == 0) = false:=beq_f (by have:=List.length_pos_iff.2 hn;omega)
     rw [this,cond_false];have hmem:=(Z2g hs h0 i).2
     have hr:=hs.core _ hmem
     have hfe:fits f i ↔ ∀ s ∈ Z2L f i,ZE (s.From + Z5Z f i)∧ZE (s.To + Z5Z f i):=by
      unfold fits;rw [Z3d ho h0]
      constructor
      ·intro h s hsm;exact h (Z0B (Z5Z f i) s) (List.mem_map.2 ⟨s,hsm,rfl⟩)
      ·intro h s hsm;obtain ⟨s,hsm',rfl⟩:=List.mem_map.1 hsm
       exact h s hsm'
     rcases fit_or (Z5Z f i) with ⟨q1,q2⟩ | ⟨q1,q2⟩ <;> rw [q2]
     ·simp only [bne_self_eq_false,cond_false]
      rcases Z9z (b:=Z5Z f i) (hl.sets _ hmem).1 hr.sp64 q1 with ⟨h1,h2⟩ | ⟨h1,h2⟩
      ·rw [h2,if_pos ⟨ht,hfe.2 h1⟩,Z3d ho h0];rfl
      ·rw [h2,if_neg (fun h => h1 (hfe.1 h.2))];rfl
     ·rw [if_neg]
      ·rfl
      ·rintro ⟨_,h⟩;have h:=hfe.1 h
       obtain ⟨s,hsm⟩:=List.exists_mem_of_ne_nil _ hn
       have h1:=(h s hsm).1
       obtain ⟨k,hk⟩:=YC hsm
       have h2:=(hr.ok k s hk).1
       unfold ZE at h1 h2;exact q1 (by unfold In64;omega)
 ·rw [ZQ ht,if_neg (fun h => ht h.1)];rfl
open Classical in
theorem ZAm {f:Form} (hl:Lim f) (hs:Shape f) {i:Int} (hi:In64 i):Z5F f i = some (decide (ZK f i ≠ [])):=by
 unfold Z5F
 by_cases ho:Z0F f i
 ·obtain ⟨g,hg,rfl⟩:=ho
  rw [Z9y hl hs hg,Z1c hs.inc hg];simp only [Y0];cases g.Ticks <;> simp
 ·rw [Z8q hl hs hi ho]
  by_cases h0:f.Count = 0
  ·rw [if_pos h0,Z1q ho h0];rfl
  ·rw [if_neg h0];simp only [Y0,Ne,Z2v ho h0];cases Z2L f i <;> simp
end Go.Dn

namespace Go.Dn
open Go
theorem Z3L {α:Type} {l:List α} {b:Nat} (h:l.length * (b + 1)≤reachBytes):(l.length:Int) < 4611686018427387904:=by
 have:=Z1S
 have:l.length≤l.length * (b + 1):=Nat.le_mul_of_pos_right _ (by omega)
 omega
theorem Z8p {α:Type} {l:List α} {k:Nat} {x:α} (h:l[k]? = some x):at? l (k:Int) = some x∧(k:Int) < l.length:=by
 have hlt:=(List.getElem?_eq_some_iff.1 h).1
 rw [Y2 hlt] at h
 exact ⟨by rw [at?_nat hlt];exact h,by omega⟩
theorem shape_core {f:Form} (hl:Lim f):(loopO (Zs.s0 f) 0 = some (.go ())∧∀ l ∈ f.Core,RightL l)∨(loopO (Zs.s0 f) 0 = some (.ret false)∧¬ ∀ l ∈ f.Core,RightL l):=by
 have hlen:=Z3L (b:=23) hl.core
 rcases Z2C (l:=f.Core) (step:=Zs.s0 f) (fun _ x => RightL x) (no:=.ret false) (yes:=.go ()) (fun k x hk _ => by
   obtain ⟨h1,h2⟩:=Z8p hk
   obtain ⟨b,hb,hr⟩:=Z96 (hl.sets x (Y7 hk)).1 (hl.sets x (Y7 hk)).2
   unfold Zs.s0;rw [ZP h2,cond_true,h1];simp only [Y0,hb,Z9 (show -9223372036854775808≤(k:Int) + 1∧(k:Int) + 1≤9223372036854775807 by omega)]
   cases b
   ·exact .inr ⟨rfl,fun h => by have:=hr.2 h;cases this⟩
   ·exact .inl ⟨rfl,hr.1 rfl⟩) (by unfold Zs.s0;rw [ZQ (by omega)];rfl) with ⟨h1,h2⟩ | ⟨h1,h2⟩
 ·exact .inl ⟨h1,fun l hm => by obtain ⟨k,hk⟩:=YC hm;exact h2 k l hk⟩
 ·exact .inr ⟨h1,fun h => h2 fun k x hk => h x (Y7 hk)⟩
def goodOdd (f:Form) (k:Nat) (g:Granule):Prop:=RightL g.Ticks∧ZE g.Index∧∀ p,k ≠ 0→f.Odd[k - 1]? = some p→p.Index < g.Index
theorem shape_odd {f:Form} (hl:Lim f):(loopO (Zs.s1 f) 0 = some (.go ())∧∀ k g,f.Odd[k]? = some g→goodOdd f k g)∨(loopO (Zs.s1 f) 0 = some (.ret false)∧¬ ∀ k g,f.Odd[k]? = some g→goodOdd f k g):=by
 have hlen:=Z3L (b:=31) hl.odd
 refine Z2C (l:=f.Odd) (step:=Zs.s1 f) (goodOdd f) (no:=.ret false) (yes:=.go ()) (fun k x hk _ => ?_) (by unfold Zs.s1;rw [ZQ (by omega)];rfl)
 obtain ⟨h1,h2⟩:=Z8p hk
 have hx:=hl.ticks x (Y7 hk)
 obtain ⟨b,hb,hr⟩:=Z96 hx.2.1 hx.2.2
 unfold Zs.s1
 rw [ZP h2,cond_true,h1]
 simp only [Y0,hb,Z8K,Z9 (show -9223372036854775808≤(k:Int) + 1∧(k:Int) + 1≤9223372036854775807 by omega)]
 by_cases hbt:b = true∧ZE x.Index
 ·rw [hbt.1,ZP hbt.2];simp only [YD,Bool.or_self,cond_false]
  by_cases h0:k = 0
  ·subst h0;exact .inl ⟨by simp,hr.1 hbt.1,hbt.2,fun p h => absurd rfl h⟩
  ·have hpl:k - 1 < f.Odd.length:=by omega
   rw [ZP (show (k:Int) > 0 by omega),cond_true,Z9 (by omega),show (k:Int) - 1 = ((k - 1:Nat):Int) by omega,at?_nat hpl]
   simp only [Y0]
   by_cases hc:x.Index≤f.Odd[k - 1].Index
   ·rw [ZP hc];refine .inr ⟨rfl,fun h => ?_⟩
    have:=h.2.2 _ h0 (Y2 hpl);omega
   ·rw [ZQ hc];refine .inl ⟨rfl,hr.1 hbt.1,hbt.2,fun p _ hp => ?_⟩
    rw [Y2 hpl] at hp;cases hp;omega
 ·have:(!b || !decide (ZE x.Index)) = true:=by
   cases b
   ·rfl
   ·rw [ZQ (fun h => hbt ⟨rfl,h⟩)];rfl
  rw [this,cond_true];exact .inr ⟨rfl,fun h => hbt ⟨hr.2 h.1,h.2.1⟩⟩
theorem inc_of {f:Form} (h:∀ k g,f.Odd[k]? = some g→goodOdd f k g):Inc f.Odd:=by
 intro j k a b hjk ha hb
 induction k generalizing b with
 | zero => omega
 | succ k ih =>
  have hkl:=(List.getElem?_eq_some_iff.1 hb).1
  have h1:=(h (k + 1) b hb).2.2 f.Odd[k] (by omega) (by simp [Y2 (show k < f.Odd.length by omega)])
  rcases YI j k with h2 | h2
  ·have:=ih _ h2 (Y2 (show k < f.Odd.length by omega));omega
  ·have:j = k:=by omega
   subst this;rw [Y2 (show j < f.Odd.length by omega)] at ha;cases ha;exact h1
theorem gran_shape_eq {f:Form} (hl:Lim f):∃ b,Zs f = some b∧(b = true ↔ Shape f):=by
 unfold Zs
 by_cases h1:f.Count = f.Core.length∧(f.Count = 0 ↔ f.Period = 0)∧0≤f.Period∧f.Period≤1099511627776
 ·have e:(f.Count != (f.Core.length:Int) || (f.Count == 0) != (f.Period == 0) || decide (f.Period < 0) || decide (f.Period > 1099511627776)) = false:=by
   rw [bne_f h1.1,ZQ (show ¬ f.Period < 0 by omega),ZQ (show ¬ f.Period > 1099511627776 by omega)]
   simp only [Y0s,Y0T,bne_eq_false_iff_eq,ibeq,decide_eq_decide];exact h1.2.1
  rw [e,cond_false]
  rcases shape_core hl with ⟨h2,h3⟩ | ⟨h2,h3⟩
  ·rw [h2];simp only [Y0,Jx.elim]
   rcases shape_odd hl with ⟨h4,h5⟩ | ⟨h4,h5⟩
   ·rw [h4];exact ⟨true,rfl,fun _ => ⟨h1.1,h1.2.1,h1.2.2,h3,fun g hg => by obtain ⟨k,hk⟩:=YC hg;exact ⟨(h5 k g hk).1,(h5 k g hk).2.1⟩,inc_of h5⟩,fun _ => rfl⟩
   ·rw [h4];refine ⟨false,rfl,fun h => (by cases h),fun h => absurd (fun k g hk => ⟨(h.odd g (Y7 hk)).1,(h.odd g (Y7 hk)).2,fun p h0 hp => h.inc (k - 1) k p g (by omega) hp hk⟩) h5⟩
  ·rw [h2];exact ⟨false,rfl,fun h => (by cases h),fun h => absurd h.core h3⟩
 ·have e:(f.Count != (f.Core.length:Int) || (f.Count == 0) != (f.Period == 0) || decide (f.Period < 0) || decide (f.Period > 1099511627776)) = true:=by
   apply Classical.byContradiction;intro hn;simp only [Yw,Bool.or_eq_false_iff,bne_eq_false_iff_eq,decide_eq_false_iff_not,ibeq,decide_eq_decide] at hn;exact h1 ⟨hn.1.1.1,hn.1.1.2,by omega,by omega⟩
  rw [e,cond_true];exact ⟨false,rfl,fun h => (by cases h),fun h => absurd ⟨h.count,h.zero,h.per⟩ h1⟩
def fstT (l:List Span):Int:=(l.head?.map Span.From).getD 0
def lstT (l:List Span):Int:=(l.getLast?.map Span.To).getD 0
theorem ZDJ {a b:List Span} (ha:a ≠ []) (hb:b ≠ []):Z4F a b ↔ lstT a < fstT b:=by
 unfold Z4F lstT fstT
 rw [Y03 ha,Y08 hb]
 simp
theorem RightL.tail {s:Span} {l:List Span} (h:RightL (s :: l)):RightL l :=
 ⟨fun k x hk => h.ok (k + 1) x hk,fun k x y hx hy => h.gap (k + 1) x y hx hy⟩
theorem Z1r {l:List Span} (h:RightL l) (hn:l ≠ []):fstT l≤lstT l:=by
 induction l with
 | nil => exact absurd rfl hn
 | cons s l ih =>
  have h0:=h.ok 0 s rfl
  cases l with
  | nil => simp [fstT,lstT];exact h0.2.2
  | cons t l =>
   have h1:=h.gap 0 s t rfl rfl
   have h2:=ih h.tail (by simp)
   have e1:lstT (s :: t :: l) = lstT (t :: l):=by simp [lstT]
   have e2:fstT (t :: l) = t.From:=rfl
   have e3:fstT (s :: t :: l) = s.From:=rfl
   rw [e1,e3];rw [e2] at h2;omega
theorem Z5e {l:List Span} (h:RightL l) (hn:l ≠ []):ZE (lstT l)∧ZE (fstT l):=by
 have h1:l.getLast? = some (l.getLast hn):=Y03 hn
 have h2:l.head? = some (l.head hn):=Y08 hn
 obtain ⟨j,hj⟩:=YC (List.getLast_mem hn)
 obtain ⟨k,hk⟩:=YC (List.head_mem hn)
 unfold lstT fstT
 rw [h1,h2]
 exact ⟨(h.ok j _ hj).2.1,(h.ok k _ hk).1⟩
def full (f:Form):List (List Span):=f.Core.filter (fun l => decide (l.length > 0))
def Turns (f:Form):Prop:=(∀ (k:Nat) (a b:List Span),(full f)[k]? = some a→(full f)[k + 1]? = some b→lstT a < fstT b)∧∀ a b,(full f).getLast? = some a→(full f).head? = some b→lstT a < fstT b + f.Period
theorem full_loop {f:Form} (hl:Lim f):loopO (Z0Y.s0 f) (0,[]) = some (full f):=by
 have hlen:=Z3L (b:=23) hl.core
 refine Z1F (I:=fun s r => r = full f∧∃ k:Nat,k≤f.Core.length∧s = ((k:Int),(f.Core.take k).filter (fun l => decide (l.length > 0)))) (fun s => f.Core.length - s.1.toNat) ?_ ⟨rfl,0,YM _,by simp⟩
 rintro s r ⟨rfl,k,hk,rfl⟩
 unfold Z0Y.s0
 by_cases hlt:k < f.Core.length
 ·have htake:f.Core.take (k + 1) = f.Core.take k ++ [f.Core[k]]:=Y0c hlt
  simp only;rw [ZP (show (k:Int) < f.Core.length by omega),cond_true,at?_nat hlt,Z9 (by omega)]
  simp only [Y0];refine .inl ?_;have hfl:((f.Core.take k).filter (fun l => decide (l.length > 0))).length≤k:=Yc (Y0Y _ _) (by rw [YL];exact Nat.min_le_left _ _)
  by_cases hc:f.Core[k].length > 0
  ·rw [ZP (show ((f.Core[k].length:Int) > 0) by omega),cond_true,app?_ok (by have h1:=hl.core;rw [Z1S] at h1;rw [Z5T];simp only [List.length_singleton];omega)]
   exact ⟨_,rfl,⟨trivial,k + 1,hlt,by rw [htake,List.filter_append];simp [hc]⟩,by simp;omega⟩
  ·rw [ZQ (show ¬ ((f.Core[k].length:Int) > 0) by omega),cond_false]
   exact ⟨_,rfl,⟨trivial,k + 1,hlt,by rw [htake,List.filter_append];simp [hc]⟩,by simp;omega⟩
 ·have:k = f.Core.length:=by omega
  subst this;simp only;rw [ZQ (show ¬ ((f.Core.length:Int) < f.Core.length) by omega),cond_false,Yx]
  exact .inr rfl
theorem gran_turns_eq {f:Form} (hl:Lim f) (hs:Shape f):∃ b,Z0Y f = some b∧(b = true ↔ Turns f):=by
 have hlen:=Z3L (b:=23) hl.core
 have hfl:(full f).length≤f.Core.length:=Y0Y _ _
 have hmem:∀ x ∈ full f,x ∈ f.Core∧x ≠ []:=fun x hx => by
  have:=List.mem_filter.1 hx
  exact ⟨this.1,by rintro rfl;simp at this⟩
 unfold Z0Y
 rw [full_loop hl]
 simp only [Y0]
 rcases Z2C (l:=full f) (step:=Z0Y.s1 f (full f)) (fun k a => ∀ b,(full f)[(k + 1) % (full f).length]? = some b→lstT a < fstT b + (if k + 1 = (full f).length then f.Period else 0)) (no:=.ret false) (yes:=.go ()) (fun k a hk _ => by
   obtain ⟨h1,h2⟩:=Z8p hk
   have hkl:k < (full f).length:=by omega
   have hmod:(k + 1) % (full f).length < (full f).length:=Nat.mod_lt _ (by omega)
   have hnext:at? (full f) ((((k + 1) % (full f).length:Nat):Int)) = some (full f)[(k + 1) % (full f).length]:=at?_nat hmod
   obtain ⟨ha1,ha2⟩:=hmem a (Y7 hk)
   obtain ⟨hb1,hb2⟩:=hmem _ (YE hmod)
   have hra:=hs.core a ha1
   have hrb:=hs.core _ hb1
   have hal:a.length - 1 < a.length:=by have:=List.length_pos_iff.2 ha2;omega
   have hlast:at? a (w64 ((a.length:Int) - 1)) = some a[a.length - 1]:=by
    have:=Z3L (b:=15) (hl.sets a ha1).1
    rw [Z9 (by omega),show (a.length:Int) - 1 = ((a.length - 1:Nat):Int) by omega,at?_nat hal]
   have hlt:lstT a = a[a.length - 1].To:=by unfold lstT;rw [Y0Z,Y2 hal];rfl
   unfold Z0Y.s1;rw [ZP h2,cond_true,h1,nz?_ok (by omega),Z9 (x:=(k:Int) + 1) (by omega)]
   have htm:((k:Int) + 1).tmod ((full f).length:Int) = (((k + 1) % (full f).length:Nat):Int):=by
    rw [Int.tmod_eq_emod_of_nonneg (by omega)];push_cast;rfl
   simp only [Y0,htm,hnext,hlast];rw [Y2 hmod];generalize (full f)[(k + 1) % (full f).length] = b at *
   have hb0:at? b 0 = some (b.head hb2):=by
    cases b with
    | nil => exact absurd rfl hb2
    | cons y b => rfl
   have hbf:fstT b = (b.head hb2).From:=by unfold fstT;rw [Y08 hb2];rfl
   have htick:=(Z5e hrb hb2).2
   unfold ZE at htick;have hper:=hs.per
   by_cases hl1:k + 1 = (full f).length
   ·have e:((k:Int) + 1 == ((full f).length:Int)) = true:=beq_t (by omega)
    rw [e,cond_true];simp only [Y0,hb0,← hbf,Z9 (show -9223372036854775808≤fstT b + f.Period∧fstT b + f.Period≤9223372036854775807 by omega),← hlt,if_pos hl1]
    by_cases hc:lstT a ≥ fstT b + f.Period
    ·rw [ZP hc];exact .inr ⟨rfl,fun h => by have:=h b rfl;omega⟩
    ·rw [ZQ hc];exact .inl ⟨rfl,fun b' hb' => by cases hb';omega⟩
   ·have e:((k:Int) + 1 == ((full f).length:Int)) = false:=beq_f (by omega)
    rw [e,cond_false];simp only [Y0,hb0,← hbf,Z9 (show -9223372036854775808≤fstT b + 0∧fstT b + 0≤9223372036854775807 by omega),← hlt,if_neg hl1]
    by_cases hc:lstT a ≥ fstT b + 0
    ·rw [ZP hc];exact .inr ⟨rfl,fun h => by have:=h b rfl;omega⟩
    ·rw [ZQ hc];exact .inl ⟨rfl,fun b' hb' => by cases hb';omega⟩) (by unfold Z0Y.s1;rw [ZQ (by omega)];rfl) with ⟨h1,h2⟩ | ⟨h1,h2⟩
 ·rw [h1];refine ⟨true,rfl,fun _ => ⟨fun k a b ha hb => ?_,fun a b ha hb => ?_⟩,fun _ => rfl⟩
  ·have hkl:=(List.getElem?_eq_some_iff.1 hb).1
   have:=h2 k a ha b (by rw [Nat.mod_eq_of_lt hkl];exact hb)
   rw [if_neg (by omega)] at this;omega
  ·have hn:full f ≠ []:=by rintro e;rw [e] at ha;simp at ha
   have hpos:=List.length_pos_iff.2 hn
   rw [Y0Z] at ha;have e1:(full f).length - 1 + 1 = (full f).length:=by omega
   have:=h2 _ a ha b (by rw [e1,Nat.mod_self,← List.head?_eq_getElem?];exact hb)
   rw [if_pos e1] at this;exact this
 ·rw [h1];refine ⟨false,rfl,fun h => (by cases h),fun h => absurd (fun k a hk b hb => ?_) h2⟩
  have hkl:=(List.getElem?_eq_some_iff.1 hk).1
  by_cases hl1:k + 1 = (full f).length
  ·rw [if_pos hl1];rw [hl1,Nat.mod_self,← List.head?_eq_getElem?] at hb;exact h.2 a b (by rw [Y0Z,← hl1];exact hk) hb
  ·rw [if_neg hl1];rw [Nat.mod_eq_of_lt (by omega)] at hb
   have:=h.1 k a b hk hb;omega
end Go.Dn

namespace Go.Dn
open Go
theorem ZDA {l:List (List Span)} {p:List Span→Bool} (hl:l.length * 24≤reachBytes):Zg l (fun z => some (p z)) = some (decide (∃ x ∈ l,p x = true)):=by
 have hlen:=Z3L (b:=23) hl
 unfold Zg ZD
 by_cases hall:∀ (k:Nat) (x:List Span),l[k]? = some x→¬ p x = true
 ·have:loopO (ZD.s0 l (fun z => some (p z))) 0 = some (.go ()):=by
   refine Z1F (I:=fun (s:Int) r => r = .go ()∧∃ k:Nat,s = k∧k≤l.length) (fun s => l.length - s.toNat) ?_ ⟨rfl,0,rfl,YM _⟩
   rintro s r ⟨rfl,k,rfl,hk⟩;unfold ZD.s0
   by_cases hlt:k < l.length
   ·rw [ZP (show (k:Int) < l.length by omega),cond_true,at?_nat hlt,Z9 (by omega)]
    have:=hall k _ (Y2 hlt)
    simp only [Y0,Yw] at this ⊢;rw [this];exact .inl ⟨_,rfl,⟨trivial,k + 1,by push_cast;rfl,hlt⟩,by simp;omega⟩
   ·rw [ZQ (show ¬ (k:Int) < l.length by omega)];exact .inr rfl
  rw [this,ZQ (by rintro ⟨x,hx,hp⟩;obtain ⟨k,hk⟩:=YC hx;exact hall k x hk hp)]
  rfl
 ·obtain ⟨k0,x0,hx0,hb0,hg⟩:=ZCN (good:=fun _ x => ¬ p x = true) hall
  have hb0:p x0 = true:=Classical.byContradiction hb0
  have hlt0:=(List.getElem?_eq_some_iff.1 hx0).1
  have:loopO (ZD.s0 l (fun z => some (p z))) 0 = some (.ret (k0:Int)):=by
   refine Z1F (I:=fun (s:Int) r => r = .ret (k0:Int)∧∃ k:Nat,s = k∧k≤k0) (fun s => l.length - s.toNat) ?_ ⟨rfl,0,rfl,YM _⟩
   rintro s r ⟨rfl,k,rfl,hk⟩;unfold ZD.s0;have hkl:k < l.length:=by omega
   rw [ZP (show (k:Int) < l.length by omega),cond_true,at?_nat hkl,Z9 (by omega)]
   by_cases hlt:k < k0
   ·have:=hg k _ hlt (Y2 hkl)
    simp only [Y0,Yw] at this ⊢;rw [this];exact .inl ⟨_,rfl,⟨trivial,k + 1,by push_cast;rfl,hlt⟩,by simp;omega⟩
   ·have:k = k0:=by omega
    subst this;rw [Y2 hkl] at hx0;cases hx0;simp only [Y0,hb0];exact .inr rfl
  rw [this,ZP ⟨x0,Y7 hx0,hb0⟩];simp only [Y0,Jx.elim];rw [ZP (by omega)]
def Bare (f:Form):Prop:=∀ l ∈ f.Core,l = []
theorem Z8S {f:Form} (hl:Lim f):∃ b,Z3h f = some b∧(b = true ↔ Bare f):=by
 unfold Z3h
 rw [ZDA hl.core]
 refine ⟨_,rfl,?_⟩
 simp only [Z5h,YQ,decide_eq_false_iff_not,decide_eq_true_eq]
 constructor
 ·intro h l hm;apply Classical.byContradiction;intro hn;exact h ⟨l,hm,by have:=List.length_pos_iff.2 hn;omega⟩
 ·rintro h ⟨l,hm,hp⟩;rw [h l hm] at hp;simp at hp
theorem Z8Y {f:Form} (hs:Shape f) (hb:Bare f) {i:Int} (ho:¬ Z0F f i):ZK f i = []:=by
 by_cases h0:f.Count = 0
 ·exact Z1q ho h0
 ·exact (Z2v ho h0).2 (hb _ (Z2g hs h0 i).2)
def UpTo (f:Form) (i:Int) (r:Int × Bool):Prop:=(r.2 = true∧i≤r.1∧ZE r.1∧ZK f r.1 ≠ []∧∀ k,i≤k→k < r.1→ZK f k = [])∨(r.2 = false∧r.1 = 0∧∀ k,i≤k→ZE k→ZK f k = [])
def DownTo (f:Form) (i:Int) (r:Int × Bool):Prop:=(r.2 = true∧r.1≤i∧ZE r.1∧ZK f r.1 ≠ []∧∀ k,k≤i→r.1 < k→ZK f k = [])∨(r.2 = false∧r.1 = 0∧∀ k,k≤i→ZE k→ZK f k = [])
theorem odd_split {f:Form} (hs:Shape f) {p:Nat} {i:Int} (hp:∀ (k:Nat) (g:Granule),f.Odd[k]? = some g→(k < p ↔ g.Index < i)) {j:Int} (hj:Z0F f j):∃ (k:Nat) (g:Granule),f.Odd[k]? = some g∧g.Index = j∧(k < p ↔ j < i):=by
 obtain ⟨g,hg,rfl⟩:=hj
 obtain ⟨k,hk⟩:=YC hg
 exact ⟨k,g,hk,rfl,hp k g hk⟩
theorem gran_step_up {f:Form} (hl:Lim f) (hs:Shape f) {i:Int} (hi : -1099511627776≤i∧i≤1099511627776):∃ r,Z07 f i 1 = some r∧UpTo f i r:=by
 have hi64:In64 i:=by unfold In64;omega
 obtain ⟨b,hb,hbb⟩:=Z8S hl
 have holen:=Z3L (b:=31) hl.odd
 unfold Z07
 rw [hb]
 simp only [Y0]
 cases b with
 | true =>
  have hbare:=hbb.1 rfl
  rw [cond_true];obtain ⟨p,h1,h2,h3⟩:=Z76 hl hs.inc i
  rw [h3];simp only [Y0,ZQ (show ¬ (1:Int) < 0 by omega),Y0Q,cond_false]
  obtain ⟨r,hr,hpost⟩:=Z0N (step:=Z07.s0 f 1) (I:=fun (s:Int) => ∃ k:Nat,s = k∧p≤k∧k≤f.Odd.length∧∀ (j:Nat) (g:Granule),f.Odd[j]? = some g→p≤j→j < k→g.Ticks = []) (fun s => f.Odd.length - s.toNat)
   (fun r => (∃ (k:Nat) (g:Granule),r = .ret (g.Index,true)∧f.Odd[k]? = some g∧p≤k∧g.Ticks ≠ []∧∀ (j:Nat) (g':Granule),f.Odd[j]? = some g'→p≤j→j < k→g'.Ticks = [])∨(r = .go ()∧∀ (j:Nat) (g':Granule),f.Odd[j]? = some g'→p≤j→g'.Ticks = [])) (by
   rintro s ⟨k,rfl,hpk,hk,hn⟩;unfold Z07.s0
   by_cases hlt:k < f.Odd.length
   ·rw [ZP (show (k:Int) ≥ 0 by omega),ZP (show (k:Int) < f.Odd.length by omega),Y00,cond_true,at?_nat hlt,Z9 (by omega)]
    simp only [Y0];have hget:=Y2 hlt
    by_cases hc:f.Odd[k].Ticks = []
    ·rw [hc];refine .inl ⟨(k:Int) + 1,rfl,⟨k + 1,by push_cast;rfl,by omega,hlt,fun j g hj hpj hjk => ?_⟩,by simp;omega⟩
     rcases YI j k with h | h
     ·exact hn j g hj hpj h
     ·have:j = k:=by omega
      subst this;rw [hget] at hj;cases hj;exact hc
    ·rw [ZP (show ((f.Odd[k].Ticks.length:Int) > 0) by have:=List.length_pos_iff.2 hc;omega),cond_true]
     exact .inr ⟨_,rfl,.inl ⟨k,_,rfl,hget,hpk,hc,hn⟩⟩
   ·rw [ZQ (show ¬ (k:Int) < f.Odd.length by omega),Bool.and_false,cond_false]
    refine .inr ⟨_,rfl,.inr ⟨rfl,fun j g hj hpj => hn j g hj hpj ?_⟩⟩
    have:=(List.getElem?_eq_some_iff.1 hj).1;omega) (p:Int) ⟨p,rfl,YB _,h1,fun j g _ h h' => by omega⟩
  rw [hr];simp only [Y0]
  rcases hpost with ⟨k,g,rfl,hk,hpk,hne,hn⟩ | ⟨rfl,hn⟩
  ·have hset:=Z1c hs.inc (Y7 hk)
   have hgi:¬ g.Index < i:=fun h => by have:=(h2 k g hk).2 h;omega
   refine ⟨_,rfl,.inl ⟨rfl,by simp only;omega,(hs.odd g (Y7 hk)).2,by simp only;rw [hset];exact hne,fun j hij hjg => ?_⟩⟩
   simp only at hjg
   by_cases ho:Z0F f j
   ·obtain ⟨k',g',hk',rfl,hiff⟩:=odd_split hs h2 ho
    rw [Z1c hs.inc (Y7 hk')];refine hn k' g' hk' ?_ ?_
    ·rcases YI k' p with h | h
     ·have:=hiff.1 h;omega
     ·exact h
    ·rcases YI k' k with h | h
     ·exact h
     ·rcases YI k k' with h' | h'
      ·have:=hs.inc k k' g g' h' hk hk';omega
      ·have:k = k':=by omega
       subst this;rw [hk] at hk';cases hk';omega
   ·exact Z8Y hs hbare ho
  ·refine ⟨_,rfl,.inr ⟨rfl,rfl,fun j hij _ => ?_⟩⟩
   by_cases ho:Z0F f j
   ·obtain ⟨k',g',hk',rfl,hiff⟩:=odd_split hs h2 ho
    rw [Z1c hs.inc (Y7 hk')];refine hn k' g' hk' ?_
    rcases YI k' p with h | h
    ·have:=hiff.1 h;omega
    ·exact h
   ·exact Z8Y hs hbare ho
 | false =>
  rw [cond_false];obtain ⟨r,hr,hpost⟩:=Z0N (step:=Z07.s1 f 1) (I:=fun (s:Int) => i≤s∧s≤1099511627777∧∀ k,i≤k→k < s→ZK f k = []) (fun s => (1099511627777 - s).toNat)
   (fun r => (∃ j,r = .ret (j,true)∧i≤j∧ZE j∧ZK f j ≠ []∧∀ k,i≤k→k < j→ZK f k = [])∨(r = .go ()∧∀ k,i≤k→ZE k→ZK f k = [])) (by
   rintro s ⟨hs1,hs2,hn⟩;unfold Z07.s1;rw [Z8K]
   by_cases ht:ZE s
   ·rw [ZP ht,cond_true,ZAm hl hs (Z2x ht),Z9 (by unfold ZE at ht;omega)]
    simp only [Y0]
    by_cases hc:ZK f s = []
    ·rw [hc];refine .inl ⟨s + 1,by simp,⟨by omega,by unfold ZE at ht;omega,fun k hk hks => ?_⟩,by unfold ZE at ht;omega⟩
     by_cases h:k = s
     ·rw [h];exact hc
     ·exact hn k hk (by omega)
    ·rw [ZP hc,cond_true];exact .inr ⟨_,rfl,.inl ⟨s,rfl,hs1,ht,hc,hn⟩⟩
   ·rw [ZQ ht,cond_false];exact .inr ⟨_,rfl,.inr ⟨rfl,fun k hk htk => hn k hk (by unfold ZE at ht htk;omega)⟩⟩) i ⟨YZ _,by omega,fun k h h' => by omega⟩
  rw [hr];simp only [Y0]
  rcases hpost with ⟨j,rfl,h1,h2,h3,h4⟩ | ⟨rfl,hn⟩
  ·exact ⟨_,rfl,.inl ⟨rfl,h1,h2,h3,h4⟩⟩
  ·exact ⟨_,rfl,.inr ⟨rfl,rfl,hn⟩⟩
theorem ZDP {f:Form} (hl:Lim f) (hs:Shape f) {i:Int} (hi : -1099511627776≤i∧i≤1099511627776):∃ r,Z07 f i (-1) = some r∧DownTo f i r:=by
 have hi64:In64 i:=by unfold In64;omega
 obtain ⟨b,hb,hbb⟩:=Z8S hl
 have holen:=Z3L (b:=31) hl.odd
 unfold Z07
 rw [hb]
 simp only [Y0]
 cases b with
 | true =>
  have hbare:=hbb.1 rfl
  rw [cond_true];obtain ⟨p,h1,h2,h3⟩:=Z76 hl hs.inc i
  rw [h3]
  -- the number of exceptions up to the index
  obtain ⟨q,hq1,hq2,hq3⟩ : ∃ q:Nat,q≤f.Odd.length∧(∀ (k:Nat) (g:Granule),f.Odd[k]? = some g→(k < q ↔ g.Index≤i))∧((bif (decide ((-1:Int) < 0) && !decide (∃ g,f.Odd[p]? = some g∧g.Index = i)) then some (w64 ((p:Int) - 1)) else some (p:Int)):Option Int) = some ((q:Int) - 1):=by
   by_cases he:∃ g,f.Odd[p]? = some g∧g.Index = i
   ·obtain ⟨g,hg,hgi⟩:=he
    have hpl:=(List.getElem?_eq_some_iff.1 hg).1
    refine ⟨p + 1,by omega,fun k g' hk => ?_,by rw [ZP (p:=∃ g,f.Odd[p]? = some g∧g.Index = i) ⟨g,hg,hgi⟩];simp⟩
    have:=h2 k g' hk
    constructor
    ·intro h
     rcases YI k p with h' | h'
     ·have:=this.1 h';omega
     ·have:k = p:=by omega
      subst this;rw [hg] at hk;cases hk;omega
    ·intro h
     rcases YI p k with h' | h'
     ·have:=hs.inc p k g g' h' hg hk;omega
     ·omega
   ·refine ⟨p,h1,fun k g' hk => ?_,by rw [ZQ (p:=∃ g,f.Odd[p]? = some g∧g.Index = i) he,Z9 (by omega)];simp⟩
    have:=h2 k g' hk
    constructor
    ·intro h;have:=this.1 h;omega
    ·intro h
     by_cases hgi:g'.Index = i
     ·exfalso
      have hkp:¬ k < p:=fun h' => by have:=this.1 h';omega
      rcases YI p k with h' | h'
      ·have hpl:p < f.Odd.length:=by have:=(List.getElem?_eq_some_iff.1 hk).1;omega
       have h5:=hs.inc p k _ g' h' (Y2 hpl) hk
       have h6:=(h2 p _ (Y2 hpl)).2 (by omega)
       omega
      ·have:k = p:=by omega
       subst this;exact he ⟨g',hk,hgi⟩
     ·exact this.2 (by omega)
  simp only [Y0];rw [hq3];simp only [Y0];obtain ⟨r,hr,hpost⟩:=Z0N (step:=Z07.s0 f (-1)) (I:=fun (s:Int) => ∃ k:Nat,s = (k:Int) - 1∧k≤q∧∀ (j:Nat) (g:Granule),f.Odd[j]? = some g→k≤j→j < q→g.Ticks = []) (fun s => (s + 1).toNat)
   (fun r => (∃ (k:Nat) (g:Granule),r = .ret (g.Index,true)∧f.Odd[k]? = some g∧k < q∧g.Ticks ≠ []∧∀ (j:Nat) (g':Granule),f.Odd[j]? = some g'→k < j→j < q→g'.Ticks = [])∨(r = .go ()∧∀ (j:Nat) (g':Granule),f.Odd[j]? = some g'→j < q→g'.Ticks = [])) (by
   rintro s ⟨k,rfl,hk,hn⟩;unfold Z07.s0
   by_cases h0:0 < k
   ·have hlt:k - 1 < f.Odd.length:=by omega
    rw [ZP (show (k:Int) - 1 ≥ 0 by omega),ZP (show (k:Int) - 1 < f.Odd.length by omega),Y00,cond_true,show (k:Int) - 1 = ((k - 1:Nat):Int) by omega,at?_nat hlt,Z9 (by omega)]
    simp only [Y0];have hget:=Y2 hlt
    by_cases hc:f.Odd[k - 1].Ticks = []
    ·rw [hc];refine .inl ⟨((k - 1:Nat):Int) + -1,rfl,⟨k - 1,by omega,by omega,fun j g hj hpj hjk => ?_⟩,by simp;omega⟩
     rcases YI j k with h | h
     ·have:j = k - 1:=by omega
      subst this;rw [hget] at hj;cases hj;exact hc
     ·exact hn j g hj h hjk
    ·rw [ZP (show ((f.Odd[k - 1].Ticks.length:Int) > 0) by have:=List.length_pos_iff.2 hc;omega),cond_true]
     exact .inr ⟨_,rfl,.inl ⟨k - 1,_,rfl,hget,by omega,hc,fun j g hj h1 h2 => hn j g hj (by omega) h2⟩⟩
   ·rw [ZQ (show ¬ (k:Int) - 1 ≥ 0 by omega),Y0Q,cond_false]
    exact .inr ⟨_,rfl,.inr ⟨rfl,fun j g hj hjq => hn j g hj (by omega) hjq⟩⟩) ((q:Int) - 1) ⟨q,rfl,YB _,fun j g _ h h' => by omega⟩
  rw [hr];simp only [Y0]
  rcases hpost with ⟨k,g,rfl,hk,hkq,hne,hn⟩ | ⟨rfl,hn⟩
  ·have hset:=Z1c hs.inc (Y7 hk)
   have hgi:=(hq2 k g hk).1 hkq
   refine ⟨_,rfl,.inl ⟨rfl,hgi,(hs.odd g (Y7 hk)).2,by simp only;rw [hset];exact hne,fun j hij hjg => ?_⟩⟩
   simp only at hjg
   by_cases ho:Z0F f j
   ·obtain ⟨g',hg',rfl⟩:=ho
    obtain ⟨k',hk'⟩:=YC hg'
    rw [Z1c hs.inc hg'];refine hn k' g' hk' ?_ ((hq2 k' g' hk').2 hij)
    rcases YI k k' with h | h
    ·exact h
    ·rcases YI k' k with h' | h'
     ·have:=hs.inc k' k g' g h' hk' hk;omega
     ·have:k = k':=by omega
      subst this;rw [hk] at hk';cases hk';omega
   ·exact Z8Y hs hbare ho
  ·refine ⟨_,rfl,.inr ⟨rfl,rfl,fun j hij _ => ?_⟩⟩
   by_cases ho:Z0F f j
   ·obtain ⟨g',hg',rfl⟩:=ho
    obtain ⟨k',hk'⟩:=YC hg'
    rw [Z1c hs.inc hg'];exact hn k' g' hk' ((hq2 k' g' hk').2 hij)
   ·exact Z8Y hs hbare ho
 | false =>
  rw [cond_false];obtain ⟨r,hr,hpost⟩:=Z0N (step:=Z07.s1 f (-1)) (I:=fun (s:Int) => s≤i∧-1099511627777≤s∧∀ k,k≤i→s < k→ZK f k = []) (fun s => (s + 1099511627777).toNat)
   (fun r => (∃ j,r = .ret (j,true)∧j≤i∧ZE j∧ZK f j ≠ []∧∀ k,k≤i→j < k→ZK f k = [])∨(r = .go ()∧∀ k,k≤i→ZE k→ZK f k = [])) (by
   rintro s ⟨hs1,hs2,hn⟩;unfold Z07.s1;rw [Z8K]
   by_cases ht:ZE s
   ·rw [ZP ht,cond_true,ZAm hl hs (Z2x ht),Z9 (by unfold ZE at ht;omega)]
    simp only [Y0]
    by_cases hc:ZK f s = []
    ·rw [hc];refine .inl ⟨s + -1,by simp,⟨by omega,by unfold ZE at ht;omega,fun k hk hks => ?_⟩,by unfold ZE at ht;omega⟩
     by_cases h:k = s
     ·rw [h];exact hc
     ·exact hn k hk (by omega)
    ·rw [ZP hc,cond_true];exact .inr ⟨_,rfl,.inl ⟨s,rfl,hs1,ht,hc,hn⟩⟩
   ·rw [ZQ ht,cond_false];exact .inr ⟨_,rfl,.inr ⟨rfl,fun k hk htk => hn k hk (by unfold ZE at ht htk;omega)⟩⟩) i ⟨YZ _,by omega,fun k h h' => by omega⟩
  rw [hr];simp only [Y0]
  rcases hpost with ⟨j,rfl,h1,h2,h3,h4⟩ | ⟨rfl,hn⟩
  ·exact ⟨_,rfl,.inl ⟨rfl,h1,h2,h3,h4⟩⟩
  ·exact ⟨_,rfl,.inr ⟨rfl,rfl,hn⟩⟩
def Above (f:Form) (i:Int) (r:Int × Bool):Prop:=(r.2 = true∧i < r.1∧ZE r.1∧ZK f r.1 ≠ []∧∀ k,i < k→k < r.1→ZE k→ZK f k = [])∨(r.2 = false∧r.1 = 0∧∀ k,i < k→ZE k→ZK f k = [])
def Under (f:Form) (i:Int) (r:Int × Bool):Prop:=(r.2 = true∧r.1 < i∧ZE r.1∧ZK f r.1 ≠ []∧∀ k,k < i→r.1 < k→ZE k→ZK f k = [])∨(r.2 = false∧r.1 = 0∧∀ k,k < i→ZE k→ZK f k = [])
theorem Z3b {f:Form} (hl:Lim f) (hs:Shape f) {i:Int} (hi:In64 i):∃ r,Z1j f i = some r∧Above f i r:=by
 unfold Z1j
 by_cases h:i ≥ 1099511627776
 ·rw [ZP h,cond_true];exact ⟨_,rfl,.inr ⟨rfl,rfl,fun k hk ht => by unfold ZE at ht;omega⟩⟩
 ·rw [ZQ h,cond_false,Z9 (by unfold In64 at hi;omega)]
  have hm:iMax (i + 1) (-1099511627776) = max (i + 1) (-1099511627776):=by unfold iMax;omega
  rw [hm];obtain ⟨r,h1,h2⟩:=gran_step_up hl hs (i:=max (i + 1) (-1099511627776)) (by omega)
  rw [h1];refine ⟨r,rfl,?_⟩
  rcases h2 with ⟨a,b,c,d,e⟩ | ⟨a,b,e⟩
  ·exact .inl ⟨a,by omega,c,d,fun k hk hkr ht => e k (by unfold ZE at ht;omega) hkr⟩
  ·exact .inr ⟨a,b,fun k hk ht => e k (by have:=ht;unfold ZE at this;omega) ht⟩
theorem Z6g {f:Form} (hl:Lim f) (hs:Shape f) {i:Int} (hi:In64 i):∃ r,Z23 f i = some r∧Under f i r:=by
 unfold Z23
 by_cases h:i≤-1099511627776
 ·rw [ZP h,cond_true];exact ⟨_,rfl,.inr ⟨rfl,rfl,fun k hk ht => by unfold ZE at ht;omega⟩⟩
 ·rw [ZQ h,cond_false,Z9 (by unfold In64 at hi;omega)]
  have hm:iMin (i - 1) 1099511627776 = min (i - 1) 1099511627776:=by unfold iMin;omega
  rw [hm];obtain ⟨r,h1,h2⟩:=ZDP hl hs (i:=min (i - 1) 1099511627776) (by omega)
  rw [h1];refine ⟨r,rfl,?_⟩
  rcases h2 with ⟨a,b,c,d,e⟩ | ⟨a,b,e⟩
  ·exact .inl ⟨a,by omega,c,d,fun k hk hkr ht => e k (by unfold ZE at ht;omega) hkr⟩
  ·exact .inr ⟨a,b,fun k hk ht => e k (by have:=ht;unfold ZE at this;omega) ht⟩
end Go.Dn

namespace Go.Dn
open Go
def BesideR (f:Form) (i:Int) (lo hi:Int × Bool):Prop :=
 fits f i∧(lo.2 = true→fits f lo.1∧Z4F (ZK f lo.1) (ZK f i))∧(hi.2 = true→fits f hi.1∧Z4F (ZK f i) (ZK f hi.1))∧(lo.2 = true→hi.2 = true→Z4F (ZK f lo.1) (ZK f hi.1))
theorem aheadL_nil_l (b:List Span):Z4F [] b:=by intro x hx;cases hx
theorem aheadL_nil_r (a:List Span):Z4F a []:=by intro x _ y hy;cases hy
theorem Z9c {f:Form} (hl:Lim f) (hs:Shape f) (i:Int):Len (ZK f i):=by
 by_cases ho:Z0F f i
 ·obtain ⟨g,hg,rfl⟩:=ho
  rw [Z1c hs.inc hg];exact (hl.ticks g hg).2.1
 ·by_cases h0:f.Count = 0
  ·rw [Z1q ho h0];unfold Len;simp
  ·rw [Z3d ho h0];unfold Len;rw [YT];exact (hl.sets _ (Z2g hs h0 i).2).1
theorem Z71 {f:Form} (hs:Shape f) {i:Int} (hf:fits f i):RightL (ZK f i):=by
 by_cases ho:Z0F f i
 ·obtain ⟨g,hg,rfl⟩:=ho
  rw [Z1c hs.inc hg];exact (hs.odd g hg).1
 ·by_cases h0:f.Count = 0
  ·rw [Z1q ho h0];exact ⟨by simp,by simp⟩
  ·unfold fits at hf;rw [Z3d ho h0] at hf ⊢;exact (hs.core _ (Z2g hs h0 i).2).shift fun s hs' => hf (Z0B (Z5Z f i) s) (List.mem_map.2 ⟨s,hs',rfl⟩)
theorem near_l {c:Bool} {X S:List Span}:Z4F (if c = true then X else []) S ↔ (c = true→Z4F X S):=by
 cases c
 ·simp [aheadL_nil_l]
 ·simp
theorem near_r {c:Bool} {X S:List Span}:Z4F S (if c = true then X else []) ↔ (c = true→Z4F S X):=by
 cases c
 ·simp [aheadL_nil_r]
 ·simp
noncomputable def sideG (f:Form) (r:Int × Bool):Option (Jx (List Span) Bool) :=
 (bif r.2 then (Z0g f r.1).bind fun x => (bif (x.2 != 0) then some (.ret false) else some (.go x.1)) else some (.go []))
open Classical in
theorem sideG_eq {f:Form} (hl:Lim f) (hs:Shape f) {r:Int × Bool} (ht:r.2 = true→ZE r.1):(r.2 = true∧¬ fits f r.1∧sideG f r = some (.ret false))∨((r.2 = true→fits f r.1)∧sideG f r = some (.go (if r.2 = true then ZK f r.1 else []))):=by
 obtain ⟨j,c⟩:=r
 unfold sideG
 cases c with
 | false => exact .inr ⟨by simp,by simp⟩
 | true =>
  simp only [cond_true];rw [Z5j hl hs (Z2x (ht rfl))]
  by_cases hfl:fits f j
  ·rw [if_pos ⟨ht rfl,hfl⟩];exact .inr ⟨fun _ => hfl,by simp⟩
  ·rw [if_neg (fun h => hfl h.2)];exact .inl ⟨trivial,hfl,rfl⟩
open Classical in
theorem ZDi {f:Form} (hl:Lim f) (hs:Shape f) {i:Int} (hi:ZE i) {lo hi':Int × Bool} (hlo:Z23 f i = some lo) (hhi:Z1j f i = some hi') (tlo:lo.2 = true→ZE lo.1) (thi:hi'.2 = true→ZE hi'.1) :
  ∃ b,Z2X f i = some b∧(b = true ↔ BesideR f i lo hi'):=by
 have e:Z2X f i = (Z0g f i).bind fun x1 => (bif (x1.2 != 0) then some false else (sideG f lo).bind fun y1 => y1.elim (fun r' => some r') fun a2 => (sideG f hi').bind fun y2 => y2.elim (fun r' => some r') fun a4 =>
   (Z11 a2 x1.1).bind fun x6 => ((bif x6 then (Z11 x1.1 a4).bind fun x7 => some x7 else some false)).bind fun y3 => ((bif y3 then (Z11 a2 a4).bind fun x8 => some x8 else some false)).bind fun y4 => some y4):=by
  unfold Z2X sideG;rw [hlo,hhi];simp only [Y0]
 rw [e,Z5j hl hs (Z2x hi)]
 clear e
 by_cases hf:fits f i
 ·rw [if_pos ⟨hi,hf⟩];simp only [Y0,bne_self_eq_false,cond_false]
  rcases sideG_eq hl hs tlo with ⟨h1,h2,h0⟩ | ⟨h1,h0⟩
  ·rw [h0];exact ⟨false,rfl,fun h => (by cases h),fun h => absurd (h.2.1 h1).1 h2⟩
  ·rw [h0];simp only [Y0,Jx.elim]
   rcases sideG_eq hl hs thi with ⟨h3,h4,h0'⟩ | ⟨h3,h0'⟩
   ·rw [h0'];exact ⟨false,rfl,fun h => (by cases h),fun h => absurd (h.2.2.1 h3).1 h4⟩
   ·rw [h0'];simp only [Y0];have lenA:Len (if lo.2 = true then ZK f lo.1 else []):=by
     by_cases hc:lo.2 = true
     ·rw [if_pos hc];exact Z9c hl hs _
     ·rw [if_neg hc];unfold Len;simp
    generalize hA:(if lo.2 = true then ZK f lo.1 else []) = A at lenA
    generalize hB:(if hi'.2 = true then ZK f hi'.1 else []) = B
    obtain ⟨r1,q1,p1⟩:=Z6h (b:=ZK f i) lenA
    obtain ⟨r2,q2,p2⟩:=Z6h (a:=ZK f i) (b:=B) (Z9c hl hs i)
    obtain ⟨r3,q3,p3⟩:=Z6h (b:=B) lenA
    rw [q1,q2,q3];subst hA hB;rw [near_l] at p1;rw [near_r] at p2;rw [near_l,near_r] at p3;refine ⟨r1 && r2 && r3,by cases r1 <;> cases r2 <;> rfl,?_⟩
    rw [Y9,Y9,p1,p2,p3]
    constructor
    ·rintro ⟨⟨a,b⟩,c⟩;exact ⟨hf,fun h => ⟨h1 h,a h⟩,fun h => ⟨h3 h,b h⟩,c⟩
    ·rintro ⟨_,a,b,c⟩;exact ⟨⟨fun h => (a h).2,fun h => (b h).2⟩,c⟩
 ·rw [if_neg (fun h => hf h.2)]
  exact ⟨false,rfl,fun h => (by cases h),fun h => absurd h.1 hf⟩
def Beside (f:Form) (i:Int):Prop:=∀ lo hi,Under f i lo→Above f i hi→BesideR f i lo hi
theorem Under.uniq {f:Form} {i:Int} {r r':Int × Bool} (h:Under f i r) (h':Under f i r'):r = r':=by
 obtain ⟨a,b⟩:=r
 obtain ⟨a',b'⟩:=r'
 rcases h with ⟨rfl,h1,h2,h3,h4⟩ | ⟨rfl,rfl,h4⟩ <;> rcases h' with ⟨rfl,k1,k2,k3,k4⟩ | ⟨rfl,rfl,k4⟩
 ·simp only at *
  rcases Int.lt_trichotomy a a' with h | h | h
  ·exact absurd (h4 a' k1 h k2) k3
  ·rw [h]
  ·exact absurd (k4 a h1 h h2) h3
 ·exact absurd (k4 a h1 h2) h3
 ·exact absurd (h4 a' k1 k2) k3
 ·rfl
theorem Above.uniq {f:Form} {i:Int} {r r':Int × Bool} (h:Above f i r) (h':Above f i r'):r = r':=by
 obtain ⟨a,b⟩:=r
 obtain ⟨a',b'⟩:=r'
 rcases h with ⟨rfl,h1,h2,h3,h4⟩ | ⟨rfl,rfl,h4⟩ <;> rcases h' with ⟨rfl,k1,k2,k3,k4⟩ | ⟨rfl,rfl,k4⟩
 ·simp only at *
  rcases Int.lt_trichotomy a a' with h | h | h
  ·exact absurd (k4 a h1 h h2) h3
  ·rw [h]
  ·exact absurd (h4 a' k1 h k2) k3
 ·exact absurd (k4 a h1 h2) h3
 ·exact absurd (h4 a' k1 k2) k3
 ·rfl
theorem ZCw {f:Form} (hl:Lim f) (hs:Shape f) {i:Int} (hi:ZE i):∃ b,Z2X f i = some b∧(b = true ↔ Beside f i):=by
 obtain ⟨lo,h1,h2⟩:=Z6g hl hs (Z2x hi)
 obtain ⟨hi',h3,h4⟩:=Z3b hl hs (Z2x hi)
 obtain ⟨b,h5,h6⟩:=ZDi hl hs hi h1 h3 (fun h => by rcases h2 with ⟨_,_,h,_⟩ | ⟨h',_⟩ <;> simp_all) (fun h => by rcases h4 with ⟨_,_,h,_⟩ | ⟨h',_⟩ <;> simp_all)
 refine ⟨b,h5,h6.trans ⟨fun h lo' hi'' q1 q2 => ?_,fun h => h lo hi' h2 h4⟩⟩
 rw [q1.uniq h2,q2.uniq h4];exact h
def sizeF (f:Form):Nat:=(f.Core.map List.length).sum + (f.Odd.map (·.Ticks.length)).sum
theorem sum_take {α:Type} (g:α→Nat) {l:List α} {k:Nat} (h:k < l.length):((l.take (k + 1)).map g).sum = ((l.take k).map g).sum + g l[k]:=by
 rw [Y0c h,Y0J,List.sum_append];simp
theorem ZB5 {f:Form} (hl:Lim f) (hc:f.Core.length≤6000) (ho:f.Odd.length≤6000):Z0M f = some (sizeF f:Int):=by
 have hr:=Z1S
 have lenC:∀ l ∈ f.Core,l.length≤8796093022207:=fun l hm => by have:=(hl.sets l hm).1;unfold Len at this;omega
 have lenO:∀ g ∈ f.Odd,g.Ticks.length≤8796093022207:=fun l hm => by have:=(hl.ticks l hm).2.1;unfold Len at this;omega
 obtain ⟨a,h1,h2,h3⟩:=fold_loop (l:=f.Core) (step:=Z0M.s0 f) (f:=fun a _ x => a + (x.length:Int)) (fin:=id) (a0:=(0:Int)) (fun k a => a = ((((f.Core.take k).map List.length).sum:Nat):Int)∧a≤k * 8796093022207) ⟨by simp,by simp⟩ (fun k x a hk ⟨ha,hb⟩ => by
   obtain ⟨q1,q2⟩:=Z8p hk
   have hx:=lenC x (Y7 hk)
   have hkl:k < f.Core.length:=by omega
   have h0:0≤a:=by rw [ha];omega
   unfold Z0M.s0;simp only;rw [ZP q2,cond_true,q1,Z9 (x:=(k:Int) + 1) (by omega)]
   simp only [Y0];rw [Z9 (x:=a + (x.length:Int)) (by omega)]
   refine ⟨rfl,?_,by push_cast;omega⟩
   rw [sum_take _ hkl];rw [Y2 hkl] at hk;cases hk;rw [ha];push_cast;rfl) (fun a _ => by unfold Z0M.s0;simp only;rw [ZQ (by omega)];rfl)
 rw [Yx] at h2
 obtain ⟨b,h4,h5,h6⟩:=fold_loop (l:=f.Odd) (step:=Z0M.s1 f) (f:=fun a _ x => a + (x.Ticks.length:Int)) (fin:=id) (a0:=a) (fun k b => b = a + ((((f.Odd.take k).map (·.Ticks.length)).sum:Nat):Int)∧b≤a + k * 8796093022207) ⟨by simp,by simp⟩ (fun k x b hk ⟨ha,hb⟩ => by
   obtain ⟨q1,q2⟩:=Z8p hk
   have hx:=lenO x (Y7 hk)
   have hkl:k < f.Odd.length:=by omega
   have h0:0≤b:=by rw [ha,h2];omega
   unfold Z0M.s1;simp only;rw [ZP q2,cond_true,q1,Z9 (x:=(k:Int) + 1) (by omega)]
   simp only [Y0];rw [Z9 (x:=b + (x.Ticks.length:Int)) (by omega)]
   refine ⟨rfl,?_,by push_cast;omega⟩
   rw [sum_take _ hkl];rw [Y2 hkl] at hk;cases hk;rw [ha];push_cast;omega) (fun a _ => by unfold Z0M.s1;simp only;rw [ZQ (by omega)];rfl)
 rw [Yx] at h5
 unfold Z0M
 rw [h1]
 simp only [Y0,id]
 rw [h4]
 simp only [Y0,id,h5,h2,sizeF]
 push_cast;rfl
structure RightF (f:Form):Prop where
 shape:Shape f
 turns:Turns f
 beside:∀ g ∈ f.Odd,Beside f g.Index
def LongF (f:Form):Prop:=6000 < f.Core.length∨6000 < f.Odd.length∨60000 < sizeF f
theorem Z43 {f:Form} (hl:Lim f):(LongF f∧Zm f = some 3)∨(¬ LongF f∧RightF f∧Zm f = some 0)∨(¬ LongF f∧¬ RightF f∧Zm f = some 50):=by
 have holen:=Z3L (b:=31) hl.odd
 unfold Zm
 by_cases h1:6000 < f.Core.length∨6000 < f.Odd.length
 ·have e:(decide ((f.Core.length:Int) > 6000) || decide ((f.Odd.length:Int) > 6000)) = true:=by
   rcases h1 with h | h
   ·rw [ZP (show (f.Core.length:Int) > 6000 by omega)];rfl
   ·rw [ZP (show (f.Odd.length:Int) > 6000 by omega)];simp
  rw [e];exact .inl ⟨h1.elim .inl (fun h => .inr (.inl h)),rfl⟩
 ·have e:(decide ((f.Core.length:Int) > 6000) || decide ((f.Odd.length:Int) > 6000)) = false:=by
   rw [ZQ (show ¬ (f.Core.length:Int) > 6000 by omega),ZQ (show ¬ (f.Odd.length:Int) > 6000 by omega)];rfl
  rw [e,cond_false,ZB5 hl (by omega) (by omega)]
  simp only [Y0]
  by_cases h2:60000 < sizeF f
  ·rw [ZP (show (sizeF f:Int) > 60000 by omega)]
   exact .inl ⟨.inr (.inr h2),rfl⟩
  ·have hnl:¬ LongF f:=by unfold LongF;omega
   rw [ZQ (show ¬ (sizeF f:Int) > 60000 by omega),cond_false]
   obtain ⟨b,hb,hbs⟩:=gran_shape_eq hl
   rw [hb];simp only [Y0];refine .inr ?_;cases b with
   | false => exact .inr ⟨hnl,fun h => (by have:=hbs.2 h.shape;cases this),rfl⟩
   | true =>
    have hs:=hbs.1 rfl
    obtain ⟨c,hc,hct⟩:=gran_turns_eq hl hs
    rw [hc];simp only [Y0,YD,cond_false];cases c with
    | false => exact .inr ⟨hnl,fun h => (by have:=hct.2 h.turns;cases this),rfl⟩
    | true =>
     simp only [YD,cond_false]
     rcases Z2C (l:=f.Odd) (step:=Zm.s0 f) (fun _ g => Beside f g.Index) (no:=.ret 50) (yes:=.go ()) (fun k g hk _ => by
       obtain ⟨q1,q2⟩:=Z8p hk
       obtain ⟨b,hb,hbb⟩:=ZCw hl hs (hs.odd g (Y7 hk)).2
       unfold Zm.s0;rw [ZP q2,cond_true,q1,Z9 (by omega)]
       simp only [Y0,hb];cases b
       ·exact .inr ⟨rfl,fun h => by have:=hbb.2 h;cases this⟩
       ·exact .inl ⟨rfl,hbb.1 rfl⟩) (by unfold Zm.s0;rw [ZQ (by omega)];rfl) with ⟨q1,q2⟩ | ⟨q1,q2⟩
     ·rw [q1];exact .inl ⟨hnl,⟨hs,hct.1 rfl,fun g hg => by obtain ⟨k,hk⟩:=YC hg;exact q2 k g hk⟩,rfl⟩
     ·rw [q1];exact .inr ⟨hnl,fun h => q2 fun k g hk => h.beside g (Y7 hk),rfl⟩
def Z9J (f:Form):Prop:=f.Core.length≤12∧f.Odd.length≤8∧sizeF f≤60
theorem Z9p {f:Form} (hl:Lim f):∃ b,Z0w f = some b∧(b = true ↔ Z9J f):=by
 unfold Z0w
 by_cases h:f.Core.length≤12∧f.Odd.length≤8
 ·rw [ZP (show (f.Core.length:Int)≤12 by omega),ZP (show (f.Odd.length:Int)≤8 by omega),ZB5 hl (by omega) (by omega)]
  refine ⟨decide ((sizeF f:Int)≤60),rfl,?_⟩;rw [decide_eq_true_iff];exact ⟨fun h' => ⟨h.1,h.2,by omega⟩,fun h' => by have:=h'.2.2;omega⟩
 ·have e:(decide ((f.Core.length:Int)≤12) && decide ((f.Odd.length:Int)≤8)) = false:=by
   by_cases h1:f.Core.length≤12
   ·rw [ZQ (show ¬ (f.Odd.length:Int)≤8 by omega)];simp
   ·rw [ZQ (show ¬ (f.Core.length:Int)≤12 by omega)];rfl
  rw [e];exact ⟨false,rfl,fun h => (by cases h),fun h' => absurd ⟨h'.1,h'.2.1⟩ h⟩
end Go.Dn

namespace Go.Dn
open Go
theorem Z41 {f:Form} {l:List Span}:l ∈ full f ↔ l ∈ f.Core∧l ≠ []:=by
 unfold full
 rw [List.mem_filter,decide_eq_true_iff,gt_iff_lt,List.length_pos_iff]
theorem full_pair {f:Form} (hs:Shape f) (ht:Turns f):(full f).Pairwise (fun a b => lstT a < fstT b):=by
 have hm:∀ x ∈ full f,fstT x≤lstT x:=fun x hx => Z1r (hs.core x (Z41.1 hx).1) (Z41.1 hx).2
 have h1:=ht.1
 generalize full f = l at hm h1
 induction l with
 | nil => exact .nil
 | cons x l ih =>
  have ih:=ih (fun y hy => hm y (YY _ hy)) (fun k a b ha hb => h1 (k + 1) a b ha hb)
  refine List.pairwise_cons.2 ⟨fun y hy => ?_,ih⟩
  cases l with
  | nil => cases hy
  | cons z l =>
   have hxz:=h1 0 x z rfl rfl
   rcases List.mem_cons.1 hy with rfl | hy
   ·exact hxz
   ·have:=(List.pairwise_cons.1 ih).1 y hy
    have:=hm z (by simp)
    omega
theorem core_pair {f:Form} (hs:Shape f) (ht:Turns f) {j k:Nat} {a b:List Span} (hjk:j < k) (ha:f.Core[j]? = some a) (hb:f.Core[k]? = some b) (na:a ≠ []) (nb:b ≠ []):lstT a < fstT b:=by
 have h:=full_pair hs ht
 unfold full at h
 rw [List.pairwise_filter] at h
 have hj:=(List.getElem?_eq_some_iff.1 ha)
 have hk:=(List.getElem?_eq_some_iff.1 hb)
 obtain ⟨hj,rfl⟩:=hj
 obtain ⟨hk,rfl⟩:=hk
 exact List.pairwise_iff_getElem.1 h j k hj hk hjk (by rw [decide_eq_true_iff];exact List.length_pos_iff.2 na) (by rw [decide_eq_true_iff];exact List.length_pos_iff.2 nb)
theorem core_turn {f:Form} (hs:Shape f) (ht:Turns f) {a b:List Span} (ha:a ∈ f.Core) (hb:b ∈ f.Core) (na:a ≠ []) (nb:b ≠ []):lstT a < fstT b + f.Period:=by
 have hA:=Z41.2 ⟨ha,na⟩
 have hB:=Z41.2 ⟨hb,nb⟩
 have hm:∀ x ∈ full f,fstT x≤lstT x:=fun x hx => Z1r (hs.core x (Z41.1 hx).1) (Z41.1 hx).2
 have hn:full f ≠ []:=Y0w hA
 have hlast:=Y03 hn
 have hhead:=Y08 hn
 have h2:=ht.2 _ _ hlast hhead
 have hp:=full_pair hs ht
 have e1:lstT a≤lstT ((full f).getLast hn):=by
  obtain ⟨j,hj⟩:=YC hA
  obtain ⟨hjl,hj⟩:=List.getElem?_eq_some_iff.1 hj
  by_cases hc:j = (full f).length - 1
  ·subst hc;rw [List.getLast_eq_getElem,hj];exact YZ _
  ·have:=List.pairwise_iff_getElem.1 hp j ((full f).length - 1) hjl (by omega) (by omega)
   rw [hj] at this;have h5:=hm _ (List.getLast_mem hn)
   rw [List.getLast_eq_getElem] at h5 ⊢;omega
 have e2:fstT ((full f).head hn)≤fstT b:=by
  obtain ⟨j,hj⟩:=YC hB
  obtain ⟨hjl,hj⟩:=List.getElem?_eq_some_iff.1 hj
  have hh:(full f).head hn = (full f)[0]'(by omega):=List.head_eq_getElem hn
  by_cases hc:j = 0
  ·subst hc;rw [hh,hj];exact YZ _
  ·have:=List.pairwise_iff_getElem.1 hp 0 j (by omega) hjl (by omega)
   rw [hj,← hh] at this;have h5:=hm _ (List.head_mem hn)
   omega
 omega
theorem ZDc {f:Form} (hs:Shape f) (h0:f.Count ≠ 0) (i:Int):f.Core[(i % f.Count).toNat]? = some (Z2L f i):=by
 have:=(Z2g hs h0 i).1
 unfold at? at this
 rwa [if_pos (Yh i h0)] at this
theorem ZDt {f:Form} (hs:Shape f) (ht:Turns f) (h0:f.Count ≠ 0) {i k:Int} (hik:i < k) (ni:Z2L f i ≠ []) (nk:Z2L f k ≠ []):lstT (Z2L f i) + Z5Z f i < fstT (Z2L f k) + Z5Z f k:=by
 have hp:=ZB3 hs h0
 have di:=Yy i f.Count
 have dk:=Yy k f.Count
 have mi:=Yh i h0
 have mk:=Yh k h0
 have li:=Yt i hp
 have lk:=Yt k hp
 have hq:i / f.Count≤k / f.Count:=Int.ediv_le_ediv hp (by omega)
 unfold Z5Z
 rcases Int.lt_or_eq_of_le hq with h | h
 ·have h1:=core_turn hs ht (Z2g hs h0 i).2 (Z2g hs h0 k).2 ni nk
  have h2:(i / f.Count + 1) * f.Period≤k / f.Count * f.Period:=Y01 (by omega) hs.per.1
  rw [Int.add_mul,Int.one_mul] at h2;omega
 ·rw [h] at di ⊢;have:i % f.Count < k % f.Count:=by omega
  have h1:=core_pair hs ht (j:=(i % f.Count).toNat) (k:=(k % f.Count).toNat) (by omega) (ZDc hs h0 i) (ZDc hs h0 k) ni nk
  omega
theorem Z0i {l:List Span} (d:Int) (hn:l ≠ []):lstT (l.map (Z0B d)) = lstT l + d∧fstT (l.map (Z0B d)) = fstT l + d:=by
 unfold lstT fstT
 rw [List.getLast?_map,List.head?_map,Y03 hn,Y08 hn]
 exact ⟨rfl,rfl⟩
theorem under_some {f:Form} (hl:Lim f) (hs:Shape f) {i k:Int} (hk:In64 k) (hik:i < k) (ti:ZE i) (ni:ZK f i ≠ []):∃ j,Under f k (j,true)∧i≤j:=by
 obtain ⟨r,_,h⟩:=Z6g hl hs hk
 obtain ⟨j,b⟩:=r
 have h':=h
 rcases h with ⟨rfl,h1,h2,h3,h4⟩ | ⟨rfl,_,h4⟩
 ·refine ⟨j,h',?_⟩;apply Classical.byContradiction;intro hc;exact ni (h4 i hik (by simp only;omega) ti)
 ·exact absurd (h4 i hik ti) ni
theorem above_some {f:Form} (hl:Lim f) (hs:Shape f) {i k:Int} (hk:In64 k) (hik:k < i) (ti:ZE i) (ni:ZK f i ≠ []):∃ j,Above f k (j,true)∧j≤i:=by
 obtain ⟨r,_,h⟩:=Z3b hl hs hk
 obtain ⟨j,b⟩:=r
 have h':=h
 rcases h with ⟨rfl,h1,h2,h3,h4⟩ | ⟨rfl,_,h4⟩
 ·refine ⟨j,h',?_⟩;apply Classical.byContradiction;intro hc;exact ni (h4 i hik (by simp only;omega) ti)
 ·exact absurd (h4 i hik ti) ni
theorem RightF.order {f:Form} (hl:Lim f) (hr:RightF f):∀ (n:Nat) (i k:Int),(k - i).toNat = n→i < k→ZE i→ZE k→fits f i→fits f k→ZK f i ≠ []→ZK f k ≠ []→lstT (ZK f i) < fstT (ZK f k):=by
 have hs:=hr.shape
 intro n
 induction n using Nat.strongRecOn with
 | _ n ih =>
  intro i k hn hik ti tk fi fk ni nk
  by_cases ok:Z0F f k
  ·obtain ⟨g,hg,rfl⟩:=ok
   obtain ⟨j,hj,hij⟩:=under_some hl hs (Z2x tk) hik ti ni
   obtain ⟨hi',_,hab⟩:=Z3b hl hs (Z2x tk)
   obtain ⟨_,hlo,_,_⟩:=hr.beside g hg _ _ hj hab
   obtain ⟨fj,aj⟩:=hlo rfl
   have hj2:=hj
   rcases hj2 with ⟨_,j1,j2,j3,j4⟩ | ⟨h,_⟩
   ·simp only at fj aj j1 j2 j3;have hjk:=(ZDJ j3 nk).1 aj
    by_cases hji:i = j
    ·rw [hji];exact hjk
    ·have h1:=ih (j - i).toNat (by omega) i j rfl (by omega) ti j2 fi fj ni j3
     have h2:=Z1r (Z71 hs fj) j3
     omega
   ·cases h
  ·by_cases oi:Z0F f i
   ·obtain ⟨g,hg,rfl⟩:=oi
    obtain ⟨j,hj,hij⟩:=above_some hl hs (Z2x ti) hik tk nk
    obtain ⟨lo',_,hun⟩:=Z6g hl hs (Z2x ti)
    obtain ⟨_,_,hhi,_⟩:=hr.beside g hg _ _ hun hj
    obtain ⟨fj,aj⟩:=hhi rfl
    have hj2:=hj
    rcases hj2 with ⟨_,j1,j2,j3,j4⟩ | ⟨h,_⟩
    ·simp only at fj aj j1 j2 j3;have hjk:=(ZDJ ni j3).1 aj
     by_cases hji:j = k
     ·rw [← hji];exact hjk
     ·have h1:=ih (k - j).toNat (by omega) j k rfl (by omega) j2 tk fj fk j3 nk
      have h2:=Z1r (Z71 hs fj) j3
      omega
    ·cases h
   ·have h0:f.Count ≠ 0:=fun h => ni (Z1q oi h)
    have ni':=fun h => ni ((Z2v oi h0).2 h)
    have nk':=fun h => nk ((Z2v ok h0).2 h)
    rw [Z3d oi h0,Z3d ok h0,(Z0i _ ni').1,(Z0i _ nk').2];exact ZDt hs hr.turns h0 hik ni' nk'
theorem iMin_eq (a b:Int):iMin a b = min a b:=by unfold iMin;omega
theorem iMax_eq (a b:Int):iMax a b = max a b:=by unfold iMax;omega
end Go.Dn

namespace Go.Dn
open Go
theorem Above.tick {f:Form} {i:Int} {r:Int × Bool} (h:Above f i r) (hr:r.2 = true):i < r.1∧ZE r.1∧ZK f r.1 ≠ []∧∀ k,i < k→k < r.1→ZE k→ZK f k = []:=by
 rcases h with ⟨_,h1,h2,h3,h4⟩ | ⟨h,_⟩
 ·exact ⟨h1,h2,h3,h4⟩
 ·rw [hr] at h;cases h
theorem Under.tick {f:Form} {i:Int} {r:Int × Bool} (h:Under f i r) (hr:r.2 = true):r.1 < i∧ZE r.1∧ZK f r.1 ≠ []∧∀ k,k < i→r.1 < k→ZE k→ZK f k = []:=by
 rcases h with ⟨_,h1,h2,h3,h4⟩ | ⟨h,_⟩
 ·exact ⟨h1,h2,h3,h4⟩
 ·rw [hr] at h;cases h
end Go.Dn

namespace Go.Dn
open Go
theorem eqf_loop {α β:Type} {a:List α} {b:List β} {step:Int→Option (Int ⊕ Jx Unit Bool)} {eq:α→β→Option Bool} (P:α→β→Prop)
  (hl:(a.length:Int) < 9223372036854775807) (hab:a.length = b.length)
  (heq:∀ (k:Nat) x y,a[k]? = some x→b[k]? = some y→∃ r,eq x y = some r∧(r = true ↔ P x y))
  (hstep:∀ s,step s = bif decide (s < (a.length:Int)) then (at? a s).bind fun x1 => (at? b s).bind fun x2 => (eq x1 x2).bind fun x3 => bif (!x3) then some (.inr (.ret false)) else some (.inl (w64 (s + 1))) else some (.inr (.go ()))) :
  (loopO step 0 = some (.go ())∧∀ (k:Nat) x y,a[k]? = some x→b[k]? = some y→P x y)∨(loopO step 0 = some (.ret false)∧¬ ∀ (k:Nat) x y,a[k]? = some x→b[k]? = some y→P x y):=by
 rcases Z2C (l:=a) (step:=step) (fun k x => ∀ y,b[k]? = some y→P x y) (no:=.ret false) (yes:=.go ()) (fun k x hk hp => by
  have hlt:=(List.getElem?_eq_some_iff.1 hk).1
  have hat:at? a (k:Int) = some x:=by rw [at?_nat hlt];rw [Y2 hlt] at hk;exact hk
  have hbt:at? b (k:Int) = some (b[k]'(by omega)):=at?_nat (by omega)
  have hbk:b[k]? = some (b[k]'(by omega)):=Y2 (by omega)
  obtain ⟨r,h1,h2⟩:=heq k x _ hk hbk
  rw [hstep,ZP (show (k:Int) < a.length by omega),cond_true,hat,hbt,Z9 (show _ by omega)]
  simp only [Y0,h1];cases r with
  | true => exact .inl ⟨rfl,fun y hy => by rw [hbk] at hy;cases hy;exact h2.1 rfl⟩
  | false => exact .inr ⟨rfl,fun h => by have:=h2.2 (h _ hbk);cases this⟩) (by
  rw [hstep,ZQ (by omega)];rfl) with ⟨h1,h2⟩ | ⟨h1,h2⟩
 ·exact .inl ⟨h1,fun k x y hx hy => h2 k x hx y hy⟩
 ·exact .inr ⟨h1,fun h => h2 fun k x hx y hy => h k x y hx hy⟩
theorem ZCT {a b:List Span} {d:Int} (hl:a.length = b.length):(∀ (k:Nat) x y,a[k]? = some x→b[k]? = some y→y.From - x.From = d∧y.To - x.To = d) ↔ b = a.map (Z0B d):=by
 constructor
 ·intro h;apply Y0R;intro k
  by_cases hk:k < a.length
  ·have h1:a[k]? = some a[k]:=Y2 hk
   have h2:b[k]? = some (b[k]'(by omega)):=Y2 (by omega)
   rw [h2,YN,h1];obtain ⟨q1,q2⟩:=h k _ _ h1 h2
   simp only [YA,Z0B,Y5];generalize b[k]'(by omega) = y at q1 q2 ⊢
   obtain ⟨y1,y2⟩:=y
   simp only at q1 q2;simp only [Span.mk.injEq];omega
  ·rw [YS (by omega),YS (by simp;omega)]
 ·rintro rfl k x y hx hy;rw [YN,hx] at hy;simp only [YA,Y5] at hy;subst hy;simp only [Z0B];omega
theorem ZCO {a b:List Span} {d:Int} (ha:RightL a) (hb:RightL b) (hl:Len a):∃ r,Z2j a b d = some r∧(r = true ↔ b = a.map (Z0B d)):=by
 have hl':(a.length:Int) < 9223372036854775807:=by have:=Z1S;unfold Len at hl;omega
 unfold Z2j ZA
 by_cases hlen:a.length = b.length
 ·rw [bne_f (by omega),cond_false]
  have tk:∀ {l:List Span},RightL l→∀ (k:Nat) s,l[k]? = some s→ZE s.From∧ZE s.To:=fun {l} h k s hs => by
   have:=Z8b.1 h k s hs
   unfold Z5i at this;exact ⟨this.1,this.2.1⟩
  rcases eqf_loop (a:=a) (b:=b) (step:=ZA.s0 a b (fun z0 z1 => some (Z1v z0 z1 d))) (eq:=fun z0 z1 => some (Z1v z0 z1 d)) (fun x y => y.From - x.From = d∧y.To - x.To = d) hl' hlen (fun k x y hx hy => by
   refine ⟨_,rfl,?_⟩;obtain ⟨x1,x2⟩:=tk ha k x hx
   obtain ⟨y1,y2⟩:=tk hb k y hy
   unfold ZE at x1 x2 y1 y2;unfold Z1v;rw [Z9 (by omega),Z9 (by omega)]
   simp) (fun s => rfl) with ⟨h1,h2⟩ | ⟨h1,h2⟩
  ·rw [h1];exact ⟨true,rfl,⟨fun _ => (ZCT hlen).1 h2,fun _ => rfl⟩⟩
  ·rw [h1];refine ⟨false,rfl,by simp only [Y6,false_iff];exact fun h => h2 ((ZCT hlen).2 h)⟩
 ·rw [bne_t (by omega),cond_true]
  refine ⟨false,rfl,by simp only [Y6,false_iff];rintro rfl;exact hlen (by simp)⟩
end Go.Dn

namespace Go.Dn
open Go
noncomputable def cs (f:Form) (i:Int):List Span:=(Z2L f i).map (Z0B (Z5Z f i))
theorem Z22 (l:List Span) (a b:Int):(l.map (Z0B a)).map (Z0B b) = l.map (Z0B (a + b)):=by
 rw [List.map_map]
 congr 1
 funext s
 simp only [Function.comp,Z0B,Span.mk.injEq]
 omega
theorem shift_inj {a b:List Span} {d:Int} (h:a.map (Z0B d) = b.map (Z0B d)):a = b:=by
 have:=congrArg (List.map (Z0B (-d))) h
 rw [Z22,Z22,Int.add_right_neg,ZAA,ZAA] at this
 exact this
theorem Z7n {f:Form} (h0:f.Count ≠ 0) (i:Int):cs f (i + f.Count) = (cs f i).map (Z0B f.Period):=by
 unfold cs Z2L Z5Z
 rw [Z22,Int.add_emod_right,Int.add_ediv_of_dvd_right (Int.dvd_refl _),Int.ediv_self h0,Int.add_mul,Int.one_mul]
theorem Z8T {f:Form} (h0:f.Count ≠ 0) (i k:Int):cs f (i + f.Count * k) = (cs f i).map (Z0B (k * f.Period)):=by
 unfold cs Z2L Z5Z
 rw [Z22,Int.add_mul_emod_self_left,Int.add_mul_ediv_left _ _ h0,Int.add_mul]
theorem Z45 {f:Form} {i:Int} (h0:0≤i) (h1:i < f.Count):cs f i = f.Core.getD i.toNat []:=by
 unfold cs Z2L Z5Z
 rw [Int.emod_eq_of_lt h0 h1,Int.ediv_eq_zero_of_lt h0 h1,Int.zero_mul,ZAA]
def TurnZ (f:Form) (d q:Int):Prop:=∀ i,cs f (i + d) = (cs f i).map (Z0B q)
theorem turn_of {f:Form} (h0:0 < f.Count) {d q:Int} (h:∀ i,0≤i→i < f.Count→cs f (i + d) = (cs f i).map (Z0B q)):TurnZ f d q:=by
 intro i
 have e:i = i % f.Count + f.Count * (i / f.Count):=(Yy i f.Count).symm
 have h1:=h (i % f.Count) (Yh i (by omega)) (Yt i h0)
 have e2:i + d = (i % f.Count + d) + f.Count * (i / f.Count):=by omega
 rw [e2,Z8T (by omega),h1]
 conv => rhs;rw [e,Z8T (by omega)]
 rw [Z22,Z22,Int.add_comm]
def Z7b (f:Form) (d k:Int):Int:=if k + d ≥ f.Count then k + d - f.Count else k + d
def Z8w (f:Form) (d k:Int):Int:=if k + d ≥ f.Count then f.Period else 0
theorem wrap_cs {f:Form} {d k:Int} (hd:1≤d) (hdn:d≤f.Count) (h0:0≤k) (h1:k < f.Count):0≤Z7b f d k∧Z7b f d k < f.Count∧cs f (k + d) = (cs f (Z7b f d k)).map (Z0B (Z8w f d k)):=by
 unfold Z7b Z8w
 by_cases h:k + d ≥ f.Count
 ·rw [if_pos h,if_pos h];refine ⟨by omega,by omega,?_⟩
  rw [← Z7n (by omega)]
  congr 1;omega
 ·rw [if_neg h,if_neg h,ZAA];exact ⟨by omega,by omega,rfl⟩
theorem canon_turn_eq {f:Form} (hl:Lim f) (hs:Shape f) {d q:Int} (hd:1≤d) (hdn:d≤f.Count) (hq:0≤q∧q≤1099511627776):∃ r,Z1B f d q = some r∧(r = true ↔ TurnZ f d q):=by
 have hcl:(f.Core.length:Int) < 4611686018427387904:=Z3L (b:=23) hl.core
 have hcnt:=hs.count
 have key:∀ k:Int,0≤k→k < f.Count→(cs f (Z7b f d k) = (cs f k).map (Z0B (q - Z8w f d k)) ↔ cs f (k + d) = (cs f k).map (Z0B q)):=fun k k0 k1 => by
  obtain ⟨_,_,h⟩:=wrap_cs hd hdn k0 k1
  rw [h]
  constructor
  ·intro e;rw [e,Z22]
   congr 2;omega
  ·intro e;apply shift_inj (d:=Z8w f d k)
   rw [e,Z22]
   congr 2;omega
 unfold Z1B
 rcases Z2C (l:=f.Core) (step:=Z1B.s0 f d q) (fun k x => cs f (Z7b f d k) = x.map (Z0B (q - Z8w f d k))) (no:=.ret false) (yes:=.go ()) (fun k x hk hp => by
  have hlt:=(List.getElem?_eq_some_iff.1 hk).1
  have hat:at? f.Core (k:Int) = some x:=by rw [at?_nat hlt];rw [Y2 hlt] at hk;exact hk
  obtain ⟨w0,w1,_⟩:=wrap_cs (f:=f) (k:=(k:Int)) hd hdn (by omega) (by omega)
  have hx:=hs.core x (Y7 hk)
  have hlx:=(hl.sets x (Y7 hk)).1
  have hwl:(Z7b f d k).toNat < f.Core.length:=by omega
  have hgw:cs f (Z7b f d k) = f.Core[(Z7b f d k).toNat]:=by rw [Z45 w0 w1,YJ,Y2 hwl];rfl
  have hy:=hs.core _ (YE hwl)
  have hat2:at? f.Core (Z7b f d k) = some f.Core[(Z7b f d k).toNat]:=at?_lt w0 (by omega)
  have hpk:(bif decide (w64 ((k:Int) + d) ≥ f.Count) then some (w64 (w64 ((k:Int) + d) - f.Count),f.Period) else some (w64 ((k:Int) + d),0)) = some (Z7b f d k,Z8w f d k):=by
   rw [Z9 (show _ by omega)]
   unfold Z7b Z8w
   by_cases h:(k:Int) + d ≥ f.Count
   ·rw [ZP h,cond_true,if_pos h,if_pos h,Z9 (show _ by omega)]
   ·rw [ZQ h,cond_false,if_neg h,if_neg h]
  obtain ⟨r,h1,h2⟩:=ZCO (d:=q - Z8w f d k) hx hy hlx
  have hwp:0≤Z8w f d k∧Z8w f d k≤1099511627776:=by have:=hs.per;unfold Z8w;split <;> omega
  unfold Z1B.s0;rw [ZP (show (k:Int) < f.Core.length by omega),cond_true,hat]
  simp only [Y0,hpk,hat2];rw [Z9 (show _ by omega),h1]
  simp only [Y0];rw [hgw];cases r with
  | true => exact .inl ⟨by simp only [YD,cond_false,Y0,Jx.elim];rw [Z9 (show _ by omega)],h2.1 rfl⟩
  | false => exact .inr ⟨rfl,fun h => by have:=h2.2 h;cases this⟩) (by
  unfold Z1B.s0;rw [ZQ (by omega)];rfl) with ⟨h1,h2⟩ | ⟨h1,h2⟩
 ·rw [h1];refine ⟨true,rfl,⟨fun _ => turn_of (by omega) fun i i0 i1 => ?_,fun _ => rfl⟩⟩
  have hlt:i.toNat < f.Core.length:=by omega
  have:=h2 i.toNat _ (Y2 hlt)
  rw [Y0d i0] at this;refine (key i i0 i1).1 ?_;rw [this,Z45 i0 i1,YJ,Y2 hlt];rfl
 ·rw [h1];refine ⟨false,rfl,⟨(fun h => nomatch h),fun ht => absurd (fun k x hk => ?_) h2⟩⟩
  have hlt:=(List.getElem?_eq_some_iff.1 hk).1
  have:=(key k (by omega) (by omega)).2 (ht k)
  rw [this,Z45 (by omega) (by omega),YJ,YP,hk];rfl
end Go.Dn

namespace Go.Dn
open Go
structure Good (f:Form) (d:Int):Prop where
 pos:1≤d
 dvd:d ∣ f.Count
 rest:f.Period % (f.Count / d) = 0
 turn:TurnZ f d (f.Period / (f.Count / d))
theorem good_self {f:Form} (h0:0 < f.Count):Good f f.Count:=by
 have e:f.Count / f.Count = 1:=Int.ediv_self (by omega)
 exact ⟨by omega,Int.dvd_refl _,by rw [e];omega,by rw [e,Int.ediv_one];exact Z7n (by omega)⟩
theorem copy_loop {x4:List (List Span)} (hc:x4.length * 24≤reachBytes) (hs:∀ l ∈ x4,Len l):loopO (Z03.s1 x4) (0,[]) = some x4:=by
 have hcl:(x4.length:Int) < 4611686018427387904:=Z3L (b:=23) hc
 have hr:=Z1S
 have hro:=Z5T
 refine Z1F (I:=fun s r => r = x4∧∃ k:Nat,k≤x4.length∧s = ((k:Int),x4.take k)) (fun s => x4.length - s.1.toNat) ?_ ⟨rfl,0,YM _,rfl⟩
 rintro s r ⟨rfl,k,hk,rfl⟩
 unfold Z03.s1
 by_cases hlt:k < r.length
 ·left
  have hl:=hs _ (YE hlt)
  unfold Len at hl;have hcp:clone? 16 r[k] = some r[k]:=by unfold clone?;rw [if_pos (by omega)]
  have hap:app? 24 (r.take k) [r[k]] = some (r.take (k + 1)):=by
   rw [app?_ok (by simp only [YL,Ym,Y06];have:min k r.length + 1≤r.length:=(by omega);have:=YR 24 this;omega)]
   rw [Y05 hlt]
  refine ⟨((k:Int) + 1,r.take (k + 1)),?_,⟨rfl,k + 1,hlt,by push_cast;rfl⟩,by simp;omega⟩
  rw [ZP (show (k:Int) < r.length by omega),cond_true,at?_nat hlt]
  simp only [Y0,hcp,hap];rw [Z9 (show _ by omega)]
 ·right
  have:k = r.length:=by omega
  subst this;rw [ZQ (show ¬ ((r.length:Int) < r.length) by omega),cond_false,Yx]
theorem core_b0_eq {f:Form} (hl:Lim f) (hs:Shape f) {d:Int} (hd:1≤d) (hdn:d ∣ f.Count) (h0:0 < f.Count) :
  (Good f d∧Z03.b0 f ([],0,0) d = some ((f.Core.take d.toNat,f.Period / (f.Count / d),d),1))∨(¬ Good f d∧Z03.b0 f ([],0,0) d = some (([],0,0),0)):=by
 have hle:d≤f.Count:=Int.le_of_dvd h0 hdn
 have hcl:(f.Core.length:Int) < 4611686018427387904:=Z3L (b:=23) hl.core
 have hcnt:=hs.count
 have hm:0 < f.Count / d:=Y0o h0 (by omega) hdn
 have hmle:f.Count / d≤f.Count:=Y0f _ (by omega)
 have htd:f.Count.tdiv d = f.Count / d:=Int.tdiv_eq_ediv_of_nonneg (by omega)
 have hq:0≤f.Period / (f.Count / d)∧f.Period / (f.Count / d)≤1099511627776:=by
  have h1:=hs.per
  have h2:f.Period / (f.Count / d)≤f.Period:=Y0f _ h1.1
  have h3:0≤f.Period / (f.Count / d):=Int.ediv_nonneg h1.1 (by omega)
  omega
 have hfl:Z19 f.Period (w64 (f.Count.tdiv d)) = some (f.Period / (f.Count / d),f.Period % (f.Count / d),0):=by
  rw [htd,Z9 (show _ by omega),Z3F hl.period (by unfold In64;omega),Z6W hm]
 unfold Z03.b0
 rw [nz?_ok (by omega),hfl]
 simp only [Y0]
 by_cases hr:f.Period % (f.Count / d) = 0
 ·rw [bne_f hr,cond_false];obtain ⟨r,h1,h2⟩:=canon_turn_eq hl hs hd hle hq
  rw [h1];cases r with
  | true =>
   left
   refine ⟨⟨hd,hdn,hr,h2.1 rfl⟩,?_⟩;have hcut:cut? f.Core 0 d = some (f.Core.take d.toNat):=by
    unfold cut?;rw [if_pos ⟨by omega,by omega,by omega⟩]
    rfl
   simp only [Y0,YD,cond_false,hcut];have:=copy_loop (x4:=f.Core.take d.toNat) (by have:=hl.core;simp only [YL];have h:=YR 24 (Nat.min_le_right d.toNat f.Core.length);omega) (fun l hl' => (hl.sets l (YX hl')).1)
   rw [this]
   rfl
  | false =>
   right
   exact ⟨fun g => (by have:=h2.2 g.turn;cases this),rfl⟩
 ·right
  refine ⟨fun g => hr g.rest,?_⟩
  rw [bne_t hr]
  rfl
theorem least_good {f:Form} (h0:0 < f.Count):∃ d,Good f d∧∀ d',Good f d'→d≤d':=by
 have:∃ n:Nat,Good f n:=⟨f.Count.toNat,by rw [Y0d (by omega)];exact good_self h0⟩
 obtain ⟨n,hn⟩:=this
 induction n using Nat.strongRecOn with
 | _ n ih =>
  by_cases h:∃ m:Nat,m < n∧Good f m
  ·obtain ⟨m,h1,h2⟩:=h
   exact ih m h1 h2
  ·refine ⟨n,hn,fun d' hd' => ?_⟩
   apply Classical.byContradiction;intro hlt;have:=hd'.pos
   exact h ⟨d'.toNat,by omega,by rw [Y0d (by omega)];exact hd'⟩
theorem canon_bare_eq {f:Form} (hl:Lim f):Z4G f = Z3h f:=by
 unfold Z4G Z3h
 rfl
theorem canon_core_eq {f:Form} (hl:Lim f) (hs:Shape f):(Bare f∧Z03 f = some (Form.mk 0 0 [] [])) ∨
  (¬ Bare f∧0 < f.Count∧∃ d,Good f d∧(∀ d',Good f d'→d≤d')∧Z03 f = some (Form.mk (f.Period / (f.Count / d)) d (f.Core.take d.toNat) [])):=by
 have hcl:(f.Core.length:Int) < 4611686018427387904:=Z3L (b:=23) hl.core
 have hcnt:=hs.count
 obtain ⟨b,h1,h2⟩:=Z8S hl
 unfold Z03
 rw [canon_bare_eq hl,h1]
 cases b with
 | true => exact .inl ⟨h2.1 rfl,rfl⟩
 | false =>
  right
  have hnb:¬ Bare f:=fun h => by have:=h2.2 h;cases this
  have h0:0 < f.Count:=by
   rcases Nat.eq_zero_or_pos f.Core.length with h | h
   ·exact absurd (fun l hl' => by rw [List.length_eq_zero_iff.1 h] at hl';cases hl') hnb
   ·omega
  obtain ⟨d,hg,hmin⟩:=least_good h0
  refine ⟨hnb,h0,d,hg,hmin,?_⟩;have hdn:d≤f.Count:=Int.le_of_dvd h0 hg.dvd
  have hd1:=hg.pos
  have hloop:loopO (Z08.s0 f.Count (Z3K (Z03.b0 f))) (1,(([],0,0),0)) = some (.ret ((f.Core.take d.toNat,f.Period / (f.Count / d),d),1)):=by
   refine Z1F (I:=fun s r => r = .ret ((f.Core.take d.toNat,f.Period / (f.Count / d),d),1)∧∃ k:Int,1≤k∧k≤d∧s = (k,(([],0,0),0))) (fun s => (d - s.1).toNat) ?_ ⟨rfl,1,by omega,hd1,rfl⟩
   rintro s r ⟨rfl,k,k1,k2,rfl⟩;unfold Z08.s0;rw [ZP (show k≤f.Count by omega),cond_true,nz?_ok (by omega)]
   simp only [Y0]
   by_cases hkd:k ∣ f.Count
   ·rw [beq_t (show f.Count.tmod k = 0 from Int.tmod_eq_zero_of_dvd hkd),cond_true]
    rcases core_b0_eq hl hs k1 hkd h0 with ⟨g,e⟩ | ⟨g,e⟩
    ·have:k = d:=by have:=hmin k g;omega
     subst this
     right
     simp only [Z3K,if_true,e,YA,Y0]
     rfl
    ·left
     have hne:k ≠ d:=fun h => g (h ▸ hg)
     refine ⟨(k + 1,(([],0,0),0)),?_,⟨trivial,k + 1,by omega,by omega,rfl⟩,by simp;omega⟩
     simp only [Z3K,if_true,e,YA,Y0];rw [Z9 (show _ by omega)]
     rfl
   ·left
    have hne:k ≠ d:=fun h => hkd (h ▸ hg.dvd)
    refine ⟨(k + 1,(([],0,0),0)),?_,⟨trivial,k + 1,by omega,by omega,rfl⟩,by simp;omega⟩
    rw [beq_f (fun h => hkd (Int.dvd_of_tmod_eq_zero h)),cond_false]
    simp only [Y0,cond_false];rw [Z9 (show _ by omega)]
  unfold Z08;rw [hloop]
  rfl
end Go.Dn

namespace Go.Dn
open Go
def Turn (h:Int→List Span) (d q:Int):Prop:=∀ i,h (i + d) = (h i).map (Z0B q)
theorem Turn.neg {h:Int→List Span} {d q:Int} (t:Turn h d q):Turn h (-d) (-q):=fun i => by
 have:=t (i + -d)
 rw [show i + -d + d = i by omega] at this
 rw [this,Z22,Int.add_right_neg,ZAA]
theorem Turn.add {h:Int→List Span} {d q d' q':Int} (t:Turn h d q) (t':Turn h d' q'):Turn h (d + d') (q + q'):=fun i => by
 rw [show i + (d + d') = (i + d) + d' by omega,t',t,Z22]
theorem Turn.zero (h:Int→List Span):Turn h 0 0:=fun i => by rw [Int.add_zero,ZAA]
theorem Turn.nat {h:Int→List Span} {d q:Int} (t:Turn h d q):∀ k:Nat,Turn h (k * d) (k * q)
 | 0 => by simpa using Turn.zero h
 | k + 1 => by
  have:=(Turn.nat t k).add t
  push_cast
  rw [Int.add_mul,Int.one_mul,Int.add_mul,Int.one_mul];exact this
theorem Turn.mul {h:Int→List Span} {d q:Int} (t:Turn h d q) (k:Int):Turn h (k * d) (k * q):=by
 rcases Int.natAbs_eq k with e | e
 ·rw [e];exact t.nat _
 ·rw [e,Int.neg_mul,Int.neg_mul];exact (t.nat _).neg
theorem Turn.agree {h h':Int→List Span} {d q a:Int} (t:Turn h d q) (t':Turn h' d q) (hd:0 < d) (he:∀ i,a≤i→i < a + d→h i = h' i):h = h':=by
 funext i
 have e:i = ((i - a) % d + a) + (i - a) / d * d:=by
  have:=Yy (i - a) d
  rw [Ys] at this;omega
 have h1:=Yh (i - a) (show d ≠ 0 by omega)
 have h2:=Yt (i - a) hd
 rw [e,t.mul,t'.mul,he _ (by omega) (by omega)]
noncomputable def csz (f:Form) (i:Int):List Span:=if f.Count = 0 then [] else cs f i
theorem Z6C {f:Form} (h0:0 < f.Count):csz f = cs f:=by funext i;exact if_neg (by omega)
theorem Z6K {f:Form} {i:Int} (h:¬ Z0F f i):ZK f i = csz f i:=by
 unfold csz
 by_cases h0:f.Count = 0
 ·rw [if_pos h0,Z1q h h0]
 ·rw [if_neg h0,Z3d h h0];rfl
theorem csz_bare {f:Form} (hs:Shape f) (hb:Bare f) (i:Int):csz f i = []:=by
 unfold csz
 by_cases h0:f.Count = 0
 ·rw [if_pos h0]
 ·rw [if_neg h0];unfold cs;rw [hb _ (Z2g hs h0 i).2];rfl
def Z32 (f c:Form):Prop:=(Bare f∧c = Form.mk 0 0 [] [])∨(¬ Bare f∧0 < f.Count∧∃ d,Good f d∧(∀ d',Good f d'→d≤d')∧c = Form.mk (f.Period / (f.Count / d)) d (f.Core.take d.toNat) [])
theorem canon_core_ok {f:Form} (hl:Lim f) (hs:Shape f):∃ c,Z03 f = some c∧Z32 f c:=by
 rcases canon_core_eq hl hs with ⟨h1,h2⟩ | ⟨h1,h2,d,h3,h4,h5⟩
 ·exact ⟨_,h2,.inl ⟨h1,rfl⟩⟩
 ·exact ⟨_,h5,.inr ⟨h1,h2,d,h3,h4,rfl⟩⟩
theorem Z32.odd {f c:Form} (h:Z32 f c):c.Odd = []:=by
 rcases h with ⟨_,rfl⟩ | ⟨_,_,d,_,_,rfl⟩ <;> rfl
theorem Z32.csz {f c:Form} (hs:Shape f) (h:Z32 f c):csz c = csz f:=by
 rcases h with ⟨hb,rfl⟩ | ⟨hb,h0,d,hg,_,rfl⟩
 ·funext i;rw [csz_bare hs hb];rfl
 ·have hd:=hg.pos
  have hdn:d≤f.Count:=Int.le_of_dvd h0 hg.dvd
  have hcnt:=hs.count
  rw [Z6C h0,Z6C (show 0 < (Form.mk (f.Period / (f.Count / d)) d (f.Core.take d.toNat) []).Count by show 0 < d;omega)]
  refine Turn.agree (a:=0) (d:=d) (q:=f.Period / (f.Count / d)) (Z7n (f:=Form.mk (f.Period / (f.Count / d)) d (f.Core.take d.toNat) []) (show d ≠ 0 by omega)) hg.turn (by omega) (fun i i0 i1 => ?_)
  rw [Z45 i0 (show i < d by omega),Z45 i0 (by omega)]
  show (f.Core.take d.toNat).getD i.toNat [] = _
  rw [YJ,YJ,List.getElem?_take_of_lt (by omega)]
theorem Z32.shape {f c:Form} (hs:Shape f) (h:Z32 f c):Shape c:=by
 rcases h with ⟨hb,rfl⟩ | ⟨hb,h0,d,hg,_,rfl⟩
 ·exact ⟨rfl,by simp,by simp,by simp,by simp,fun j k a b _ h => by simp at h⟩
 ·have hd:=hg.pos
  have hdn:d≤f.Count:=Int.le_of_dvd h0 hg.dvd
  have hcnt:=hs.count
  have hm:0 < f.Count / d:=Y0o h0 (by omega) hg.dvd
  have hp:0 < f.Period:=by
   have:=hs.per;have:=hs.zero
   rcases Int.lt_or_le 0 f.Period with h | h
   ·exact h
   ·have:f.Period = 0:=by omega
    have:=hs.zero.2 this
    omega
  have hq:0 < f.Period / (f.Count / d):=Y0o hp (by omega) (Int.dvd_of_emod_eq_zero hg.rest)
  have hq2:f.Period / (f.Count / d)≤f.Period:=Y0f _ (by omega)
  refine ⟨?_,?_,?_,?_,by simp,fun j k a b _ h => by simp at h⟩
  ·simp only [YL];omega
  ·simp only;omega
  ·simp only;have:=hs.per;omega
  ·intro l hl';exact hs.core l (YX hl')
theorem Z32.lim {f c:Form} (hl:Lim f) (hs:Shape f) (h:Z32 f c):Lim c:=by
 have hsc:=h.shape hs
 have hn:c.Core.length≤f.Core.length∧∀ l ∈ c.Core,l ∈ f.Core:=by
  rcases h with ⟨hb,rfl⟩ | ⟨hb,h0,d,hg,_,rfl⟩
  ·exact ⟨YM _,fun l hl' => by cases hl'⟩
  ·exact ⟨by simp only [YL];omega,fun l hl' => YX hl'⟩
 have hc:=hl.core
 have h24:=YR 24 hn.1
 have hp:=hsc.per
 have hcnt:=hsc.count
 have hcl:(f.Core.length:Int) < 4611686018427387904:=Z3L (b:=23) hl.core
 exact ⟨by omega,fun l hl' => hl.sets l (hn.2 l hl'),by rw [h.odd];simp [Z1S],by rw [h.odd];simp,by unfold In64;omega,by unfold In64;omega⟩
theorem Z32.ZK {f c:Form} (hs:Shape f) (h:Z32 f c) (i:Int):ZK c i = Go.Dn.csz f i:=by
 rw [Z6K (by rintro ⟨g,hg,_⟩;rw [h.odd] at hg;cases hg),h.csz hs]
theorem ZEB {f c:Form} (hl:Lim f) (hs:Shape f) (h:Z32 f c) {g:Granule} (hg:g ∈ f.Odd):∃ r,Z3a c g = some r∧(r = true ↔ csz f g.Index = g.Ticks):=by
 obtain ⟨hr,ht⟩:=hs.odd g hg
 have hlc:=h.lim hl hs
 have hsc:=h.shape hs
 unfold Z3a
 rw [Z5j hlc hsc (Z2x ht)]
 by_cases hf:fits c g.Index
 ·rw [if_pos ⟨ht,hf⟩];obtain ⟨r,h1,h2⟩:=spans_Same_eq (a:=Go.Dn.ZK c g.Index) (b:=g.Ticks) (Z9c hlc hsc _)
  refine ⟨r,?_,?_⟩
  ·simp only [Y0];rw [beq_t rfl,cond_true,h1];rfl
  ·rw [h2,h.ZK hs]
 ·rw [if_neg (fun h' => hf h'.2)]
  refine ⟨false,rfl,⟨(fun h' => nomatch h'),fun e => absurd (fun s hs' => ?_) hf⟩⟩
  rw [h.ZK hs,e] at hs';obtain ⟨k,hk⟩:=YC hs'
  have:=Z8b.1 hr k s hk
  exact ⟨this.1,this.2.1⟩
open Classical in
noncomputable def oddly (f:Form) (g:Granule):Bool:=decide (¬ csz f g.Index = g.Ticks)
noncomputable def Z7O (f c:Form):Form:=Form.mk c.Period c.Count c.Core (f.Odd.filter (oddly f))
theorem canon_Form_eq {f:Form} (hl:Lim f) (hs:Shape f):∃ c,Z32 f c∧Z01 f = some (Z7O f c):=by
 obtain ⟨c,h1,hc⟩:=canon_core_ok hl hs
 refine ⟨c,hc,?_⟩
 unfold Z01
 rw [h1]
 simp only [Y0]
 have hol:(f.Odd.length:Int) < 4611686018427387904:=Z3L (b:=31) hl.odd
 have hr:=Z1S
 have hro:=Z5T
 have:loopO (Z01.s0 f c) (0,[]) = some (f.Odd.filter (oddly f)):=by
  refine Z1F (I:=fun s r => r = f.Odd.filter (oddly f)∧∃ k:Nat,k≤f.Odd.length∧s = ((k:Int),(f.Odd.take k).filter (oddly f))) (fun s => f.Odd.length - s.1.toNat) ?_ ⟨rfl,0,YM _,rfl⟩
  rintro s r ⟨rfl,k,hk,rfl⟩;unfold Z01.s0
  by_cases hlt:k < f.Odd.length
  ·left
   have hmem:=YE hlt
   obtain ⟨r,p1,p2⟩:=ZEB hl hs hc hmem
   have htk:f.Odd.take (k + 1) = f.Odd.take k ++ [f.Odd[k]]:=(Y05 hlt).symm
   have hlen:=(hl.ticks _ hmem).2.1
   unfold Len at hlen;refine ⟨((k:Int) + 1,(f.Odd.take (k + 1)).filter (oddly f)),?_,⟨rfl,k + 1,hlt,by push_cast;rfl⟩,by simp;omega⟩
   rw [ZP (show (k:Int) < f.Odd.length by omega),cond_true,at?_nat hlt]
   simp only [Y0,p1];rw [Z9 (show _ by omega),htk,List.filter_append]
   cases r with
   | true =>
    have:oddly f f.Odd[k] = false:=by unfold oddly;rw [decide_eq_false_iff_not];exact fun h => h (p2.1 rfl)
    simp only [YD,cond_false,Y0,List.filter_cons,this,Y6,if_false,List.filter_nil,YH]
   | false =>
    have:oddly f f.Odd[k] = true:=by unfold oddly;rw [decide_eq_true_iff];exact fun h => by have:=p2.2 h;cases this
    have hcp:clone? 16 f.Odd[k].Ticks = some f.Odd[k].Ticks:=by unfold clone?;rw [if_pos (by omega)]
    have hfl:((f.Odd.take k).filter (oddly f)).length≤k:=by
     have:=Y0Y (oddly f) (f.Odd.take k)
     simp only [YL] at this;omega
    have hap:app? 32 ((f.Odd.take k).filter (oddly f)) [Granule.mk f.Odd[k].Index f.Odd[k].Ticks] = some ((f.Odd.take k).filter (oddly f) ++ [f.Odd[k]]):=by
     rw [app?_ok (by simp only [Ym,Y06];have h3:=hl.odd;have:=YR 32 (show ((f.Odd.take k).filter (oddly f)).length + 1≤f.Odd.length by omega);omega)]
    simp only [Yj,cond_true,Y0,hcp,hap,List.filter_cons,this,if_true,List.filter_nil]
  ·right
   have:k = f.Odd.length:=by omega
   subst this;rw [ZQ (show ¬ ((f.Odd.length:Int) < f.Odd.length) by omega),cond_false,Yx]
 rw [this]
 rfl
end Go.Dn

namespace Go.Dn
open Go
end Go.Dn

namespace Go.Dn
open Go
theorem ZAo {l:List Granule}:Inc l ↔ l.Pairwise (fun a b => a.Index < b.Index):=by
 rw [Yr]
 constructor
 ·intro h i j hi hj hij;exact h i j _ _ hij (Y2 hi) (Y2 hj)
 ·intro h j k a b hjk ha hb;obtain ⟨h1,rfl⟩:=List.getElem?_eq_some_iff.1 ha
  obtain ⟨h2,rfl⟩:=List.getElem?_eq_some_iff.1 hb
  exact h j k h1 h2 hjk
theorem Inc.filter {l:List Granule} (h:Inc l) (p:Granule→Bool):Inc (l.filter p):=ZAo.2 ((ZAo.1 h).filter p)
theorem Z8G {f c:Form} (hs:Shape f) (h:Z32 f c):csz (Z7O f c) = csz f:=by
 rw [← h.csz hs];rfl
theorem oddly_iff {f:Form} {g:Granule}:oddly f g = true ↔ ¬ csz f g.Index = g.Ticks:=by unfold oddly;rw [decide_eq_true_iff]
theorem Z5G {f c:Form} {g:Granule}:g ∈ (Z7O f c).Odd ↔ g ∈ f.Odd∧oddly f g = true:=List.mem_filter
theorem ZBC {f c:Form} (hs:Shape f) (h:Z32 f c):ZK (Z7O f c) = ZK f:=by
 funext i
 by_cases ho:Z0F f i
 ·obtain ⟨g,hg,rfl⟩:=ho
  rw [Z1c hs.inc hg]
  by_cases hod:oddly f g = true
  ·exact Z1c (hs.inc.filter _) (Z5G.2 ⟨hg,hod⟩)
  ·have he:csz f g.Index = g.Ticks:=Classical.byContradiction fun hn => hod (oddly_iff.2 hn)
   rw [Z6K (f:=Z7O f c),Z8G hs h,he]
   rintro ⟨g',hg',e⟩;obtain ⟨m1,m2⟩:=Z5G.1 hg'
   have:=hs.inc.uniq m1 hg e
   subst this;exact hod m2
 ·rw [Z6K ho,Z6K (f:=Z7O f c),Z8G hs h]
  rintro ⟨g',hg',e⟩;exact ho ⟨g',(Z5G.1 hg').1,e⟩
theorem Z87 {f c:Form} (hs:Shape f) (h:Z32 f c):Shape (Z7O f c):=by
 have:=h.shape hs
 exact ⟨this.count,this.zero,this.per,this.core,fun g hg => hs.odd g (Z5G.1 hg).1,hs.inc.filter _⟩
theorem canonF_lim {f c:Form} (hl:Lim f) (hs:Shape f) (h:Z32 f c):Lim (Z7O f c):=by
 have:=h.lim hl hs
 refine ⟨this.core,this.sets,?_,fun g hg => hl.ticks g (Z5G.1 hg).1,this.count,this.period⟩
 have h1:(Z7O f c).Odd.length≤f.Odd.length:=Y0Y _ _
 have:=hl.odd
 have:=YR 32 h1
 omega
theorem turns_of {f:Form} (hs:Shape f) (h:0 < f.Count→∀ i k,i < k→cs f i ≠ []→cs f k ≠ []→lstT (cs f i) < fstT (cs f k)):Turns f:=by
 have hcnt:=hs.count
 have at_:∀ (j:Nat) (a:List Span),f.Core[j]? = some a→cs f j = a:=fun j a ha => by
  have:=(List.getElem?_eq_some_iff.1 ha).1
  rw [Z45 (by omega) (by omega),YJ,YP,ha];rfl
 have hpw:f.Core.Pairwise (fun a b => a ≠ []→b ≠ []→lstT a < fstT b):=by
  rw [Yr];intro i j hi hj hij na nb;have h1:=at_ i _ (Y2 hi)
  have h2:=at_ j _ (Y2 hj)
  have:=h (by omega) i j (by omega) (by rw [h1];exact na) (by rw [h2];exact nb)
  rw [h1,h2] at this;exact this
 constructor
 ·intro k a b ha hb;have hp:=hpw.filter (fun l => decide (l.length > 0))
  rw [Yr] at hp;obtain ⟨h1,rfl⟩:=List.getElem?_eq_some_iff.1 ha
  obtain ⟨h2,rfl⟩:=List.getElem?_eq_some_iff.1 hb
  exact hp k (k + 1) h1 h2 (by omega) (Z41.1 (YE h1)).2 (Z41.1 (YE h2)).2
 ·intro a b ha hb;obtain ⟨ma,na⟩:=Z41.1 (List.mem_of_getLast? ha)
  obtain ⟨mb,nb⟩:=Z41.1 (List.mem_of_head? hb)
  obtain ⟨j,hj⟩:=YC ma
  obtain ⟨k,hk⟩:=YC mb
  have hjl:=(List.getElem?_eq_some_iff.1 hj).1
  have h1:=at_ j _ hj
  have h2:=at_ k _ hk
  have h3:cs f ((k:Int) + f.Count) = b.map (Z0B f.Period):=by rw [Z7n (by omega),h2]
  have:=h (by omega) j ((k:Int) + f.Count) (by omega) (by rw [h1];exact na) (by rw [h3];simpa using nb)
  rw [h1,h3,(Z0i _ nb).2] at this;exact this
theorem csz_order {f:Form} (hs:Shape f) (ht:Turns f) {i k:Int} (hik:i < k) (ni:csz f i ≠ []) (nk:csz f k ≠ []):lstT (csz f i) < fstT (csz f k):=by
 have h0:f.Count ≠ 0:=fun h => ni (by unfold csz;rw [if_pos h])
 unfold csz at ni nk ⊢
 rw [if_neg h0] at ni nk ⊢
 rw [if_neg h0]
 have n1:Z2L f i ≠ []:=fun h => ni (by unfold cs;rw [h];rfl)
 have n2:Z2L f k ≠ []:=fun h => nk (by unfold cs;rw [h];rfl)
 have:=ZDt hs ht h0 hik n1 n2
 unfold cs
 rw [(Z0i _ n1).1,(Z0i _ n2).2]
 exact this
theorem beside_congr {f g:Form} (h:ZK g = ZK f) {i:Int} (hb:Beside f i):Beside g i:=by
 intro lo hi hlo hhi
 have hu:Under f i lo:=by unfold Under at hlo ⊢;rw [h] at hlo;exact hlo
 have ha:Above f i hi:=by unfold Above at hhi ⊢;rw [h] at hhi;exact hhi
 have:=hb lo hi hu ha
 unfold BesideR fits at this ⊢
 rw [h]
 exact this
theorem canonF_right {f c:Form} (hr:RightF f) (h:Z32 f c):RightF (Z7O f c):=by
 have hs:=hr.shape
 refine ⟨Z87 hs h,turns_of (Z87 hs h) (fun h0 i k hik ni nk => ?_),fun g hg => beside_congr (ZBC hs h) (hr.beside g (Z5G.1 hg).1)⟩
 rw [← Z6C h0,Z8G hs h] at ni nk ⊢
 exact csz_order hs hr.turns hik ni nk
end Go.Dn

namespace Go.Dn
open Go
theorem ZCm {α:Type} (g:α→Nat):∀ (n:Nat) (l:List α),((l.take n).map g).sum≤(l.map g).sum
 | 0,l => by simp
 | n + 1,[] => by simp
 | n + 1,x :: l => by
  have:=ZCm g n l
  simp only [List.take_succ_cons,Y0A,List.sum_cons];omega
theorem coreOf_le {f c:Form} (hs:Shape f) (h:Z32 f c):c.Count≤f.Count∧c.Period≤f.Period∧c.Core.length≤f.Core.length∧(c.Core.map List.length).sum≤(f.Core.map List.length).sum:=by
 have hp:=hs.per
 have hcnt:=hs.count
 rcases h with ⟨hb,rfl⟩ | ⟨hb,h0,d,hg,hmin,rfl⟩
 ·exact ⟨by simp only;omega,by simp only;omega,YM _,YM _⟩
 ·exact ⟨Int.le_of_dvd h0 hg.dvd,Y0f _ hp.1,by simp only [YL];omega,ZCm _ _ _⟩
end Go.Dn

namespace Go.Dn
open Go
theorem shift_ne {l:List Span} (hn:l ≠ []) {a b:Int} (h:l.map (Z0B a) = l.map (Z0B b)):a = b:=by
 cases l with
 | nil => exact absurd rfl hn
 | cons s l =>
  simp only [Y0A,List.cons.injEq,Z0B,Span.mk.injEq] at h;omega
theorem Turn.uniq {h:Int→List Span} {d q q':Int} (t:Turn h d q) (t':Turn h d q') {i:Int} (hn:h i ≠ []):q = q':=shift_ne hn ((t i).symm.trans (t' i))
theorem ZEL {f:Form} (h0:0 < f.Count):Turn (cs f) f.Count f.Period:=Z7n (by omega)
theorem cs_some {f:Form} (hs:Shape f) (hb:¬ Bare f) (h0:0 < f.Count) (a:Int):∃ i,a≤i∧i < a + f.Count∧cs f i ≠ []:=by
 apply Classical.byContradiction
 intro hn
 apply hb
 have hz:cs f = fun _ => []:=Turn.agree (a:=a) (ZEL h0) (fun i => rfl) h0 (fun i i0 i1 => Classical.byContradiction fun h => hn ⟨i,i0,i1,h⟩)
 intro l hl
 obtain ⟨k,hk⟩:=YC hl
 have hkl:=(List.getElem?_eq_some_iff.1 hk).1
 have hcnt:=hs.count
 have:=congrFun hz (k:Int)
 rw [Z45 (by omega) (by omega),YJ,YP,hk] at this
 exact this
def NearF (f:Form) (m:Int):Prop:=∀ g ∈ f.Odd,-m≤g.Index∧g.Index≤m
end Go.Dn

namespace Go.Dn
open Go
end Go.Dn

namespace Go.Dn
open Go
theorem pigeon:∀ (l:List Int) (c:Nat→Int),(∀ a b,c a = c b→a = b)→∃ k,k≤l.length∧c k ∉ l
 | [],c,_ => ⟨0,YB _,by simp⟩
 | x :: l,c,hc => by
  by_cases h:∃ k0,c k0 = x
  ·obtain ⟨k0,rfl⟩:=h
   obtain ⟨k,h1,h2⟩:=pigeon l (fun k => if k < k0 then c k else c (k + 1)) (fun a b hab => by
    split at hab <;> split at hab <;> have:=hc _ _ hab <;> omega)
   split at h2
   ·rename_i hk;refine ⟨k,by simp;omega,?_⟩
    rw [List.mem_cons];rintro (h | h)
    ·have:=hc _ _ h;omega
    ·exact h2 h
   ·rename_i hk;refine ⟨k + 1,by simp;omega,?_⟩
    rw [List.mem_cons];rintro (h | h)
    ·have:=hc _ _ h;omega
    ·exact h2 h
  ·obtain ⟨k,h1,h2⟩:=pigeon l c hc
   refine ⟨k,by simp;omega,?_⟩
   rw [List.mem_cons];rintro (h' | h')
   ·exact h ⟨k,h'⟩
   ·exact h2 h'
theorem free_core {f:Form} (hs:Shape f) (hb:¬ Bare f) (h0:0 < f.Count) (ho:f.Odd.length≤8) (a:Int):∃ j,a≤j∧j < a + f.Count * 9∧¬ Z0F f j∧ZK f j ≠ []:=by
 obtain ⟨i,h1,h2,h3⟩:=cs_some hs hb h0 a
 obtain ⟨k,hk,hn⟩:=pigeon (f.Odd.map (·.Index)) (fun k => i + f.Count * k) (fun a b hab => by
  have h4:f.Count * (a:Int) = f.Count * b:=by omega
  have:=Int.eq_of_mul_eq_mul_left (by omega) h4
  omega)
 rw [YT] at hk
 have hk9:(k:Int) + 1≤9:=by omega
 have hkc:f.Count * ((k:Int) + 1)≤f.Count * 9:=Yl hk9 (by omega)
 rw [Int.mul_add,Int.mul_one] at hkc
 have hkn:0≤f.Count * (k:Int):=Int.mul_nonneg (by omega) (by omega)
 have hno:¬ Z0F f (i + f.Count * k):=by
  rintro ⟨g,hg,he⟩;exact hn (List.mem_map.2 ⟨g,hg,he⟩)
 refine ⟨i + f.Count * k,by omega,by omega,hno,?_⟩
 rw [Z6K hno,Z6C h0,Z8T (by omega)]
 intro h
 rw [List.map_eq_nil_iff] at h
 exact h3 h
end Go.Dn

namespace Go.Dn
open Go
def Mid (x:Int):Prop:=-1000000000000000000≤x∧x≤1000000000000000000
end Go.Dn

namespace Go.Dn
open Go
end Go.Dn

namespace Go.Dn
open Go
theorem ZCD {n:Int} (h0:0≤n) (hn:n≤4611686018427387904) {f:Int→Option Bool} {p:Int→Bool} (hf:∀ z,0≤z→z < n→f z = some (p z)) (hm:∀ a b,0≤a→a≤b→b < n→p a = true→p b = true) :
  ∃ r,Z0j n f = some r∧0≤r∧r≤n∧(∀ z,0≤z→z < r→p z = false)∧(∀ z,r≤z→z < n→p z = true):=by
 unfold Z0j
 obtain ⟨r,h1,h2⟩:=Z0N (step:=Z0j.s0 f)
  (fun s => 0≤s.1∧s.1≤s.2∧s.2≤n∧(∀ z,0≤z→z < s.1→p z = false)∧(∀ z,s.2≤z→z < n→p z = true))
  (fun s => (s.2 - s.1).toNat) (fun r => 0≤r∧r≤n∧(∀ z,0≤z→z < r→p z = false)∧(∀ z,r≤z→z < n→p z = true)) (by
   rintro ⟨i,j⟩ ⟨a1,a2,a3,a4,a5⟩;simp only at a1 a2 a3 a4 a5;unfold Z0j.s0;simp only
   by_cases hlt:i < j
   ·left
    rw [ZP hlt,cond_true];have e:w64 ((IntKind.u64.wrap (w64 (i + j))).fdiv (2 ^ 1)) = (i + j) / 2:=by
     rw [Z9 (x:=i + j) (by omega),Z4s,Y0E _ (by decide)]
     have:(2 ^ 1:Int) = 2:=rfl
     rw [this,Z9 (by omega)]
     omega
    rw [e,hf _ (by omega) (by omega)]
    simp only [Y0];cases hp:p ((i + j) / 2) with
    | false =>
     simp only [Yj,cond_true,Y0];rw [Z9 (by omega)]
     refine ⟨_,rfl,⟨by simp only;omega,by simp only;omega,a3,?_,a5⟩,by simp only;omega⟩
     intro z z0 z1;cases hz:p z with
     | false => rfl
     | true =>
      have:=hm z ((i + j) / 2) z0 (by simp only at z1;omega) (by omega) hz
      rw [hp] at this;cases this
    | true =>
     simp only [YD,cond_false,Y0];refine ⟨_,rfl,⟨a1,by simp only;omega,by simp only;omega,a4,?_⟩,by simp only;omega⟩
     intro z z0 z1;exact hm ((i + j) / 2) z (by omega) z0 z1 hp
   ·right
    rw [ZQ hlt,cond_false];exact ⟨_,rfl,a1,by omega,a4,fun z z0 z1 => a5 z (by omega) z1⟩) (0,n) ⟨by simp,h0,by simp,fun z z0 z1 => by simp only at z1;omega,fun z z0 z1 => by simp only at z0;omega⟩
 rw [h1]
 exact ⟨r,rfl,h2⟩
theorem Z9T {l:List Span} (hl:Len l):Z1P l = some (if l = [] then (⟨0,0⟩,false) else (⟨fstT l,lstT l⟩,true)):=by
 have hlen:=Z3L (b:=15) hl
 unfold Z1P
 by_cases h:l = []
 ·subst h;rfl
 ·have hp:0 < l.length:=List.length_pos_iff.2 h
  rw [if_neg h,beq_f (by omega),cond_false,Z9 (by omega)]
  have e1:at? l 0 = some (l.head h):=by
   have:=at?_nat (l:=l) (k:=0) hp
   rw [show ((0:Nat):Int) = 0 from rfl] at this
   rw [this,List.head_eq_getElem]
  have e2:at? l ((l.length:Int) - 1) = some (l.getLast h):=by
   have:=at?_nat (l:=l) (k:=l.length - 1) (by omega)
   rw [show ((l.length - 1:Nat):Int) = (l.length:Int) - 1 by omega] at this
   rw [this,List.getLast_eq_getElem]
  rw [e1,e2];simp only [Y0];unfold fstT lstT;rw [Y08 h,Y03 h]
  rfl
def Z90 (g:Form) (j:Nat):Option size_spot:=if g.Core.getD j [] = [] then none else some ⟨(j:Int),⟨fstT (g.Core.getD j []),lstT (g.Core.getD j [])⟩⟩
def Z8Q (g:Form) (k:Nat):List size_spot:=(List.range k).filterMap (Z90 g)
theorem spotsUp_succ (g:Form) (k:Nat):Z8Q g (k + 1) = Z8Q g k ++ (Z90 g k).toList:=by
 unfold Z8Q
 rw [List.range_succ,List.filterMap_append]
 cases h:Z90 g k <;> simp [h]
theorem Z99 (g:Form) (k:Nat):(Z8Q g k).length≤k:=by
 have:=List.length_filterMap_le (Z90 g) (List.range k)
 rw [Y0a] at this
 exact this
abbrev Z2H (g:Form):List size_spot:=Z8Q g g.Core.length
theorem made_eq {f g:Form} (hg:Z01 f = some g) (hl:Lim g) (hc:g.Core.length≤12):Z29 f = some ⟨g,Z2H g⟩:=by
 have hr:=Z5T
 unfold Z29
 rw [hg]
 simp only [Y0]
 have:loopO (Z29.s0 g) (0,[]) = some (Z2H g):=by
  refine Z1F (I:=fun s r => r = Z2H g∧∃ k:Nat,k≤g.Core.length∧s = ((k:Int),Z8Q g k)) (fun s => g.Core.length - s.1.toNat) ?_ ⟨rfl,0,YM _,rfl⟩
  rintro s r ⟨rfl,k,hk,rfl⟩;unfold Z29.s0
  by_cases hlt:k < g.Core.length
  ·left
   have hm:=YE hlt
   have hgd:g.Core.getD k [] = g.Core[k]:=by rw [YJ,Y2 hlt];rfl
   have hul:=Z99 g k
   simp only;rw [ZP (show (k:Int) < g.Core.length by omega),cond_true,at?_nat hlt]
   simp only [Y0];rw [Z9T (hl.sets _ hm).1];simp only [Y0];have hsp:=spotsUp_succ g k
   unfold Z90 at hsp;rw [hgd] at hsp
   by_cases hne:g.Core[k] = []
   ·rw [if_pos hne];rw [if_pos hne] at hsp;simp only [cond_false,Y0];rw [Z9 (by omega)]
    exact ⟨_,rfl,⟨trivial,k + 1,hlt,by rw [hsp];push_cast;simp⟩,by simp only;omega⟩
   ·rw [if_neg hne];rw [if_neg hne] at hsp;simp only [cond_true];rw [app?_ok (by simp only [Ym,Y06];omega)]
    simp only [Y0];rw [Z9 (by omega)]
    exact ⟨_,rfl,⟨trivial,k + 1,hlt,by rw [hsp];push_cast;simp⟩,by simp only;omega⟩
  ·right
   have:k = g.Core.length:=by omega
   subst this;rw [ZQ (by simp only;omega),cond_false]
 rw [this]
 rfl
structure Spots (g:Form) (l:List size_spot):Prop where
 mem:∀ s ∈ l,0≤s.index∧s.index < g.Count∧cs g s.index ≠ []∧s.place.first = fstT (cs g s.index)∧s.place.last = lstT (cs g s.index)
 all:∀ j,0≤j→j < g.Count→cs g j ≠ []→∃ s ∈ l,s.index = j
 inc:l.Pairwise (fun a b => a.index < b.index)
theorem spots_ok {g:Form} (hs:Shape g):Spots g (Z2H g):=by
 have hcnt:=hs.count
 have hcs:∀ j:Nat,j < g.Core.length→cs g j = g.Core.getD j []:=fun j hj => by
  rw [Z45 (by omega) (by omega)];rfl
 refine ⟨?_,?_,?_⟩
 ·intro s hs';obtain ⟨j,hj,hjs⟩:=List.mem_filterMap.1 hs'
  have hj:=List.mem_range.1 hj
  unfold Z90 at hjs
  split at hjs
  ·cases hjs
  ·rename_i hne;cases hjs;refine ⟨by simp only;omega,by simp only;omega,?_,?_,?_⟩ <;> simp only <;> rw [hcs j hj]
   exact hne
 ·intro j h0 h1 hne;have hj:j.toNat < g.Core.length:=by omega
  have e:((j.toNat:Nat):Int) = j:=by omega
  have:=hcs j.toNat hj
  rw [e] at this;rw [this] at hne;refine ⟨⟨(j.toNat:Int),⟨fstT (g.Core.getD j.toNat []),lstT (g.Core.getD j.toNat [])⟩⟩,List.mem_filterMap.2 ⟨j.toNat,List.mem_range.2 hj,?_⟩,e⟩;unfold Z90;rw [if_neg hne]
 ·unfold Z2H Z8Q;rw [List.pairwise_filterMap];refine List.Pairwise.imp ?_ List.pairwise_lt_range;intro a b hab x hx y hy;unfold Z90 at hx hy
  split at hx <;> split at hy <;> simp_all
  subst hx hy;simp only;omega
theorem Z6a {g:Form} (hs:Shape g) (ht:Turns g) (h0:0 < g.Count) {i k:Int} (hik:i < k) (ni:cs g i ≠ []) (nk:cs g k ≠ []):lstT (cs g i) < fstT (cs g k):=by
 have:=csz_order hs ht hik (by rw [Z6C h0];exact ni) (by rw [Z6C h0];exact nk)
 rwa [Z6C h0] at this
theorem Z38 {g:Form} (hs:Shape g) (h0:0 < g.Count) {j:Int} (j0:0≤j) (j1:j < g.Count):RightL (cs g j):=by
 rw [Z45 j0 j1]
 have:=hs.count
 have hj:j.toNat < g.Core.length:=by omega
 rw [YJ,Y2 hj]
 exact hs.core _ (YE hj)
theorem Z66 {g:Form} (h0:0 < g.Count) (i q:Int):cs g (i + g.Count * q) = (cs g i).map (Z0B (q * g.Period)):=Z8T (by omega) i q
def LastC (g:Form) (t i:Int):Prop:=cs g i ≠ []∧fstT (cs g i)≤t∧∀ k,i < k→cs g k ≠ []→t < fstT (cs g k)
def FirstC (g:Form) (t i:Int):Prop:=cs g i ≠ []∧t≤lstT (cs g i)∧∀ k,k < i→cs g k ≠ []→lstT (cs g k) < t
theorem at?_get {α:Type} {l:List α} {i:Int} (h0:0≤i) (h1:i < l.length):∃ x,at? l i = some x∧l[i.toNat]? = some x∧x ∈ l:=by
 have h:i.toNat < l.length:=by omega
 exact ⟨l[i.toNat],at?_lt h0 h1,Y2 h,YE h⟩
theorem Z6N {g:Form} {l:List size_spot} (h:Spots g l) {a b:Nat} {x y:size_spot} (ha:l[a]? = some x) (hb:l[b]? = some y) (hab:a < b):x.index < y.index:=by
 have h1:=(List.getElem?_eq_some_iff.1 ha)
 have h2:=(List.getElem?_eq_some_iff.1 hb)
 obtain ⟨l1,e1⟩:=h1
 obtain ⟨l2,e2⟩:=h2
 have:=List.pairwise_iff_getElem.1 h.inc a b l1 l2 hab
 rw [e1,e2] at this
 exact this
structure Fit (g:Form):Prop where
 lim:Lim g
 shape:Shape g
 turns:Turns g
 few:g.Core.length≤12
 odds:g.Odd.length≤8
theorem Fit.per {g:Form} (h:Fit g) (h0:0 < g.Count):0 < g.Period:=by
 have h1:=h.shape.per
 have h2:=h.shape.zero
 omega
def BigT (t:Int):Prop:=-4398046511104≤t∧t≤4398046511104
theorem Z5D {g:Form} (h0:0 < g.Count) (k:Int):∃ j q,0≤j∧j < g.Count∧k = j + g.Count * q∧cs g k = (cs g j).map (Z0B (q * g.Period)):=by
 have e:k = k % g.Count + g.Count * (k / g.Count):=(Yy k g.Count).symm
 refine ⟨k % g.Count,k / g.Count,Yh k (by omega),Yt k h0,e,?_⟩
 conv => lhs;rw [e]
 exact Z66 h0 _ _
theorem ZE6 {n p:Int} (hp:0 < p) (hn : -8796093022208≤n∧n≤8796093022208) : -8796093022208≤n / p∧n / p≤8796093022208:=by
 constructor
 ·have : -8796093022208≤n / p ↔ -8796093022208 * p≤n:=Int.le_ediv_iff_mul_le hp
  rw [this];have : -8796093022208 * p≤-8796093022208 * 1:=by omega
  omega
 ·by_cases h:0≤n
  ·have:=Y0f p h;omega
  ·have:=Int.ediv_neg_of_neg_of_pos (show n < 0 by omega) hp;omega
theorem ZDX {q c:Int} (hq : -8796093022208≤q∧q≤8796093022208) (hc:0≤c∧c≤12) : -105553116266496≤q * c∧q * c≤105553116266496:=by
 constructor
 ·have:=Y01 hq.1 hc.1
  omega
 ·have:=Y01 hq.2 hc.1
  omega
theorem ZBP {g:Form} (h:Fit g) (h0:0 < g.Count) {sp:List size_spot} (hsp:Spots g sp) (hn:sp ≠ []) (hln:sp.length≤12) {t:Int} (ht:BigT t) :
  ∃ i,Z0X ⟨g,sp⟩ t false = some i∧LastC g t i∧-211106232532992≤i∧i≤211106232532992:=by
 unfold BigT at ht
 have hs:=h.shape
 have hper:=h.per h0
 have hper2:=hs.per
 have hcnt:=hs.count
 have hfew:=h.few
 have hlen:0 < sp.length:=List.length_pos_iff.2 hn
 obtain ⟨x5,a1,a2,a3⟩:=at?_get (l:=sp) (i:=0) (by omega) (by omega)
 obtain ⟨b1,b2,b3,b4,b5⟩:=hsp.mem x5 a3
 have r5:=Z5e (Z38 hs h0 b1 b2) b3
 rw [← b4,← b5] at r5
 unfold ZE at r5
 unfold Z0X
 rw [cond_false]
 simp only
 rw [a1]
 simp only [Y0]
 rw [Z9 (x:=t - x5.place.first) (by omega),Z3F (by unfold In64;omega) (by unfold In64;omega),Z6W hper]
 simp only [Y0]
 have qb:=ZE6 hper (n:=t - x5.place.first) (by omega)
 have qm:=Yy (t - x5.place.first) g.Period
 have q0:=Yh (t - x5.place.first) (show g.Period ≠ 0 by omega)
 have q1:=Yt (t - x5.place.first) hper
 generalize (t - x5.place.first) / g.Period = q at *
 have qp : -10995116277760≤q * g.Period∧q * g.Period≤10995116277760:=by rw [Ys];omega
 obtain ⟨r,s1,s2,s3,s4,s5⟩:=ZCD (n:=(sp.length:Int)) (by omega) (by omega)
  (f:=fun z0 => Z2B z0 ⟨g,sp⟩ q t) (p:=fun z => match sp[z.toNat]? with | some s => decide (s.place.first + q * g.Period > t) | none => true) (by
   intro z z0 z1;obtain ⟨x,e1,e2,e3⟩:=at?_get (l:=sp) z0 z1
   obtain ⟨c1,c2,c3,c4,c5⟩:=hsp.mem x e3
   have rx:=Z5e (Z38 hs h0 c1 c2) c3
   rw [← c4,← c5] at rx;unfold ZE at rx;unfold Z2B;simp only;rw [e1,e2];simp only [Y0];rw [Z9 (x:=q * g.Period) (by omega),Z9 (by omega)]) (by
   intro a b a0 hab hb hp;obtain ⟨x,e1,e2,e3⟩:=at?_get (l:=sp) a0 (by omega)
   obtain ⟨y,f1,f2,f3⟩:=at?_get (l:=sp) (show 0≤b by omega) hb
   simp only [e2,f2,decide_eq_true_eq] at hp ⊢
   by_cases hne:a = b
   ·subst hne;rw [e2] at f2;cases f2;exact hp
   ·have hlt:=Z6N hsp e2 f2 (by omega)
    obtain ⟨c1,c2,c3,c4,c5⟩:=hsp.mem x e3
    obtain ⟨d1,d2,d3,d4,d5⟩:=hsp.mem y f3
    have o1:=Z6a hs h.turns h0 hlt c3 d3
    have o2:=Z1r (Z38 hs h0 c1 c2) c3
    omega)
 rw [s1]
 simp only [Y0]
 have r1:1≤r:=by
  by_cases hr:1≤r
  ·exact hr
  ·have:r = 0:=by omega
   subst this;have:=s5 0 (by omega) (by omega)
   rw [show (0:Int).toNat = 0 from rfl] at this
   rw [show (0:Int).toNat = 0 from rfl] at a2
   simp only [a2,decide_eq_true_eq] at this;rw [Ys] at this;omega
 rw [Z9 (x:=r - 1) (by omega)]
 obtain ⟨x8,e1,e2,e3⟩:=at?_get (l:=sp) (i:=r - 1) (by omega) (by omega)
 rw [e1]
 simp only [Y0]
 obtain ⟨c1,c2,c3,c4,c5⟩:=hsp.mem x8 e3
 have hqc:=ZDX qb (c:=g.Count) (by omega)
 rw [Z9 (x:=q * g.Count) (by omega),Z9 (by omega)]
 refine ⟨_,rfl,⟨?_,?_,?_⟩,by omega,by omega⟩
 ·rw [Ys q,Z66 h0];simpa using c3
 ·rw [Ys q,Z66 h0,(Z0i _ c3).2,← c4];have:=s4 (r - 1) (by omega) (by omega)
  simp only [e2,decide_eq_false_iff_not] at this;omega
 ·intro k hk hkn;obtain ⟨j,q',j0,j1,rfl,ek⟩:=Z5D h0 k
  rw [ek] at hkn ⊢;have hjn:cs g j ≠ []:=fun h => hkn (by rw [h];rfl)
  rw [(Z0i _ hjn).2];obtain ⟨y,y1,rfl⟩:=hsp.all j j0 j1 hjn
  obtain ⟨d1,d2,d3,d4,d5⟩:=hsp.mem y y1
  obtain ⟨z,hz⟩:=YC y1
  have hz2:=(List.getElem?_eq_some_iff.1 hz).1
  have fy:x5.place.first≤y.place.first:=by
   by_cases hz0:z = 0
   ·subst hz0;rw [show (0:Int).toNat = 0 from rfl] at a2
    rw [a2] at hz;cases hz;exact YZ _
   ·have hlt:=Z6N hsp a2 hz (by omega)
    have o1:=Z6a hs h.turns h0 hlt b3 d3
    have o2:=Z1r (Z38 hs h0 b1 b2) b3
    omega
  rw [← d4]
  by_cases hqq:q'≤q
  ·have hqe:q' = q:=by
    by_cases h':q' = q
    ·exact h'
    ·have:g.Count * (q' + 1)≤g.Count * q:=Yl (by omega) (by omega)
     rw [Int.mul_add,Int.mul_one] at this;rw [Ys q] at hk;omega
   subst hqe;rw [Ys q'] at hk;have hyi:x8.index < y.index:=by omega
   have hzr:r≤(z:Int):=by
    by_cases h':r≤(z:Int)
    ·exact h'
    ·by_cases h'':z = (r - 1).toNat
     ·subst h'';rw [e2] at hz;cases hz;omega
     ·have:=Z6N hsp hz e2 (by omega);omega
   have:=s5 z hzr (by omega)
   rw [YP] at this;simp only [hz,decide_eq_true_eq] at this;omega
  ·have:g.Period * (q + 1)≤g.Period * q':=Yl (by omega) (by omega)
   rw [Int.mul_add,Int.mul_one] at this;rw [Ys q'];omega
end Go.Dn

namespace Go.Dn
open Go
theorem ZDb {g:Form} (h:Fit g) (h0:0 < g.Count) {sp:List size_spot} (hsp:Spots g sp) (hn:sp ≠ []) (hln:sp.length≤12) {t:Int} (ht:BigT t) :
  ∃ i,Z0X ⟨g,sp⟩ t true = some i∧FirstC g t i∧-211106232532992≤i∧i≤211106232532992:=by
 unfold BigT at ht
 have hs:=h.shape
 have hper:=h.per h0
 have hper2:=hs.per
 have hcnt:=hs.count
 have hfew:=h.few
 have hlen:0 < sp.length:=List.length_pos_iff.2 hn
 obtain ⟨x5,a1,a2,a3⟩:=at?_get (l:=sp) (i:=(sp.length:Int) - 1) (by omega) (by omega)
 obtain ⟨b1,b2,b3,b4,b5⟩:=hsp.mem x5 a3
 have r5:=Z5e (Z38 hs h0 b1 b2) b3
 rw [← b4,← b5] at r5
 unfold ZE at r5
 unfold Z0X
 rw [cond_true]
 simp only
 rw [Z9 (x:=(sp.length:Int) - 1) (by omega),a1]
 simp only [Y0]
 rw [Z9 (x:=x5.place.last - t) (by omega),Z3F (by unfold In64;omega) (by unfold In64;omega),Z6W hper]
 simp only [Y0]
 have qb:=ZE6 hper (n:=x5.place.last - t) (by omega)
 have qm:=Yy (x5.place.last - t) g.Period
 have q0:=Yh (x5.place.last - t) (show g.Period ≠ 0 by omega)
 have q1:=Yt (x5.place.last - t) hper
 generalize (x5.place.last - t) / g.Period = q at *
 have qp : -10995116277760≤q * g.Period∧q * g.Period≤10995116277760:=by rw [Ys];omega
 obtain ⟨r,s1,s2,s3,s4,s5⟩:=ZCD (n:=(sp.length:Int)) (by omega) (by omega)
  (f:=fun z0 => Z28 z0 ⟨g,sp⟩ q t) (p:=fun z => match sp[z.toNat]? with | some s => decide (s.place.last - q * g.Period ≥ t) | none => true) (by
   intro z z0 z1;obtain ⟨x,e1,e2,e3⟩:=at?_get (l:=sp) z0 z1
   obtain ⟨c1,c2,c3,c4,c5⟩:=hsp.mem x e3
   have rx:=Z5e (Z38 hs h0 c1 c2) c3
   rw [← c4,← c5] at rx;unfold ZE at rx;unfold Z28;simp only;rw [e1,e2];simp only [Y0];rw [Z9 (x:=q * g.Period) (by omega),Z9 (by omega)]) (by
   intro a b a0 hab hb hp;obtain ⟨x,e1,e2,e3⟩:=at?_get (l:=sp) a0 (by omega)
   obtain ⟨y,f1,f2,f3⟩:=at?_get (l:=sp) (show 0≤b by omega) hb
   simp only [e2,f2,decide_eq_true_eq] at hp ⊢
   by_cases hne:a = b
   ·subst hne;rw [e2] at f2;cases f2;exact hp
   ·have hlt:=Z6N hsp e2 f2 (by omega)
    obtain ⟨c1,c2,c3,c4,c5⟩:=hsp.mem x e3
    obtain ⟨d1,d2,d3,d4,d5⟩:=hsp.mem y f3
    have o1:=Z6a hs h.turns h0 hlt c3 d3
    have o2:=Z1r (Z38 hs h0 d1 d2) d3
    omega)
 rw [s1]
 simp only [Y0]
 have r1:r < sp.length:=by
  by_cases hr:r < sp.length
  ·exact hr
  ·have:=s4 ((sp.length:Int) - 1) (by omega) (by omega)
   simp only [a2,decide_eq_false_iff_not] at this;rw [Ys] at this;omega
 obtain ⟨x8,e1,e2,e3⟩:=at?_get (l:=sp) (i:=r) (by omega) (by omega)
 rw [e1]
 simp only [Y0]
 obtain ⟨c1,c2,c3,c4,c5⟩:=hsp.mem x8 e3
 have hqc:=ZDX qb (c:=g.Count) (by omega)
 rw [Z9 (x:=q * g.Count) (by omega),Z9 (by omega)]
 have ei:x8.index - q * g.Count = x8.index + g.Count * (-q):=by rw [Int.mul_neg,Ys];omega
 refine ⟨_,rfl,⟨?_,?_,?_⟩,by omega,by omega⟩
 ·rw [ei,Z66 h0];simpa using c3
 ·rw [ei,Z66 h0,(Z0i _ c3).1,← c5];have:=s5 r (by omega) (by omega)
  simp only [e2,decide_eq_true_eq] at this;rw [Int.neg_mul];omega
 ·intro k hk hkn;obtain ⟨j,q',j0,j1,rfl,ek⟩:=Z5D h0 k
  rw [ek] at hkn ⊢;have hjn:cs g j ≠ []:=fun h => hkn (by rw [h];rfl)
  rw [(Z0i _ hjn).1];obtain ⟨y,y1,rfl⟩:=hsp.all j j0 j1 hjn
  obtain ⟨d1,d2,d3,d4,d5⟩:=hsp.mem y y1
  obtain ⟨z,hz⟩:=YC y1
  have hz2:=(List.getElem?_eq_some_iff.1 hz).1
  have fy:y.place.last≤x5.place.last:=by
   by_cases hz0:z = ((sp.length:Int) - 1).toNat
   ·subst hz0;rw [a2] at hz;cases hz;exact YZ _
   ·have hlt:=Z6N hsp hz a2 (by omega)
    have o1:=Z6a hs h.turns h0 hlt d3 b3
    have o2:=Z1r (Z38 hs h0 b1 b2) b3
    omega
  rw [← d5]
  by_cases hqq : -q≤q'
  ·have hqe:q' = -q:=by
    by_cases h':q' = -q
    ·exact h'
    ·have:g.Count * (-q + 1)≤g.Count * q':=Yl (by omega) (by omega)
     rw [Int.mul_add,Int.mul_one] at this;rw [ei] at hk;omega
   subst hqe;rw [ei] at hk;have hyi:y.index < x8.index:=by omega
   have hzr:(z:Int) < r:=by
    by_cases h':(z:Int) < r
    ·exact h'
    ·by_cases h'':z = r.toNat
     ·subst h'';rw [e2] at hz;cases hz;omega
     ·have:=Z6N hsp e2 hz (by omega);omega
   have:=s4 z (by omega) hzr
   rw [YP] at this;simp only [hz,decide_eq_false_iff_not] at this;rw [Int.neg_mul];omega
  ·have:g.Period * q'≤g.Period * (-q - 1):=Yl (by omega) (by omega)
   rw [Int.mul_sub,Int.mul_one,Int.mul_neg] at this;rw [Ys q'];omega
def putB (b:Int × Bool) (n:Int):Int × Bool:=if b.2 = false∨n > b.1 then (n,true) else b
structure Best (S:Int→Prop) (b:Int × Bool):Prop where
 yes:b.2 = true→S b.1∧∀ n,S n→n≤b.1
 no:b.2 = false→b.1 = 0∧∀ n,¬ S n
theorem Best.put {S S':Int→Prop} {b:Int × Bool} {n:Int} (h:Best S b) (hS:∀ m,S' m ↔ S m∨m = n):Best S' (putB b n):=by
 unfold putB
 split
 ·rename_i hc;refine ⟨fun _ => ⟨(hS n).2 (.inr rfl),fun m hm => ?_⟩,fun h => by cases h⟩
  rcases (hS m).1 hm with h1 | h1
  ·cases hb:b.2 with
   | false => exact absurd h1 ((h.no hb).2 m)
   | true =>
    have:=(h.yes hb).2 m h1
    rcases hc with h2 | h2
    ·rw [hb] at h2;cases h2
    ·simp only;omega
  ·subst h1;exact YZ _
 ·rename_i hc;have hb:b.2 = true:=by cases hb:b.2 <;> simp_all
  refine ⟨fun _ => ⟨(hS b.1).2 (.inl (h.yes hb).1),fun m hm => ?_⟩,fun h => by rw [hb] at h;cases h⟩
  rcases (hS m).1 hm with h1 | h1
  ·exact (h.yes hb).2 m h1
  ·subst h1;have:¬ (m > b.1):=fun h => hc (.inr h)
   omega
theorem Best.congr {S S':Int→Prop} {b:Int × Bool} (h:Best S b) (hS:∀ m,S' m ↔ S m):Best S' b :=
 ⟨fun hb => ⟨(hS _).2 (h.yes hb).1,fun n hn => (h.yes hb).2 n ((hS n).1 hn)⟩,fun hb => ⟨(h.no hb).1,fun n hn => (h.no hb).2 n ((hS n).1 hn)⟩⟩
theorem Best.none {S:Int→Prop} (h:∀ n,¬ S n):Best S (0,false):=⟨fun h => by (cases h),fun _ => ⟨rfl,h⟩⟩
theorem Z8I (n b:Int) (c:Bool):loopO (Z3.s1) (([n].length:Int),0,[n],b,c) = some ([n],putB (b,c) n):=by
 rw [Z1k]
 have e1:Z3.s1 (([n].length:Int),0,[n],b,c) = some (.inl (([n].length:Int),1,[n],putB (b,c) n)):=by
  unfold Z3.s1;simp only;rw [ZP (show (0:Int) < ([n].length:Int) by simp),cond_true,show at? [n] 0 = some n from rfl]
  simp only [Y0];unfold putB;cases c with
  | false => rfl
  | true =>
   by_cases h:n > b
   ·simp only [h,decide_true,Y0y,cond_true,or_true,if_true];rfl
   ·simp only [h,decide_false,YD,Y0T,cond_false,Y0V,or_self,if_false];rfl
 rw [e1]
 simp only
 rw [Z1k]
 have e2:Z3.s1 (([n].length:Int),1,[n],putB (b,c) n) = some (.inr ([n],putB (b,c) n)):=by
  unfold Z3.s1;simp only;rw [ZQ (show ¬ (1:Int) < ([n].length:Int) by simp),cond_false]
 rw [e2]
theorem Z8P (n b:Int) (c:Bool):loopO (Z3.s3) (([n].length:Int),0,[n],b,c) = some ([n],putB (b,c) n):=by
 rw [Z1k]
 have e1:Z3.s3 (([n].length:Int),0,[n],b,c) = some (.inl (([n].length:Int),1,[n],putB (b,c) n)):=by
  unfold Z3.s3;simp only;rw [ZP (show (0:Int) < ([n].length:Int) by simp),cond_true,show at? [n] 0 = some n from rfl]
  simp only [Y0];unfold putB;cases c with
  | false => rfl
  | true =>
   by_cases h:n > b
   ·simp only [h,decide_true,Y0y,cond_true,or_true,if_true];rfl
   ·simp only [h,decide_false,YD,Y0T,cond_false,Y0V,or_self,if_false];rfl
 rw [e1]
 simp only
 rw [Z1k]
 have e2:Z3.s3 (([n].length:Int),1,[n],putB (b,c) n) = some (.inr ([n],putB (b,c) n)):=by
  unfold Z3.s3;simp only;rw [ZQ (show ¬ (1:Int) < ([n].length:Int) by simp),cond_false]
 rw [e2]
theorem ZCv (n b:Int) (c:Bool):loopO (ZX.s1) (([n].length:Int),0,[n],b,c) = some ([n],putB (b,c) n):=by
 rw [Z1k]
 have e1:ZX.s1 (([n].length:Int),0,[n],b,c) = some (.inl (([n].length:Int),1,[n],putB (b,c) n)):=by
  unfold ZX.s1;simp only;rw [ZP (show (0:Int) < ([n].length:Int) by simp),cond_true,show at? [n] 0 = some n from rfl]
  simp only [Y0];unfold putB;cases c with
  | false => rfl
  | true =>
   by_cases h:n > b
   ·simp only [h,decide_true,Y0y,cond_true,or_true,if_true];rfl
   ·simp only [h,decide_false,YD,Y0T,cond_false,Y0V,or_self,if_false];rfl
 rw [e1]
 simp only
 rw [Z1k]
 have e2:ZX.s1 (([n].length:Int),1,[n],putB (b,c) n) = some (.inr ([n],putB (b,c) n)):=by
  unfold ZX.s1;simp only;rw [ZQ (show ¬ (1:Int) < ([n].length:Int) by simp),cond_false]
 rw [e2]
theorem ZD5 (n b:Int) (c:Bool):loopO (ZX.s3) (([n].length:Int),0,[n],b,c) = some ([n],putB (b,c) n):=by
 rw [Z1k]
 have e1:ZX.s3 (([n].length:Int),0,[n],b,c) = some (.inl (([n].length:Int),1,[n],putB (b,c) n)):=by
  unfold ZX.s3;simp only;rw [ZP (show (0:Int) < ([n].length:Int) by simp),cond_true,show at? [n] 0 = some n from rfl]
  simp only [Y0];unfold putB;cases c with
  | false => rfl
  | true =>
   by_cases h:n > b
   ·simp only [h,decide_true,Y0y,cond_true,or_true,if_true];rfl
   ·simp only [h,decide_false,YD,Y0T,cond_false,Y0V,or_self,if_false];rfl
 rw [e1]
 simp only
 rw [Z1k]
 have e2:ZX.s3 (([n].length:Int),1,[n],putB (b,c) n) = some (.inr ([n],putB (b,c) n)):=by
  unfold ZX.s3;simp only;rw [ZQ (show ¬ (1:Int) < ([n].length:Int) by simp),cond_false]
 rw [e2]
theorem ZD9 (n b:Int) (c:Bool):loopO (ZX.s4) (([n].length:Int),0,[n],b,c) = some ([n],putB (b,c) n):=by
 rw [Z1k]
 have e1:ZX.s4 (([n].length:Int),0,[n],b,c) = some (.inl (([n].length:Int),1,[n],putB (b,c) n)):=by
  unfold ZX.s4;simp only;rw [ZP (show (0:Int) < ([n].length:Int) by simp),cond_true,show at? [n] 0 = some n from rfl]
  simp only [Y0];unfold putB;cases c with
  | false => rfl
  | true =>
   by_cases h:n > b
   ·simp only [h,decide_true,Y0y,cond_true,or_true,if_true];rfl
   ·simp only [h,decide_false,YD,Y0T,cond_false,Y0V,or_self,if_false];rfl
 rw [e1]
 simp only
 rw [Z1k]
 have e2:ZX.s4 (([n].length:Int),1,[n],putB (b,c) n) = some (.inr ([n],putB (b,c) n)):=by
  unfold ZX.s4;simp only;rw [ZQ (show ¬ (1:Int) < ([n].length:Int) by simp),cond_false]
 rw [e2]
end Go.Dn

namespace Go.Dn
open Go
theorem size_odd_eq {g:Form} {sp:List size_spot} (hl:Lim g) (hs:Shape g) (i:Int):∃ n,Z2o ⟨g,sp⟩ i = some n∧(0≤n ↔ Z0F g i):=by
 obtain ⟨p,h1,h2,h3⟩:=ZEI (t:=i) hl.odd hs.inc
 have e:Z1 g.Odd i (fun z0 z1 => some (Z37 z0 z1)) = some ((p:Int),decide (∃ x,g.Odd[p]? = some x∧x.Index = i)):=h3
 unfold Z2o
 simp only
 rw [e]
 simp only [Y0]
 by_cases hx:∃ x,g.Odd[p]? = some x∧x.Index = i
 ·rw [ZP hx];refine ⟨(p:Int),rfl,fun _ => ?_,fun _ => by omega⟩
  obtain ⟨x,e1,e2⟩:=hx
  exact ⟨x,Y7 e1,e2⟩
 ·rw [ZQ hx];refine ⟨-1,rfl,fun h => by omega,?_⟩
  rintro ⟨x,hx1,hx2⟩;obtain ⟨k,hk⟩:=YC hx1
  exfalso
  have hkp:=h2 k x hk
  by_cases hkk:k = p
  ·subst hkk;exact hx ⟨x,hk,hx2⟩
  ·have:p < k:=by omega
   have hlt:=(List.getElem?_eq_some_iff.1 hk).1
   have hp:g.Odd[p]? = some (g.Odd[p]'(by omega)):=Y2 (by omega)
   have q1:=h2 p _ hp
   have q2:=hs.inc p k _ x this hp hk
   omega
theorem has_eq {g:Form} {sp:List size_spot} (hl:Lim g) (hs:Shape g) (h0:0 < g.Count) {i:Int} (hi:In64 i):Z3D ⟨g,sp⟩ i = some (decide (cs g i ≠ [])):=by
 unfold Z3D
 simp only
 rw [Z3F hi hl.count,Z6W h0]
 simp only [Y0]
 rw [(Z2g hs (by omega) i).1]
 simp only [Y0,Y5,decide_eq_decide]
 unfold cs
 rw [ne_eq,List.map_eq_nil_iff]
 constructor
 ·intro h hn;rw [hn] at h;simp at h
 ·intro h;have:=List.length_pos_iff.2 h;omega
theorem Z34 {g:Form} (h0:0 < g.Count) {i:Int} (h:¬ Z0F g i):ZK g i = cs g i:=by rw [Z6K h,Z6C h0]
def byU (up:Bool):Int:=if up then 1 else -1
def sgU (up:Bool):Int:=if up then -1 else 1
theorem sg_w (up:Bool) {x:Int} (h : -4611686018427387904≤x∧x≤4611686018427387904):w64 (w64 (0 - byU up) * x) = sgU up * x:=by
 cases up
 ·show w64 (w64 (0 - (-1)) * x) = 1 * x
  rw [show w64 (0 - (-1)) = 1 from rfl,Z9 (by omega)]
 ·show w64 (w64 (0 - 1) * x) = -1 * x
  rw [show w64 (0 - 1) = -1 from rfl,Z9 (by omega)]
open Classical in
theorem walk_eq {g:Form} {sp:List size_spot} (h:Fit g) (h0:0 < g.Count) (hb:¬ Bare g) (up:Bool) {i0:Int} (hi : -211106232532992≤i0∧i0≤211106232532992) :
  ∃ i,loopO (Z3.s0 ⟨g,sp⟩ (byU up)) i0 = some i∧¬ Z0F g i∧cs g i ≠ []∧(if up then i0≤i else i≤i0)∧-211106232533992≤i∧i≤211106232533992 ∧
   ∀ k,(if up then i0≤k∧k < i else i < k∧k≤i0)→Z0F g k∨cs g k = []:=by
 have hs:=h.shape
 have hcnt:=hs.count
 have hfew:=h.few
 obtain ⟨j,j1,j2,j3,j4⟩:=free_core hs hb h0 h.odds (if up then i0 else i0 - g.Count * 9 + 1)
 rw [Z34 h0 j3] at j4
 have hj:if up then i0≤j∧j < i0 + 108 else j≤i0∧i0 < j + 108:=by
  cases up
  ·simp only [Y6,if_false] at j1 j2 ⊢;omega
  ·simp only [if_true] at j1 j2 ⊢;omega
 obtain ⟨r,q1,q2⟩:=Z0N (step:=Z3.s0 ⟨g,sp⟩ (byU up))
  (fun i => (if up then i0≤i∧i≤j else j≤i∧i≤i0)∧∀ k,(if up then i0≤k∧k < i else i < k∧k≤i0)→Z0F g k∨cs g k = [])
  (fun i => (if up then j - i else i - j).toNat)
  (fun i => (if up then i0≤i∧i≤j else j≤i∧i≤i0)∧¬ Z0F g i∧cs g i ≠ []∧∀ k,(if up then i0≤k∧k < i else i < k∧k≤i0)→Z0F g k∨cs g k = []) (by
   rintro i ⟨a1,a2⟩;have hi64 : -211106232533992≤i∧i≤211106232533992:=by
    cases up
    ·simp only [Y6,if_false] at a1 hj;omega
    ·simp only [if_true] at a1 hj;omega
   unfold Z3.s0;obtain ⟨n,n1,n2⟩:=size_odd_eq (sp:=sp) h.lim hs i
   rw [n1];simp only [Y0];rw [has_eq h.lim hs h0 (by unfold In64;omega)]
   simp only [Y0];have hc:(bif decide (n ≥ 0) then some true else some (!decide (cs g i ≠ []))) = some (decide (Z0F g i∨cs g i = [])):=by
    by_cases ho:Z0F g i
    ·rw [ZP (n2.2 ho),cond_true,ZP (.inl ho)]
    ·rw [ZQ (p:=n ≥ 0) (fun h => ho (n2.1 h)),cond_false]
     by_cases he:cs g i = []
     ·rw [ZP (p:=Z0F g i∨cs g i = []) (.inr he),ZQ (p:=cs g i ≠ []) (fun h => h he)];rfl
     ·rw [ZQ (p:=Z0F g i∨cs g i = []) (fun h => h.elim ho he),ZP (p:=cs g i ≠ []) he];rfl
   rw [hc];simp only [Y0]
   by_cases hk:Z0F g i∨cs g i = []
   ·left
    rw [ZP hk,cond_true];have hij:i ≠ j:=by
     rintro rfl;exact hk.elim j3 j4
    have hw:w64 (i + byU up) = i + byU up:=Z9 (by unfold byU;cases up <;> simp <;> omega)
    rw [hw];refine ⟨_,rfl,⟨?_,?_⟩,?_⟩
    ·unfold byU;cases up
     ·simp only [Y6,if_false] at a1 ⊢;omega
     ·simp only [if_true] at a1 ⊢;omega
    ·intro k hkk
     by_cases hki:k = i
     ·subst hki;exact hk
     ·apply a2;unfold byU at hkk;cases up
      ·simp only [Y6,if_false] at hkk ⊢;omega
      ·simp only [if_true] at hkk ⊢;omega
    ·unfold byU;cases up
     ·simp only [Y6,if_false] at a1 ⊢;omega
     ·simp only [if_true] at a1 ⊢;omega
   ·right
    rw [ZQ hk,cond_false];exact ⟨_,rfl,a1,fun ho => hk (.inl ho),fun he => hk (.inr he),a2⟩) i0 ⟨by
     cases up
     ·simp only [Y6,if_false] at hj ⊢;omega
     ·simp only [if_true] at hj ⊢;omega,fun k hk => by
     cases up
     ·simp only [Y6,if_false] at hk;omega
     ·simp only [if_true] at hk;omega⟩
 refine ⟨r,q1,q2.2.1,q2.2.2.1,?_,?_,?_,q2.2.2.2⟩ <;> have:=q2.1 <;> cases up <;> simp only [Y6,if_false,if_true] at this hj ⊢ <;> omega
def AtP (g:Form) (up:Bool) (t i:Int):Prop:=ZK g i ≠ []∧(if up then t≤lstT (ZK g i) else fstT (ZK g i)≤t)
theorem hull_cond {l:List Span} {up:Bool} {t:Int} (hl:Len l):∃ x:Span × Bool,Z1P l = some x∧(x.2 && ((up && (decide (x.1.To ≥ t))) || ((!up) && (decide (x.1.From≤t))))) = decide (l ≠ []∧(if up then t≤lstT l else fstT l≤t)):=by
 refine ⟨_,Z9T hl,?_⟩
 by_cases h:l = []
 ·rw [if_pos h];simp [h]
 ·rw [if_neg h];cases up <;> simp [h]
open Classical in
theorem reach_loop {g:Form} {sp:List size_spot} (h:Fit g) (up:Bool) (t:Int) {b:Int × Bool} {S:Int→Prop} (hB:Best S b) :
  ∃ r,loopO (Z3.s2 ⟨g,sp⟩ t up (byU up)) (0,b.1,b.2) = some r∧Best (fun m => S m∨∃ i,Z0F g i∧AtP g up t i∧m = sgU up * i) r:=by
 have hs:=h.shape
 have hl:=h.lim
 have hodd:=h.odds
 obtain ⟨r,q1,q2⟩:=Z0N (step:=Z3.s2 ⟨g,sp⟩ t up (byU up))
  (fun s => ∃ (k:Nat) (c:Int × Bool),k≤g.Odd.length∧s = ((k:Int),c.1,c.2)∧Best (fun m => S m∨∃ x ∈ g.Odd.take k,AtP g up t x.Index∧m = sgU up * x.Index) c)
  (fun s => g.Odd.length - s.1.toNat)
  (fun r => Best (fun m => S m∨∃ i,Z0F g i∧AtP g up t i∧m = sgU up * i) r) (by
   rintro s ⟨k,c,hk,rfl,hc⟩;unfold Z3.s2;simp only
   by_cases hlt:k < g.Odd.length
   ·left
    have hm:=YE hlt
    have htk:g.Odd.take (k + 1) = g.Odd.take k ++ [g.Odd[k]]:=(Y05 hlt).symm
    rw [ZP (show (k:Int) < g.Odd.length by omega),cond_true,at?_nat hlt]
    simp only [Y0];obtain ⟨x,x1,x2⟩:=hull_cond (l:=g.Odd[k].Ticks) (up:=up) (t:=t) (hl.ticks _ hm).2.1
    rw [x1];simp only [Y0];rw [x2];have hset:ZK g g.Odd[k].Index = g.Odd[k].Ticks:=Z1c hs.inc hm
    have hat:(g.Odd[k].Ticks ≠ []∧(if up then t≤lstT g.Odd[k].Ticks else fstT g.Odd[k].Ticks≤t)) ↔ AtP g up t g.Odd[k].Index:=by unfold AtP;rw [hset]
    have ht:=(hs.odd _ hm).2
    unfold ZE at ht
    by_cases hcnd:AtP g up t g.Odd[k].Index
    ·rw [ZP (hat.2 hcnd),cond_true];have hw:w64 (w64 (0 - byU up) * g.Odd[k].Index) = sgU up * g.Odd[k].Index:=sg_w up (by omega)
     rw [hw,Z8P];simp only [Y0];rw [Z9 (by omega)]
     refine ⟨_,rfl,⟨k + 1,putB c (sgU up * g.Odd[k].Index),hlt,by push_cast;rfl,?_⟩,by simp only;omega⟩
     refine hc.put fun m => ?_
     rw [htk]
     constructor
     ·rintro (h1 | ⟨y,hy,h1,h2⟩)
      ·exact .inl (.inl h1)
      ·rcases List.mem_append.1 hy with h3 | h3
       ·exact .inl (.inr ⟨y,h3,h1,h2⟩)
       ·rw [YO] at h3;subst h3;exact .inr h2
     ·rintro ((h1 | ⟨y,hy,h1,h2⟩) | h1)
      ·exact .inl h1
      ·exact .inr ⟨y,Yf _ hy,h1,h2⟩
      ·exact .inr ⟨_,Yk _ (List.mem_singleton.2 rfl),hcnd,h1⟩
    ·rw [ZQ (fun h => hcnd (hat.1 h)),cond_false]
     simp only [Y0];rw [Z9 (by omega)]
     refine ⟨_,rfl,⟨k + 1,c,hlt,by push_cast;rfl,?_⟩,by simp only;omega⟩
     refine hc.congr fun m => ?_
     rw [htk]
     constructor
     ·rintro (h1 | ⟨y,hy,h1,h2⟩)
      ·exact .inl h1
      ·rcases List.mem_append.1 hy with h3 | h3
       ·exact .inr ⟨y,h3,h1,h2⟩
       ·rw [YO] at h3;subst h3;exact absurd h1 hcnd
     ·rintro (h1 | ⟨y,hy,h1,h2⟩)
      ·exact .inl h1
      ·exact .inr ⟨y,Yf _ hy,h1,h2⟩
   ·right
    obtain rfl:k = g.Odd.length:=by omega
    rw [ZQ (by omega),cond_false]
    rw [Yx] at hc;refine ⟨_,rfl,hc.congr fun m => ?_⟩
    constructor
    ·rintro (h1 | ⟨i,⟨x,hx,rfl⟩,h1,h2⟩)
     ·exact .inl h1
     ·exact .inr ⟨x,hx,h1,h2⟩
    ·rintro (h1 | ⟨x,hx,h1,h2⟩)
     ·exact .inl h1
     ·exact .inr ⟨_,⟨x,hx,rfl⟩,h1,h2⟩) (0,b.1,b.2) ⟨0,b,YM _,rfl,hB.congr fun m => by simp⟩
 exact ⟨r,q1,q2⟩
theorem spots_ne {g:Form} (hs:Shape g) (h0:0 < g.Count) (hb:¬ Bare g):Z2H g ≠ []:=by
 obtain ⟨i,i1,i2,i3⟩:=cs_some hs hb h0 0
 obtain ⟨s,s1,s2⟩:=(spots_ok hs).all i i1 (by omega) i3
 exact Y0w s1
theorem sg_sg (up:Bool) (n:Int):sgU up * (sgU up * n) = n:=by unfold sgU;cases up <;> simp
theorem ZES {g:Form} (h:Fit g) (hb:0 < g.Count→¬ Bare g) {t:Int} (ht:BigT t) (up:Bool) :
  ∃ n b,Z3 ⟨g,Z2H g⟩ t up = some (n,b)∧Best (fun m => ∃ i,AtP g up t i∧m = sgU up * i) (sgU up * n,b)∧-300000000000000≤n∧n≤300000000000000:=by
 have hs:=h.shape
 have hby:(bif up then some (1:Int) else some (-1)) = some (byU up):=by unfold byU;cases up <;> rfl
 unfold Z3
 rw [hby]
 simp only [Y0]
 have key:∃ b:Int × Bool,(bif (decide (g.Count > 0)) then
   (Z0X ⟨g,Z2H g⟩ t up).bind fun x1 =>
   (loopO (Z3.s0 ⟨g,Z2H g⟩ (byU up)) x1).bind fun (y3:Int) =>
   (
    (loopO (Z3.s1) (([(w64 ((w64 (0 - (byU up))) * y3))].length:Int),0,[(w64 ((w64 (0 - (byU up))) * y3))],0,false)).bind fun (y6:(List Int) × Int × Bool) =>
    some (y6.1,y6.2.1,y6.2.2)).bind fun (y5:(List Int) × Int × Bool) =>
   some (y5.2.1,y5.2.2)
  else
   some (0,false)) = some b∧Best (fun m => ∃ i,¬ Z0F g i∧AtP g up t i∧m = sgU up * i) b∧(b.2 = true→-211106232533992≤b.1∧b.1≤211106232533992):=by
  by_cases h0:0 < g.Count
  ·rw [ZP h0,cond_true];have hsp:=spots_ok hs
   have hn:=spots_ne hs h0 (hb h0)
   have hln:(Z2H g).length≤12:=Yc (Z99 g _) h.few
   have hcore:∃ i0,Z0X ⟨g,Z2H g⟩ t up = some i0∧(if up then FirstC g t i0 else LastC g t i0)∧-211106232532992≤i0∧i0≤211106232532992:=by
    cases up
    ·obtain ⟨i,e1,e2,e3⟩:=ZBP h h0 hsp hn hln ht
     exact ⟨i,e1,by simpa using e2,e3⟩
    ·obtain ⟨i,e1,e2,e3⟩:=ZDb h h0 hsp hn hln ht
     exact ⟨i,e1,by simpa using e2,e3⟩
   obtain ⟨i0,c1,c2,c3⟩:=hcore
   obtain ⟨i,w1,w2,w3,w4,w5,w6,w7⟩:=walk_eq (sp:=Z2H g) h h0 (hb h0) up c3
   rw [c1];simp only [Y0];rw [w1];simp only [Y0];have hw:w64 (w64 (0 - byU up) * i) = sgU up * i:=sg_w up (by omega)
   rw [hw,Z8I];simp only [Y0];refine ⟨_,rfl,?_,?_⟩
   ·show Best _ (sgU up * i,true)
    refine ⟨fun _ => ⟨⟨i,w2,?_,rfl⟩,?_⟩,fun h => by cases h⟩
    ·unfold AtP;rw [Z34 h0 w2];refine ⟨w3,?_⟩;cases up
     ·simp only [Y6,if_false] at c2 w4 ⊢
      by_cases hii:i = i0
      ·rw [hii];exact c2.2.1
      ·have o1:=Z6a hs h.turns h0 (show i < i0 by omega) w3 c2.1
       obtain ⟨j,q,j0,j1,jk,ej⟩:=Z5D h0 i
       have hjn:cs g j ≠ []:=fun hh => w3 (by rw [ej,hh];rfl)
       have o2:=Z1r (Z38 hs h0 j0 j1) hjn
       have o3:=Z0i (q * g.Period) hjn
       rw [← ej] at o3;have:=c2.2.1
       omega
     ·simp only [if_true] at c2 w4 ⊢
      by_cases hii:i = i0
      ·rw [hii];exact c2.2.1
      ·have o1:=Z6a hs h.turns h0 (show i0 < i by omega) c2.1 w3
       obtain ⟨j,q,j0,j1,jk,ej⟩:=Z5D h0 i
       have hjn:cs g j ≠ []:=fun hh => w3 (by rw [ej,hh];rfl)
       have o2:=Z1r (Z38 hs h0 j0 j1) hjn
       have o3:=Z0i (q * g.Period) hjn
       rw [← ej] at o3;have:=c2.2.1
       omega
    ·rintro m ⟨k,k1,k2,rfl⟩;unfold AtP at k2;rw [Z34 h0 k1] at k2;cases up
     ·simp only [Y6,if_false,sgU] at c2 w7 k2 ⊢
      by_cases hki:k≤i
      ·omega
      ·exfalso
       by_cases hk0:k≤i0
       ·rcases w7 k ⟨by omega,hk0⟩ with h1 | h1
        ·exact k1 h1
        ·exact k2.1 h1
       ·have:=c2.2.2 k (by omega) k2.1
        omega
     ·simp only [if_true,sgU] at c2 w7 k2 ⊢
      by_cases hki:i≤k
      ·omega
      ·exfalso
       by_cases hk0:i0≤k
       ·rcases w7 k ⟨hk0,by omega⟩ with h1 | h1
        ·exact k1 h1
        ·exact k2.1 h1
       ·have:=c2.2.2 k (by omega) k2.1
        omega
   ·intro _
    show -211106232533992≤sgU up * i∧sgU up * i≤211106232533992
    unfold sgU;cases up <;> simp only [Y6,if_false,if_true] <;> omega
  ·rw [ZQ h0,cond_false];refine ⟨_,rfl,Best.none ?_,fun h => by cases h⟩
   rintro n ⟨i,i1,i2,rfl⟩;exact i2.1 (Z1q i1 (by have:=hs.count;omega))
 obtain ⟨b,k1,k2,k3⟩:=key
 rw [k1]
 simp only [Y0]
 obtain ⟨r,r1,r2⟩:=reach_loop (sp:=Z2H g) h up t k2
 rw [r1]
 simp only [Y0]
 have hB:Best (fun m => ∃ i,AtP g up t i∧m = sgU up * i) r:=r2.congr fun m => by
  constructor
  ·rintro ⟨i,i1,i2⟩
   by_cases ho:Z0F g i
   ·exact .inr ⟨i,ho,i1,i2⟩
   ·exact .inl ⟨i,ho,i1,i2⟩
  ·rintro (⟨i,i1,i2,i3⟩ | ⟨i,i1,i2,i3⟩)
   ·exact ⟨i,i2,i3⟩
   ·exact ⟨i,i2,i3⟩
 have hrb : -211106232533992≤r.1∧r.1≤211106232533992:=by
  cases hr:r.2 with
  | false => have:=(r2.no hr).1;omega
  | true =>
   rcases (r2.yes hr).1 with h1 | ⟨i,⟨x,hx,rfl⟩,i2,i3⟩
   ·cases hbb:b.2 with
    | false => exact absurd h1 ((k2.no hbb).2 _)
    | true =>
     have e1:=(k2.yes hbb).2 _ h1
     have e2:=(r2.yes hr).2 _ (.inl (k2.yes hbb).1)
     have:=k3 hbb
     omega
   ·have:=(hs.odd x hx).2
    unfold ZE at this;rw [i3];unfold sgU;cases up <;> simp only [Y6,if_false,if_true] <;> omega
 have hw:w64 (w64 (0 - byU up) * r.1) = sgU up * r.1:=sg_w up (by omega)
 rw [hw]
 refine ⟨sgU up * r.1,r.2,rfl,?_,?_⟩
 ·rw [sg_sg];exact hB
 ·unfold sgU;cases up <;> simp only [Y6,if_false,if_true] <;> omega
end Go.Dn
