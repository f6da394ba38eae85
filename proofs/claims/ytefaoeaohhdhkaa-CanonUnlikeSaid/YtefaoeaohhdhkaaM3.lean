/- Part 3 of what the row stands on. -/
import Derived.Test.YtefaoeaohhdhkaaM2
set_option linter.unusedVariables false
set_option linter.unusedSimpArgs false
namespace Go.Dn
open Go Go.Proofs
set_option maxRecDepth 100000
set_option maxHeartbeats 4000000
theorem Z2v {f : Form} {at' : Int} {r : Bool} (h : Z6 f at' = some r) : Fn CX 11 [(.agg (vs (Form.cs f))), (.v (.int .i8 at'))] (vb r) := by
 refine Fn.go Try.func11 V fun σ H => ?_; unfold Z6 at h; refine .tR 2 V H fun b1 σ H => (.boxH (cs := (vF f)) H (by omega) (by omega) V V V fun σ H => (.aV V (.nila H fun H => (.then (.tR 3 V H fun b2 σ H => (.LV (vF f) H 0 V ?_)))))); obtain ⟨x1, q1, h⟩ := bs h; refine .cV (Z4d q1) V (.tV V (.nila H fun H => ?_)); refine .wh h V ?_ ?_ <;> intro h
 ·refine .tR 2 V H fun b3 σ H => (.cV (Z0F V) V (.aV V (.nila H fun H => (.ret ?_)))); obtain rfl := sj h; exact Ends.eR V
 refine .skip (.tR 9 V H fun b4 σ H => (.LV (vF f) H 0 V (.mV V (.conv (m := at') V V V V ?_)))); obtain ⟨x2, q2, h⟩ := bs h; refine .Z4w (ys := [(.agg (vs (Form.cs f))), (vi (w64 at'))]) H rfl (Z1m q2) nofun rfl ?_; rintro _ _ σ ⟨w1, rfl, rfl⟩ H; refine .m1 (.tup [w1, (vi x2.2)]) V V (.xV V (.xV V (.a1 w1 V V (.aV V (.nila H fun H => (.then (.tR 13 V H fun b5 σ H => (.mV V ?_)))))))); refine .iV V (.mV V ?_); refine .md H 4 [(30, (vb ((x2.2 != 0) || ((x2.1.length : Int) == 0)))), (1, (.v (.int .i8 at'))), (2, (.ptr (b1 + 0) 4 0)), (5, w1)] [.sl w1 43 2 (x2.1.map Span.cs) true, .blk (b1 + 0) 25 (vF f)] rfl ?_ fun e σ H => ?_
 ·refine .split V V ?_ ?_ <;> intro hc2
  ·refine .ps 3 V (.kT V (.nil ?_)); exact ⟨⟨or_T hc2, V, V, V, U⟩, H.wk (by omega)⟩
  ·refine .m1 w1 V V (.wt V V (.lenSt (c := Span.cs) (xs := x2.1) H 0 V V V nofun V (.iV V (.kF V (.nil ?_))))); exact ⟨⟨or_F hc2, V, V, V, U⟩, H.wk (by omega)⟩
 refine .mV V ?_; refine .md H 5 [(36, (vb (((x2.2 != 0) || ((x2.1.length : Int) == 0)) || ((f.Odd.length : Int) == 8)))), (1, (.v (.int .i8 at'))), (2, (.ptr (b1 + 0) 4 0)), (5, w1)] [.sl w1 43 2 (x2.1.map Span.cs) true, .blk (b1 + 0) 25 (vF f)] rfl ?_ fun e σ H => ?_
 ·refine .split V V ?_ ?_ <;> intro hc3
  ·refine .ps 4 V (.kT V (.nil ?_)); exact ⟨⟨or_T hc3, V, V, V, U⟩, H.wk (by omega)⟩
  ·refine .fV H 1 V (.lV H 1 V (.nV V (.iV V (.kF V (.nil ?_))))); exact ⟨⟨or_F hc3, V, V, V, U⟩, H.wk (by omega)⟩
 refine .nila H fun H => ?_; refine .wh h V ?_ ?_ <;> intro h
 ·refine .tR 2 V H fun b6 σ H => (.cV (Z0F V) V (.aV V (.nila H fun H => (.ret ?_)))); obtain rfl := sj h; exact Ends.eR V
 refine .skip (.tR 4 V H fun b7 σ H => (.m1 w1 V V (.lenSt (c := Span.cs) (xs := x2.1) H 0 V V V nofun V (.iV V (.aV V (.nila H fun H => (.then (.tR 9 V H fun b8 σ H => ?_)))))))); refine .m1 w1 V V (.mV V ?_); obtain ⟨x3, q3, h⟩ := bs h; refine .Z6J H 0 V V V (at?_map q3) V V nofun V ?_; intro id1 hv1; subst hv1; refine .Z3m (id := id1) H 0 V V (by simp) V V V nofun V ?_; refine .loadS (id := id1) (j := 1) (w := (.int .i64 x3.To)) H 0 V V (by simp) (at?_map q3) V (by simp) V V V nofun V ?_; refine .iV V ?_; obtain ⟨x4, q4, h⟩ := bs h; refine .Z6J H 0 V V V (at?_map q4) V V nofun V ?_; intro id2 hv2; refine .Z3m (id := id2) H 0 V hv2 (by simp) V V V nofun V (.storeSt (id := id2) (j := 1) (zs := [(.int .i64 (w64 (x3.To - 1)))]) (u := x4) (u' := (Span.mk x4.From (w64 (x3.To - 1)))) H 0 V hv2 (by simp) q4 V (by simp) V V V V V V nofun fun σ H => (.nila H fun H => (.then (.Z1B 11 V (by kernel_rfl) H fun b9 σ H B9 => (.mB V (.mV V ?_)))))); obtain ⟨x5, q5, h⟩ := bs h; refine .Z6J H 0 V V V (at?_map q5) V V (fun _ id ho => .inl ⟨B9 0 _ V id ho, nofun, (fun _ => by kernel_rfl)⟩) V ?_; intro id3 hv3; refine .Z3m (id := id3) H 0 V hv3 (by simp) V V V (fun _ => .inl ⟨B9 0 _ V _ (by rw [(hv3 : ((.buf id1 (x2.1.map Span.cs).length 2) : PV) = _)]; rfl), nofun, (fun _ => by kernel_rfl)⟩) V ?_; refine .loadS (id := id3) (j := 0) (w := (.int .i64 x5.From)) H 0 V hv3 (by simp) (at?_map q5) V (by simp) V V V (fun _ => .inl ⟨B9 0 _ V _ (by rw [(hv3 : ((.buf id1 (x2.1.map Span.cs).length 2) : PV) = _)]; rfl), nofun, (fun _ => by kernel_rfl)⟩) V ?_
 refine .mB V (.mV V ?_); obtain ⟨x6, q6, h⟩ := bs h; refine .Z6J H 0 V V V (at?_map q6) V V (fun _ id ho => .inl ⟨B9 0 _ V id ho, nofun, (fun _ => by kernel_rfl)⟩) V ?_; intro id4 hv4; refine .Z3m (id := id4) H 0 V hv4 (by simp) V V V (fun _ => .inl ⟨B9 0 _ V _ (by rw [(hv4 : ((.buf id1 (x2.1.map Span.cs).length 2) : PV) = _)]; rfl), nofun, (fun _ => by kernel_rfl)⟩) V ?_; refine .loadS (id := id4) (j := 1) (w := (.int .i64 x6.To)) H 0 V hv4 (by simp) (at?_map q6) V (by simp) V V V (fun _ => .inl ⟨B9 0 _ V _ (by rw [(hv4 : ((.buf id1 (x2.1.map Span.cs).length 2) : PV) = _)]; rfl), nofun, (fun _ => by kernel_rfl)⟩) V ?_; refine .iV V (.nila H fun H => ?_); refine .wh h V ?_ ?_ <;> intro h
 ·refine .ZM 4 V H fun b10 σ H => (.mB V (.mV V ?_)); obtain ⟨x7, q7, h⟩ := bs h; refine .sliceS (c := Span.cs) q7 H 0 V V V V V (fun _ => V) nofun V fun σ H => (.aV V (.nila H fun H => (.tR 4 V H fun b11 σ H => (.LV (vF f) H 1 V ?_)))); obtain ⟨x8, q8, h⟩ := bs h; refine .cV (Z2M q8) V (.Z0O (cs := [(vi 0), (vi 0), .nils, .nils]) H (by omega) (by omega) V V fun σ H => (.sV (vF x8) H 0 V fun σ H => (.nila H fun H => (.tR 1 V H fun b12 σ H => (.a1 .nils V V (.nila H fun H => (.tR 1 V H fun b13 σ H => (.aV V ?_)))))))); refine .nila H fun H => (.then (.tR 4 V H fun b14 σ H => (.fV H 0 V (.lV H 0 V (.nV V (.mV V (.nila H fun H => (.inBlock ?_)))))))); replace H := H.pushNil 45 2 true; obtain ⟨y1, hj1, h⟩ := bs h; obtain ⟨n1, hj1⟩ := ZI.1 hj1; refine .mono (Runs.loopO hj1 (fun s2 e σ => ∃ (w4 : PV), ZA e [(1, (.v (.int .i8 at'))), (2, (.ptr (b1 + 0) 4 0)), (5, (vl Span.cs x7)), (8, (.ptr (b11 + 2) 4 0)), (9, w4), (10, (vb s2.1)), (66, (vl Granule.cs x8.Odd)), (67, (vi (x8.Odd.length : Int))), (68, (vi s2.2.1))] ∧ Hs σ [.sl w4 45 2 (s2.2.2.map Granule.cs) true, .blk (b11 + 2) 25 (vF x8), .blk (b1 + 0) 25 (vF f)]) (fun y1 x e σ => ∃ (w5 : PV), x = .exit 0 ∧ ZA e [(1, (.v (.int .i8 at'))), (2, (.ptr (b1 + 0) 4 0)), (5, (vl Span.cs x7)), (8, (.ptr (b11 + 2) 4 0)), (9, w5), (10, (vb y1.1))] ∧ Hs σ [.sl w5 45 2 (y1.2.map Granule.cs) true, .blk (b11 + 2) 25 (vF x8), .blk (b1 + 0) 25 (vF f)]) ⟨.nils, EI V, (H.erase 2)⟩ ?_) ?_
  ·intro s2 e σ hI z h; obtain ⟨w4, he, H⟩ := hI; obtain ⟨e, rfl⟩ := he.ex; unfold Z6.s0 at h; refine .tR 1 V H fun b15 σ H => (.iV V (.nila H fun H => (.then ?_))); refine .wh h V ?_ ?_ <;> intro h
   ·refine .skip (.then ?_); obtain ⟨y2, hj2, h⟩ := bs h; refine .mono (Q := fun x e σ => ∃ (w6 : PV), x = .normal ∧ ZA e [(1, (.v (.int .i8 at'))), (2, (.ptr (b1 + 0) 4 0)), (5, (vl Span.cs x7)), (8, (.ptr (b11 + 2) 4 0)), (9, w6), (10, (vb y2.1)), (66, (vl Granule.cs x8.Odd)), (67, (vi (x8.Odd.length : Int))), (68, (vi s2.2.1))] ∧ Hs σ [.sl w6 45 2 (y2.2.map Granule.cs) true, .blk (b11 + 2) 25 (vF x8), .blk (b1 + 0) 25 (vF f)]) ?_ ?_
    ·replace h := hj2; refine .inBlock ?_; obtain ⟨y3, hj3, h⟩ := bs h; refine .mono (Q := fun x e σ => ∃ (w7 : PV), x = .normal ∧ ZA e [(1, (.v (.int .i8 at'))), (2, (.ptr (b1 + 0) 4 0)), (5, (vl Span.cs x7)), (8, (.ptr (b11 + 2) 4 0)), (9, w7), (10, (vb y3.2)), (66, (vl Granule.cs x8.Odd)), (67, (vi (x8.Odd.length : Int))), (68, (vi s2.2.1))] ∧ Hs σ [.sl w7 45 2 (y3.1.map Granule.cs) true, .blk (b11 + 2) 25 (vF x8), .blk (b1 + 0) 25 (vF f)]) ?_ ?_
     ·replace h := hj3; refine .tR 4 V H fun b16 σ H => ?_; obtain ⟨x9, q9, h⟩ := bs h; refine .jV q9 V (.qV [(.int .i64 x9.Index), (.sl (x9.Ticks.map Span.cs))] V (.Z0O (cs := [(vi 0), .nils]) H (by omega) (by omega) V V fun σ H => (.sV [(vi x9.Index), (vl Span.cs x9.Ticks)] H 0 V fun σ H => (.nila H fun H => (.then ?_))))); obtain ⟨y4, hj4, h⟩ := bs h; refine .mono (Q := fun x e σ => ∃ (w8 : PV), x = .normal ∧ ZA e [(1, (.v (.int .i8 at'))), (2, (.ptr (b1 + 0) 4 0)), (5, (vl Span.cs x7)), (8, (.ptr (b11 + 2) 4 0)), (9, w8), (10, (vb y4.1)), (12, (.ptr (b16 + 2) 2 0)), (66, (vl Granule.cs x8.Odd)), (67, (vi (x8.Odd.length : Int))), (68, (vi s2.2.1))] ∧ Hs σ [.blk (b16 + 2) 45 [(vi x9.Index), (vl Span.cs x9.Ticks)], .sl w8 45 2 (y4.2.map Granule.cs) true, .blk (b11 + 2) 25 (vF x8), .blk (b1 + 0) 25 (vF f)]) ?_ ?_
      ·replace h := hj4; refine .tR 9 V H fun b17 σ H => (.mV V (.tV V (.mV V ?_))); refine .md H 6 [(80, (vb ((!s2.1) && (decide (x9.Index ≥ (w64 at')))))), (1, (.v (.int .i8 at'))), (2, (.ptr (b1 + 0) 4 0)), (5, (vl Span.cs x7)), (8, (.ptr (b11 + 2) 4 0)), (9, w4), (10, (vb s2.1)), (12, (.ptr (b16 + 2) 2 0)), (66, (vl Granule.cs x8.Odd)), (67, (vi (x8.Odd.length : Int))), (68, (vi s2.2.1))] [.blk (b16 + 2) 45 [(vi x9.Index), (vl Span.cs x9.Ticks)], .sl w4 45 2 (s2.2.2.map Granule.cs) true, .blk (b11 + 2) 25 (vF x8), .blk (b1 + 0) 25 (vF f)] V ?_ fun e σ H => ?_
       ·refine .split V V ?_ ?_ <;> intro hc7
        ·refine .fV H 0 V (.lV H 0 V (.mV V (.wt V V (.conv (m := at') V V V V (.iV V (.kT V (.nil ?_))))))); exact ⟨⟨Z2W hc7, V, V, V, V, V, V, V, V, V, V, U⟩, H.wk (by omega)⟩
        ·refine .ps 5 V (.kF V (.nil ?_)); exact ⟨⟨Z2X hc7, V, V, V, V, V, V, V, V, V, V, U⟩, H.wk (by omega)⟩
       refine .nila H fun H => ?_; refine .wh h V ?_ ?_ <;> intro h
       ·refine .ZM 9 V H fun b18 σ H => (.m1 w4 V V (.mV V (.conv (m := at') V V V V (.mV V (.bV [(vi (w64 at')), (vl Span.cs x7)] V (.Z2R (sz := 2) ([(Granule.mk (w64 at') x7)].map Granule.cs) H (by omega) (by omega) V V V V V V V V V fun σ H => ?_)))))); obtain ⟨x10, q10, h⟩ := bs h; refine .Z17 (c := Granule.cs) (v := w4) (w := (.buf (b18 + 5) 1 2)) (xs := s2.2.2) (ys := [(Granule.mk (w64 at') x7)]) H (by omega) (by omega) 2 V V V (.s 0 V) q10 V V V V V nofun V fun w9 σ H => (.a1 w9 V V (.aV V (.nila H fun H => ?_))); obtain rfl := sj h; exact ⟨w9, V, EI V, (H.erase 0)⟩
       refine .skip ?_; obtain rfl := sj h; exact ⟨w4, V, EI V, H⟩
      ·rintro x e σ ⟨w10, rfl, he, H⟩; obtain ⟨e, rfl⟩ := he.ex; refine .tR 5 V H fun b19 σ H => (.fV H 0 V (.lV H 0 V (.mV V (.conv (m := at') V V V V (.iV V (.nila H fun H => ?_)))))); refine .wh h V ?_ ?_ <;> intro h
       ·refine .ZM 5 V H fun b20 σ H => (.m1 w10 V V (.LV [(vi x9.Index), (vl Span.cs x9.Ticks)] H 0 V (.Z2R (sz := 2) ([x9].map Granule.cs) H (by omega) (by omega) V V V V V V V V V fun σ H => ?_))); obtain ⟨x11, q11, h⟩ := bs h; refine .Z17 (c := Granule.cs) (v := w10) (w := (.buf (b20 + 2) 1 2)) (xs := y4.2) (ys := [x9]) H (by omega) (by omega) 2 V V V (.s 0 V) q11 V V V V V nofun V fun w11 σ H => (.a1 w11 V V (.nila H fun H => ?_)); obtain rfl := sj h; exact ⟨w11, V, EI V, ((H.erase 1).erase 0)⟩
       refine .skip ?_; obtain rfl := sj h; exact ⟨w10, V, EI V, (H.erase 0)⟩
     ·rintro x e σ ⟨w12, rfl, he, H⟩; obtain ⟨e, rfl⟩ := he.ex; obtain rfl := sj h; exact ⟨w12, V, EI V, H⟩
    ·rintro x e σ ⟨w13, rfl, he, H⟩; obtain ⟨e, rfl⟩ := he.ex; refine .ZM 2 V H fun b21 σ H => (.iV V (.mV V (.nila H fun H => ?_))); obtain rfl := sj h; exact ⟨V, w13, EI V, H⟩
   refine .exit ?_; obtain rfl := sj h; exact ⟨nofun, ⟨w4, V, EI V, H⟩⟩
  ·rintro x e σ ⟨w14, rfl, he, H⟩; obtain ⟨e, rfl⟩ := he.ex; refine .then ?_; obtain ⟨y5, hj5, h⟩ := bs h; refine .mono (Q := fun x e σ => ∃ (w15 : PV), x = .normal ∧ ZA e [(2, (.ptr (b1 + 0) 4 0)), (8, (.ptr (b11 + 2) 4 0)), (9, w15)] ∧ Hs σ [.sl w15 45 2 (y5.map Granule.cs) true, .blk (b11 + 2) 25 (vF x8), .blk (b1 + 0) 25 (vF f)]) ?_ ?_
   ·replace h := hj5; refine .tR 2 V H fun b22 σ H => (.mV V (.tV V (.nila H fun H => ?_))); refine .wh h V ?_ ?_ <;> intro h
    ·refine .ZM 8 V H fun b23 σ H => (.m1 w14 V V (.mV V (.conv (m := at') V V V V (.mV V (.bV [(vi (w64 at')), (vl Span.cs x7)] V (.Z2R (sz := 2) ([(Granule.mk (w64 at') x7)].map Granule.cs) H (by omega) (by omega) V V V V V V V V V fun σ H => ?_)))))); obtain ⟨x12, q12, h⟩ := bs h; refine .Z17 (c := Granule.cs) (v := w14) (w := (.buf (b23 + 5) 1 2)) (xs := y1.2) (ys := [(Granule.mk (w64 at') x7)]) H (by omega) (by omega) 1 V V V (.s 0 V) q12 V V V V V nofun V fun w16 σ H => (.a1 w16 V V (.nila H fun H => ?_)); obtain rfl := sj h; exact ⟨w16, V, EI V, (H.erase 0)⟩
    refine .skip ?_; obtain rfl := sj h; exact ⟨w14, V, EI V, H⟩
   ·rintro x e σ ⟨w17, rfl, he, H⟩; obtain ⟨e, rfl⟩ := he.ex; refine .tR 3 V H fun b24 σ H => (.m1 w17 V V (.fV H 1 V (.Z5F (v := w17) (ys := [w17]) (cells' := [(vi x8.Period), (vi x8.Count), (vl (cL Span.cs) x8.Core), w17]) H 1 V V V V (H.slCells (k := 0) V) V V V V nofun fun σ H => (.nila H fun H => (.then (.tR 3 V H fun b25 σ H => (.LV [(vi x8.Period), (vi x8.Count), (vl (cL Span.cs) x8.Core), w17] H 1 V ?_))))))); obtain ⟨x13, q13, h⟩ := bs h; refine .Z1X (xs := [(.agg [(vi x8.Period), (vi x8.Count), (vl (cL Span.cs) x8.Core), w17])]) (ys := [(.agg (vs (Form.cs (Form.mk x8.Period x8.Count x8.Core y5))))]) H V (.cons (.a (.cons (.v _) (.cons (.v _) (.cons (.v _) (.cons (.s 0 V) .nil))))) .nil) (Z3E q13) V V nofun V fun σ H => (.iV V (.nila H fun H => ?_)); refine .wh h V ?_ ?_ <;> intro h
    ·refine .tR 2 V H fun b26 σ H => (.cV (Z0F V) V (.aV V (.nila H fun H => (.ret ?_)))); obtain rfl := sj h; exact Ends.eR V
    refine .skip (.then (.Z1B 33 V (by kernel_rfl) H fun b27 σ H B27 => (.Z0v (cs := (vF f)) H 2 V V V V V V V (fun _ => .inl ⟨B27 2 _ V _ V, nofun, (fun _ => by kernel_rfl)⟩) V (.Z0v (cs := [(vi x8.Period), (vi x8.Count), (vl (cL Span.cs) x8.Core), w17]) H 1 V V V V V V V (fun _ => .inl ⟨B27 1 _ V _ V, nofun, (fun _ => by kernel_rfl)⟩) V ?_)))); obtain ⟨x14, q14, h⟩ := bs h; refine .Z1X (xs := [(.agg (vF f)), (.agg [(vi x8.Period), (vi x8.Count), (vl (cL Span.cs) x8.Core), w17])]) (ys := [(.agg (vs (Form.cs f))), (.agg (vs (Form.cs (Form.mk x8.Period x8.Count x8.Core y5))))]) H V (.cons (.p V) (.cons (.a (.cons (.v _) (.cons (.v _) (.cons (.v _) (.cons (.s 0 V) .nil))))) .nil)) (Z19 q14) V V (fun _ => by kernel_rfl) V fun σ H => (.tV V (.mV V ?_)); obtain ⟨y6, hj6, h⟩ := bs h; refine .md H 7 [(124, (vb y6)), (8, (.ptr (b11 + 2) 4 0))] [.sl w17 45 2 (y5.map Granule.cs) false, .blk (b11 + 2) 25 [(vi x8.Period), (vi x8.Count), (vl (cL Span.cs) x8.Core), w17]] V ?_ fun e σ H => ?_
    ·refine .sp hj6 V ?_ ?_ <;> intro h
     ·refine .wt V V (.Z0v (cs := (vF f)) H 2 V V V V V V V (fun _ => .inl ⟨B27 2 _ V _ V, nofun, (fun _ => by kernel_rfl)⟩) V (.wt V V ?_)); obtain ⟨x15, q15, h⟩ := bs h; refine .cV (Z0T q15) V (.wt V V (.Z0v (cs := [(vi x8.Period), (vi x8.Count), (vl (cL Span.cs) x8.Core), w17]) H 1 V V V V V V V (fun _ => .inl ⟨B27 1 _ V _ V, nofun, (fun _ => by kernel_rfl)⟩) V (.wt V V ?_))); obtain ⟨x16, q16, h⟩ := bs h; refine .Z1X (xs := [(.agg [(vi x8.Period), (vi x8.Count), (vl (cL Span.cs) x8.Core), w17])]) (ys := [(.agg (vs (Form.cs (Form.mk x8.Period x8.Count x8.Core y5))))]) H V (.cons (.a (.cons (.v _) (.cons (.v _) (.cons (.v _) (.cons (.s 0 V) .nil))))) .nil) (Z0T q16) V V (fun _ => by kernel_rfl) V fun σ H => (.wt V V ?_); obtain ⟨x17, q17, h⟩ := bs h; refine .cV (Z0P q17) V (.tV V (.kT V (.nil ?_))); obtain rfl := sj h; exact ⟨EI V, (H.erase 2).wk (by omega)⟩
     refine .ps 6 V (.kF V (.nil ?_)); obtain rfl := sj h; exact ⟨EI V, (H.erase 2).wk (by omega)⟩
    refine .mV V ?_; obtain ⟨y7, hj7, h⟩ := bs h; refine .md H 4 [(129, (vb y7)), (8, (.ptr (b11 + 2) 4 0))] [.sl w17 45 2 (y5.map Granule.cs) false, .blk (b11 + 2) 25 [(vi x8.Period), (vi x8.Count), (vl (cL Span.cs) x8.Core), w17]] V ?_ fun e σ H => ?_
    ·refine .sp hj7 V ?_ ?_ <;> intro h
     ·refine .wt V V (.Z0v (cs := [(vi x8.Period), (vi x8.Count), (vl (cL Span.cs) x8.Core), w17]) H 1 V V V V V V V (fun _ => .inl ⟨B27 1 _ V _ V, nofun, (fun _ => by kernel_rfl)⟩) V (.wt V V (.Z0v (cs := [(vi x8.Period), (vi x8.Count), (vl (cL Span.cs) x8.Core), w17]) H 1 V V V V V V V (fun _ => .inl ⟨B27 1 _ V _ V, nofun, (fun _ => by kernel_rfl)⟩) V (.wt V V ?_)))); obtain ⟨x18, q18, h⟩ := bs h; refine .Z1X (xs := [(.agg [(vi x8.Period), (vi x8.Count), (vl (cL Span.cs) x8.Core), w17]), (.agg [(vi x8.Period), (vi x8.Count), (vl (cL Span.cs) x8.Core), w17])]) (ys := [(.agg (vs (Form.cs (Form.mk x8.Period x8.Count x8.Core y5)))), (.agg (vs (Form.cs (Form.mk x8.Period x8.Count x8.Core y5))))]) H V (.cons (.a (.cons (.v _) (.cons (.v _) (.cons (.v _) (.cons (.s 0 V) .nil))))) (.cons (.a (.cons (.v _) (.cons (.v _) (.cons (.v _) (.cons (.s 0 V) .nil))))) .nil)) (Z19 q18) V V (fun _ => by kernel_rfl) V fun σ H => (.kT V (.nil ?_)); obtain rfl := sj h; exact ⟨EI V, H.wk (by omega)⟩
     refine .ps 3 V (.kF V (.nil ?_)); obtain rfl := sj h; exact ⟨EI V, H.wk (by omega)⟩
    refine .mV V ?_; obtain ⟨y8, hj8, h⟩ := bs h; refine .md H 11 [(141, (vb y8))] [] V ?_ fun e σ H => ?_
    ·refine .sp hj8 V ?_ ?_ <;> intro h
     ·refine .wt V V (.Z0v (cs := [(vi x8.Period), (vi x8.Count), (vl (cL Span.cs) x8.Core), w17]) H 1 V V V V V V V (fun _ => .inl ⟨B27 1 _ V _ V, nofun, (fun _ => by kernel_rfl)⟩) V (.cV (Z0o V) V (.wt V V ?_))); obtain ⟨x19, q19, h⟩ := bs h; refine .callZS (xs := [(.agg [(vi x8.Period), (vi x8.Count), (vl (cL Span.cs) x8.Core), w17]), (.agg (vF ZB))]) (ys := [(.agg (vs (Form.cs (Form.mk x8.Period x8.Count x8.Core y5)))), (.agg (vs (Form.cs ZB)))]) H V (.cons (.a (.cons (.v _) (.cons (.v _) (.cons (.v _) (.cons (.s 0 V) .nil))))) (.cons (.p V) .nil)) (Z19 q19) V V (fun _ => by kernel_rfl) V (.tV V (.wt V V (.Z0v (cs := [(vi x8.Period), (vi x8.Count), (vl (cL Span.cs) x8.Core), w17]) H 1 V V V V V V V (fun _ => .inl ⟨B27 1 _ V _ V, nofun, (fun _ => by kernel_rfl)⟩) V (.wt V V ?_)))); obtain ⟨x20, q20, h⟩ := bs h; refine .callZS (xs := [(.agg [(vi x8.Period), (vi x8.Count), (vl (cL Span.cs) x8.Core), w17])]) (ys := [(.agg (vs (Form.cs (Form.mk x8.Period x8.Count x8.Core y5))))]) H V (.cons (.a (.cons (.v _) (.cons (.v _) (.cons (.v _) (.cons (.s 0 V) .nil))))) .nil) (Z0T q20) V V (fun _ => by kernel_rfl) V (.cV (Z0o V) V (.wt V V ?_)); obtain ⟨x21, q21, h⟩ := bs h; refine .cV (Z0P q21) V (.tV V (.wt V V (.eqB (b := (!x19)) (b' := (!x21)) V V V V (.kT V (.nil ?_))))); obtain rfl := sj h; exact ⟨EI V, ((H.erase 1).erase 0).wk (by omega)⟩
     refine .ps 10 V (.kF V (.nil ?_)); obtain rfl := sj h; exact ⟨EI V, ((H.erase 1).erase 0).wk (by omega)⟩
    refine .mV V ?_; refine .md H 2 [(144, (vb (y8 && ZE)))] [] V ?_ fun e σ H => ?_
    ·refine .split V V ?_ ?_ <;> intro hc15
     ·refine .cV (Z0F V) V (.kT V (.nil ?_)); exact ⟨⟨Z2W hc15, U⟩, H.wk (by omega)⟩
     ·refine .ps 1 V (.kF V (.nil ?_)); exact ⟨⟨Z2X hc15, U⟩, H.wk (by omega)⟩
    refine .aV V (.nila H fun H => (.ret ?_)); obtain rfl := sj h; exact Ends.eR V
 refine .skip (.tR 4 V H fun b28 σ H => (.LV (vF f) H 1 V ?_)); obtain ⟨x22, q22, h⟩ := bs h; refine .cV (Z2M q22) V (.Z0O (cs := [(vi 0), (vi 0), .nils, .nils]) H (by omega) (by omega) V V fun σ H => (.sV (vF x22) H 0 V fun σ H => (.nila H fun H => (.tR 1 V H fun b29 σ H => (.a1 .nils V V (.nila H fun H => (.tR 1 V H fun b30 σ H => (.aV V ?_)))))))); refine .nila H fun H => (.then (.tR 4 V H fun b31 σ H => (.fV H 0 V (.lV H 0 V (.nV V (.mV V (.nila H fun H => (.inBlock ?_)))))))); replace H := H.pushNil 45 2 true; obtain ⟨y9, hj9, h⟩ := bs h; obtain ⟨n2, hj9⟩ := ZI.1 hj9; refine .mono (Runs.loopO hj9 (fun s4 e σ => ∃ (w20 : PV) (lb3 : Bool), ZA e [(1, (.v (.int .i8 at'))), (2, (.ptr (b1 + 0) 4 0)), (5, (.buf id1 (x2.1.map Span.cs).length 2)), (8, (.ptr (b28 + 2) 4 0)), (9, w20), (10, (vb s4.1)), (66, (vl Granule.cs x22.Odd)), (67, (vi (x22.Odd.length : Int))), (68, (vi s4.2.1))] ∧ Hs σ [.sl w20 45 2 (s4.2.2.1.map Granule.cs) true, .blk (b28 + 2) 25 (vF x22), .sl (.buf id1 (x2.1.map Span.cs).length 2) 43 2 (s4.2.2.2.map Span.cs) lb3, .blk (b1 + 0) 25 (vF f)]) (fun y9 x e σ => ∃ (w21 : PV) (lb4 : Bool), x = .exit 0 ∧ ZA e [(1, (.v (.int .i8 at'))), (2, (.ptr (b1 + 0) 4 0)), (5, (.buf id1 (x2.1.map Span.cs).length 2)), (8, (.ptr (b28 + 2) 4 0)), (9, w21), (10, (vb y9.1))] ∧ Hs σ [.sl w21 45 2 (y9.2.1.map Granule.cs) true, .blk (b28 + 2) 25 (vF x22), .sl (.buf id1 (x2.1.map Span.cs).length 2) 43 2 (y9.2.2.map Span.cs) lb4, .blk (b1 + 0) 25 (vF f)]) ⟨.nils, true, EI V, H⟩ ?_) ?_
 ·intro s4 e σ hI z h; obtain ⟨w20, lb3, he, H⟩ := hI; obtain ⟨e, rfl⟩ := he.ex; unfold Z6.s1 at h; refine .tR 1 V H fun b32 σ H => (.iV V (.nila H fun H => (.then ?_))); refine .wh h V ?_ ?_ <;> intro h
  ·refine .skip (.then ?_); obtain ⟨y10, hj10, h⟩ := bs h; refine .mono (Q := fun x e σ => ∃ (w22 : PV) (lb5 : Bool), x = .normal ∧ ZA e [(1, (.v (.int .i8 at'))), (2, (.ptr (b1 + 0) 4 0)), (5, (.buf id1 (x2.1.map Span.cs).length 2)), (8, (.ptr (b28 + 2) 4 0)), (9, w22), (10, (vb y10.1)), (66, (vl Granule.cs x22.Odd)), (67, (vi (x22.Odd.length : Int))), (68, (vi s4.2.1))] ∧ Hs σ [.sl w22 45 2 (y10.2.map Granule.cs) true, .blk (b28 + 2) 25 (vF x22), .sl (.buf id1 (x2.1.map Span.cs).length 2) 43 2 (s4.2.2.2.map Span.cs) lb5, .blk (b1 + 0) 25 (vF f)]) ?_ ?_
   ·replace h := hj10; refine .inBlock ?_; obtain ⟨y11, hj11, h⟩ := bs h; refine .mono (Q := fun x e σ => ∃ (w23 : PV) (lb6 : Bool), x = .normal ∧ ZA e [(1, (.v (.int .i8 at'))), (2, (.ptr (b1 + 0) 4 0)), (5, (.buf id1 (x2.1.map Span.cs).length 2)), (8, (.ptr (b28 + 2) 4 0)), (9, w23), (10, (vb y11.2)), (66, (vl Granule.cs x22.Odd)), (67, (vi (x22.Odd.length : Int))), (68, (vi s4.2.1))] ∧ Hs σ [.sl w23 45 2 (y11.1.map Granule.cs) true, .blk (b28 + 2) 25 (vF x22), .sl (.buf id1 (x2.1.map Span.cs).length 2) 43 2 (s4.2.2.2.map Span.cs) lb6, .blk (b1 + 0) 25 (vF f)]) ?_ ?_
    ·replace h := hj11; refine .tR 4 V H fun b33 σ H => ?_; obtain ⟨x23, q23, h⟩ := bs h; refine .jV q23 V (.qV [(.int .i64 x23.Index), (.sl (x23.Ticks.map Span.cs))] V (.Z0O (cs := [(vi 0), .nils]) H (by omega) (by omega) V V fun σ H => (.sV [(vi x23.Index), (vl Span.cs x23.Ticks)] H 0 V fun σ H => (.nila H fun H => (.then ?_))))); obtain ⟨y12, hj12, h⟩ := bs h; refine .mono (Q := fun x e σ => ∃ (w24 : PV) (lb7 : Bool), x = .normal ∧ ZA e [(1, (.v (.int .i8 at'))), (2, (.ptr (b1 + 0) 4 0)), (5, (.buf id1 (x2.1.map Span.cs).length 2)), (8, (.ptr (b28 + 2) 4 0)), (9, w24), (10, (vb y12.1)), (12, (.ptr (b33 + 2) 2 0)), (66, (vl Granule.cs x22.Odd)), (67, (vi (x22.Odd.length : Int))), (68, (vi s4.2.1))] ∧ Hs σ [.blk (b33 + 2) 45 [(vi x23.Index), (vl Span.cs x23.Ticks)], .sl w24 45 2 (y12.2.map Granule.cs) true, .blk (b28 + 2) 25 (vF x22), .sl (.buf id1 (x2.1.map Span.cs).length 2) 43 2 (s4.2.2.2.map Span.cs) lb7, .blk (b1 + 0) 25 (vF f)]) ?_ ?_
     ·replace h := hj12; refine .tR 9 V H fun b34 σ H => (.mV V (.tV V (.mV V ?_))); refine .md H 6 [(80, (vb ((!s4.1) && (decide (x23.Index ≥ (w64 at')))))), (1, (.v (.int .i8 at'))), (2, (.ptr (b1 + 0) 4 0)), (5, (.buf id1 (x2.1.map Span.cs).length 2)), (8, (.ptr (b28 + 2) 4 0)), (9, w20), (10, (vb s4.1)), (12, (.ptr (b33 + 2) 2 0)), (66, (vl Granule.cs x22.Odd)), (67, (vi (x22.Odd.length : Int))), (68, (vi s4.2.1))] [.blk (b33 + 2) 45 [(vi x23.Index), (vl Span.cs x23.Ticks)], .sl w20 45 2 (s4.2.2.1.map Granule.cs) true, .blk (b28 + 2) 25 (vF x22), .sl (.buf id1 (x2.1.map Span.cs).length 2) 43 2 (s4.2.2.2.map Span.cs) lb3, .blk (b1 + 0) 25 (vF f)] V ?_ fun e σ H => ?_
      ·refine .split V V ?_ ?_ <;> intro hc17
       ·refine .fV H 0 V (.lV H 0 V (.mV V (.wt V V (.conv (m := at') V V V V (.iV V (.kT V (.nil ?_))))))); exact ⟨⟨Z2W hc17, V, V, V, V, V, V, V, V, V, V, U⟩, H.wk (by omega)⟩
       ·refine .ps 5 V (.kF V (.nil ?_)); exact ⟨⟨Z2X hc17, V, V, V, V, V, V, V, V, V, V, U⟩, H.wk (by omega)⟩
      refine .nila H fun H => ?_; refine .wh h V ?_ ?_ <;> intro h
      ·refine .ZM 9 V H fun b35 σ H => (.m1 w20 V V (.mV V (.conv (m := at') V V V V (.mB V (.bV [(vi (w64 at')), (.buf id1 (x2.1.map Span.cs).length 2)] V (.buildSF (sz := 2) ([(Granule.mk (w64 at') s4.2.2.2)].map Granule.cs) H (by omega) (by omega) V V (.exp (.a (.cons (.v _) (.cons (.s 3 V) .nil))) .nil) V V V V V V V nofun fun σ H => ?_)))))); obtain ⟨x24, q24, h⟩ := bs h; refine .Z17 (c := Granule.cs) (v := w20) (w := (.buf (b35 + 5) 1 2)) (xs := s4.2.2.1) (ys := [(Granule.mk (w64 at') s4.2.2.2)]) H (by omega) (by omega) 2 V V V (.s 0 V) q24 V V V V V nofun V fun w25 σ H => (.a1 w25 V V (.aV V (.nila H fun H => ?_))); obtain rfl := sj h; exact ⟨w25, false, V, EI V, (H.erase 0)⟩
      refine .skip ?_; obtain rfl := sj h; exact ⟨w20, lb3, V, EI V, H⟩
     ·rintro x e σ ⟨w26, lb8, rfl, he, H⟩; obtain ⟨e, rfl⟩ := he.ex; refine .tR 5 V H fun b36 σ H => (.fV H 0 V (.lV H 0 V (.mV V (.conv (m := at') V V V V (.iV V (.nila H fun H => ?_)))))); refine .wh h V ?_ ?_ <;> intro h
      ·refine .ZM 5 V H fun b37 σ H => (.m1 w26 V V (.LV [(vi x23.Index), (vl Span.cs x23.Ticks)] H 0 V (.Z2R (sz := 2) ([x23].map Granule.cs) H (by omega) (by omega) V V V V V V V V V fun σ H => ?_))); obtain ⟨x25, q25, h⟩ := bs h; refine .Z17 (c := Granule.cs) (v := w26) (w := (.buf (b37 + 2) 1 2)) (xs := y12.2) (ys := [x23]) H (by omega) (by omega) 2 V V V (.s 0 V) q25 V V V V V nofun V fun w27 σ H => (.a1 w27 V V (.nila H fun H => ?_)); obtain rfl := sj h; exact ⟨w27, lb8, V, EI V, ((H.erase 1).erase 0)⟩
      refine .skip ?_; obtain rfl := sj h; exact ⟨w26, lb8, V, EI V, (H.erase 0)⟩
    ·rintro x e σ ⟨w28, lb9, rfl, he, H⟩; obtain ⟨e, rfl⟩ := he.ex; obtain rfl := sj h; exact ⟨w28, lb9, V, EI V, H⟩
   ·rintro x e σ ⟨w29, lb10, rfl, he, H⟩; obtain ⟨e, rfl⟩ := he.ex; refine .ZM 2 V H fun b38 σ H => (.iV V (.mV V (.nila H fun H => ?_))); obtain rfl := sj h; exact ⟨V, w29, lb10, EI V, H⟩
  refine .exit ?_; obtain rfl := sj h; exact ⟨nofun, ⟨w20, lb3, V, EI V, H⟩⟩
 ·rintro x e σ ⟨w30, lb11, rfl, he, H⟩; obtain ⟨e, rfl⟩ := he.ex; refine .then ?_; obtain ⟨y13, hj13, h⟩ := bs h; refine .mono (Q := fun x e σ => ∃ (w31 : PV), x = .normal ∧ ZA e [(2, (.ptr (b1 + 0) 4 0)), (8, (.ptr (b28 + 2) 4 0)), (9, w31)] ∧ Hs σ [.sl w31 45 2 (y13.map Granule.cs) true, .blk (b28 + 2) 25 (vF x22), .blk (b1 + 0) 25 (vF f)]) ?_ ?_
  ·replace h := hj13; refine .tR 2 V H fun b39 σ H => (.mV V (.tV V (.nila H fun H => ?_))); refine .wh h V ?_ ?_ <;> intro h
   ·refine .ZM 8 V H fun b40 σ H => (.m1 w30 V V (.mV V (.conv (m := at') V V V V (.mB V (.bV [(vi (w64 at')), (.buf id1 (x2.1.map Span.cs).length 2)] V (.buildSF (sz := 2) ([(Granule.mk (w64 at') y9.2.2)].map Granule.cs) H (by omega) (by omega) V V (.exp (.a (.cons (.v _) (.cons (.s 2 V) .nil))) .nil) V V V V V V V nofun fun σ H => ?_)))))); obtain ⟨x26, q26, h⟩ := bs h; refine .Z17 (c := Granule.cs) (v := w30) (w := (.buf (b40 + 5) 1 2)) (xs := y9.2.1) (ys := [(Granule.mk (w64 at') y9.2.2)]) H (by omega) (by omega) 1 V V V (.s 0 V) q26 V V V V V nofun V fun w32 σ H => (.a1 w32 V V (.nila H fun H => ?_)); obtain rfl := sj h; exact ⟨w32, V, EI V, ((H.erase 3).erase 0)⟩
   refine .skip ?_; obtain rfl := sj h; exact ⟨w30, V, EI V, (H.erase 2)⟩
  ·rintro x e σ ⟨w33, rfl, he, H⟩; obtain ⟨e, rfl⟩ := he.ex; refine .tR 3 V H fun b41 σ H => (.m1 w33 V V (.fV H 1 V (.Z5F (v := w33) (ys := [w33]) (cells' := [(vi x22.Period), (vi x22.Count), (vl (cL Span.cs) x22.Core), w33]) H 1 V V V V (H.slCells (k := 0) V) V V V V nofun fun σ H => (.nila H fun H => (.then (.tR 3 V H fun b42 σ H => (.LV [(vi x22.Period), (vi x22.Count), (vl (cL Span.cs) x22.Core), w33] H 1 V ?_))))))); obtain ⟨x27, q27, h⟩ := bs h; refine .Z1X (xs := [(.agg [(vi x22.Period), (vi x22.Count), (vl (cL Span.cs) x22.Core), w33])]) (ys := [(.agg (vs (Form.cs (Form.mk x22.Period x22.Count x22.Core y13))))]) H V (.cons (.a (.cons (.v _) (.cons (.v _) (.cons (.v _) (.cons (.s 0 V) .nil))))) .nil) (Z3E q27) V V nofun V fun σ H => (.iV V (.nila H fun H => ?_)); refine .wh h V ?_ ?_ <;> intro h
   ·refine .tR 2 V H fun b43 σ H => (.cV (Z0F V) V (.aV V (.nila H fun H => (.ret ?_)))); obtain rfl := sj h; exact Ends.eR V
   refine .skip (.then (.Z1B 33 V (by kernel_rfl) H fun b44 σ H B44 => (.Z0v (cs := (vF f)) H 2 V V V V V V V (fun _ => .inl ⟨B44 2 _ V _ V, nofun, (fun _ => by kernel_rfl)⟩) V (.Z0v (cs := [(vi x22.Period), (vi x22.Count), (vl (cL Span.cs) x22.Core), w33]) H 1 V V V V V V V (fun _ => .inl ⟨B44 1 _ V _ V, nofun, (fun _ => by kernel_rfl)⟩) V ?_)))); obtain ⟨x28, q28, h⟩ := bs h; refine .Z1X (xs := [(.agg (vF f)), (.agg [(vi x22.Period), (vi x22.Count), (vl (cL Span.cs) x22.Core), w33])]) (ys := [(.agg (vs (Form.cs f))), (.agg (vs (Form.cs (Form.mk x22.Period x22.Count x22.Core y13))))]) H V (.cons (.p V) (.cons (.a (.cons (.v _) (.cons (.v _) (.cons (.v _) (.cons (.s 0 V) .nil))))) .nil)) (Z19 q28) V V (fun _ => by kernel_rfl) V fun σ H => (.tV V (.mV V ?_)); obtain ⟨y14, hj14, h⟩ := bs h; refine .md H 7 [(124, (vb y14)), (8, (.ptr (b28 + 2) 4 0))] [.sl w33 45 2 (y13.map Granule.cs) false, .blk (b28 + 2) 25 [(vi x22.Period), (vi x22.Count), (vl (cL Span.cs) x22.Core), w33]] V ?_ fun e σ H => ?_
   ·refine .sp hj14 V ?_ ?_ <;> intro h
    ·refine .wt V V (.Z0v (cs := (vF f)) H 2 V V V V V V V (fun _ => .inl ⟨B44 2 _ V _ V, nofun, (fun _ => by kernel_rfl)⟩) V (.wt V V ?_)); obtain ⟨x29, q29, h⟩ := bs h; refine .cV (Z0T q29) V (.wt V V (.Z0v (cs := [(vi x22.Period), (vi x22.Count), (vl (cL Span.cs) x22.Core), w33]) H 1 V V V V V V V (fun _ => .inl ⟨B44 1 _ V _ V, nofun, (fun _ => by kernel_rfl)⟩) V (.wt V V ?_))); obtain ⟨x30, q30, h⟩ := bs h; refine .Z1X (xs := [(.agg [(vi x22.Period), (vi x22.Count), (vl (cL Span.cs) x22.Core), w33])]) (ys := [(.agg (vs (Form.cs (Form.mk x22.Period x22.Count x22.Core y13))))]) H V (.cons (.a (.cons (.v _) (.cons (.v _) (.cons (.v _) (.cons (.s 0 V) .nil))))) .nil) (Z0T q30) V V (fun _ => by kernel_rfl) V fun σ H => (.wt V V ?_); obtain ⟨x31, q31, h⟩ := bs h; refine .cV (Z0P q31) V (.tV V (.kT V (.nil ?_))); obtain rfl := sj h; exact ⟨EI V, (H.erase 2).wk (by omega)⟩
    refine .ps 6 V (.kF V (.nil ?_)); obtain rfl := sj h; exact ⟨EI V, (H.erase 2).wk (by omega)⟩
   refine .mV V ?_; obtain ⟨y15, hj15, h⟩ := bs h; refine .md H 4 [(129, (vb y15)), (8, (.ptr (b28 + 2) 4 0))] [.sl w33 45 2 (y13.map Granule.cs) false, .blk (b28 + 2) 25 [(vi x22.Period), (vi x22.Count), (vl (cL Span.cs) x22.Core), w33]] V ?_ fun e σ H => ?_
   ·refine .sp hj15 V ?_ ?_ <;> intro h
    ·refine .wt V V (.Z0v (cs := [(vi x22.Period), (vi x22.Count), (vl (cL Span.cs) x22.Core), w33]) H 1 V V V V V V V (fun _ => .inl ⟨B44 1 _ V _ V, nofun, (fun _ => by kernel_rfl)⟩) V (.wt V V (.Z0v (cs := [(vi x22.Period), (vi x22.Count), (vl (cL Span.cs) x22.Core), w33]) H 1 V V V V V V V (fun _ => .inl ⟨B44 1 _ V _ V, nofun, (fun _ => by kernel_rfl)⟩) V (.wt V V ?_)))); obtain ⟨x32, q32, h⟩ := bs h; refine .Z1X (xs := [(.agg [(vi x22.Period), (vi x22.Count), (vl (cL Span.cs) x22.Core), w33]), (.agg [(vi x22.Period), (vi x22.Count), (vl (cL Span.cs) x22.Core), w33])]) (ys := [(.agg (vs (Form.cs (Form.mk x22.Period x22.Count x22.Core y13)))), (.agg (vs (Form.cs (Form.mk x22.Period x22.Count x22.Core y13))))]) H V (.cons (.a (.cons (.v _) (.cons (.v _) (.cons (.v _) (.cons (.s 0 V) .nil))))) (.cons (.a (.cons (.v _) (.cons (.v _) (.cons (.v _) (.cons (.s 0 V) .nil))))) .nil)) (Z19 q32) V V (fun _ => by kernel_rfl) V fun σ H => (.kT V (.nil ?_)); obtain rfl := sj h; exact ⟨EI V, H.wk (by omega)⟩
    refine .ps 3 V (.kF V (.nil ?_)); obtain rfl := sj h; exact ⟨EI V, H.wk (by omega)⟩
   refine .mV V ?_; obtain ⟨y16, hj16, h⟩ := bs h; refine .md H 11 [(141, (vb y16))] [] V ?_ fun e σ H => ?_
   ·refine .sp hj16 V ?_ ?_ <;> intro h
    ·refine .wt V V (.Z0v (cs := [(vi x22.Period), (vi x22.Count), (vl (cL Span.cs) x22.Core), w33]) H 1 V V V V V V V (fun _ => .inl ⟨B44 1 _ V _ V, nofun, (fun _ => by kernel_rfl)⟩) V (.cV (Z0o V) V (.wt V V ?_))); obtain ⟨x33, q33, h⟩ := bs h; refine .callZS (xs := [(.agg [(vi x22.Period), (vi x22.Count), (vl (cL Span.cs) x22.Core), w33]), (.agg (vF ZB))]) (ys := [(.agg (vs (Form.cs (Form.mk x22.Period x22.Count x22.Core y13)))), (.agg (vs (Form.cs ZB)))]) H V (.cons (.a (.cons (.v _) (.cons (.v _) (.cons (.v _) (.cons (.s 0 V) .nil))))) (.cons (.p V) .nil)) (Z19 q33) V V (fun _ => by kernel_rfl) V (.tV V (.wt V V (.Z0v (cs := [(vi x22.Period), (vi x22.Count), (vl (cL Span.cs) x22.Core), w33]) H 1 V V V V V V V (fun _ => .inl ⟨B44 1 _ V _ V, nofun, (fun _ => by kernel_rfl)⟩) V (.wt V V ?_)))); obtain ⟨x34, q34, h⟩ := bs h; refine .callZS (xs := [(.agg [(vi x22.Period), (vi x22.Count), (vl (cL Span.cs) x22.Core), w33])]) (ys := [(.agg (vs (Form.cs (Form.mk x22.Period x22.Count x22.Core y13))))]) H V (.cons (.a (.cons (.v _) (.cons (.v _) (.cons (.v _) (.cons (.s 0 V) .nil))))) .nil) (Z0T q34) V V (fun _ => by kernel_rfl) V (.cV (Z0o V) V (.wt V V ?_)); obtain ⟨x35, q35, h⟩ := bs h; refine .cV (Z0P q35) V (.tV V (.wt V V (.eqB (b := (!x33)) (b' := (!x35)) V V V V (.kT V (.nil ?_))))); obtain rfl := sj h; exact ⟨EI V, ((H.erase 1).erase 0).wk (by omega)⟩
    refine .ps 10 V (.kF V (.nil ?_)); obtain rfl := sj h; exact ⟨EI V, ((H.erase 1).erase 0).wk (by omega)⟩
   refine .mV V ?_; refine .md H 2 [(144, (vb (y16 && ZE)))] [] V ?_ fun e σ H => ?_
   ·refine .split V V ?_ ?_ <;> intro hc25
    ·refine .cV (Z0F V) V (.kT V (.nil ?_)); exact ⟨⟨Z2W hc25, U⟩, H.wk (by omega)⟩
    ·refine .ps 1 V (.kF V (.nil ?_)); exact ⟨⟨Z2X hc25, U⟩, H.wk (by omega)⟩
   refine .aV V (.nila H fun H => (.ret ?_)); obtain rfl := sj h; exact Ends.eR V
end Go.Dn

namespace Go.Dn
open Go
theorem Z1o {S R : Type} {step : S → Option (S ⊕ R)} (I : S → Prop) (m : S → Nat) (post : R → Prop)
  (h : ∀ s, I s → (∃ s', step s = some (.inl s') ∧ I s' ∧ m s' < m s) ∨ (∃ r, step s = some (.inr r) ∧ post r)) : ∀ s, I s → ∃ r, loopO step s = some r ∧ post r := by
 have key : ∀ n s, m s = n → I s → ∃ r, loopO step s = some r ∧ post r := by
  intro n
  induction n using Nat.strongRecOn with
  | _ n ih =>
   intro s hm hI
   rcases h s hI with ⟨s', h1, h2, h3⟩ | ⟨r, h1, h2⟩
   ·obtain ⟨r, q1, q2⟩ := ih (m s') (by omega) s' rfl h2
    exact ⟨r, by rw [loopO_eq, h1]; exact q1, q2⟩
   ·exact ⟨r, by rw [loopO_eq, h1], h2⟩
 exact fun s hI => key _ s rfl hI
theorem Z0f {S R : Type} {step : S → Option (S ⊕ R)} (I : S → R → Prop) (m : S → Nat)
  (h : ∀ s r, I s r → (∃ s', step s = some (.inl s') ∧ I s' r ∧ m s' < m s) ∨ step s = some (.inr r)) {s : S} {r : R} (hI : I s r) : loopO step s = some r := by
 obtain ⟨r', h1, h2⟩ := Z1o (I := fun s => I s r) m (fun r' => r' = r) (fun s hs => by
  rcases h s r hs with ⟨s', h1, h2, h3⟩ | h1
  ·exact .inl ⟨s', h1, h2, h3⟩
  ·exact .inr ⟨r, h1, rfl⟩) s hI
 rw [h1, h2]
theorem Z3P (a : Int) : IntKind.i64.wrap a = (a + 9223372036854775808) % 18446744073709551616 - 9223372036854775808 := by
 simp [IntKind.wrap, IntKind.bits, IntKind.signed]
 split <;> omega
theorem Z4P (a : Int) : IntKind.u64.wrap a = a % 18446744073709551616 := by
 simp [IntKind.wrap, IntKind.bits, IntKind.signed]
theorem okI_i8 {x : Int} : okI .i8 x ↔ -128 ≤ x ∧ x ≤ 127 := Iff.rfl
theorem ZS {x : Int} (h : -9223372036854775808 ≤ x ∧ x ≤ 9223372036854775807) : w64 x = x := by
 unfold w64; rw [Z3P]; omega
theorem Z61 : maxLen = 9223372036854775807 := rfl
theorem Z35 : room = 140737488355328 := rfl
theorem at?_lt {α : Type} {l : List α} {i : Int} (h0 : 0 ≤ i) (h : i < l.length) : at? l i = some (l[i.toNat]'(by omega)) := by
 unfold at?; rw [if_pos h0, Y2]
theorem at?_nat {α : Type} {l : List α} {k : Nat} (h : k < l.length) : at? l (k : Int) = some l[k] := by
 rw [at?_lt (by omega) (by omega)]; rfl
theorem app?_ok {α : Type} {b : Nat} {l m : List α} (h : (l.length + m.length) * b ≤ room) : app? b l m = some (l ++ m) := if_pos h
theorem nz?_ok {b : Int} (h : b ≠ 0) : nz? b = some () := if_neg h
theorem beq_t {a b : Int} (h : a = b) : (a == b) = true := by simp [h]
theorem beq_f {a b : Int} (h : a ≠ b) : (a == b) = false := by simp [h]
theorem bne_t {a b : Int} (h : a ≠ b) : (a != b) = true := by simp [h]
theorem Z3R {a b : Int} (h : a = b) : (a != b) = false := by simp [h]
theorem ibeq (a b : Int) : (a == b) = decide (a = b) := by by_cases h : a = b <;> simp [h]
theorem Zc {p : Prop} [Decidable p] (h : p) : decide p = true := by simp [h]
theorem Zt {p : Prop} [Decidable p] (h : ¬ p) : decide p = false := by simp [h]
theorem pickB {α : Type} (c : Bool) (a b : α) : (bif c then a else b) = if c = true then a else b := by cases c <;> rfl
theorem Z6H {α : Type} {l : List α} {good : Nat → α → Prop} (h : ¬ ∀ k x, l[k]? = some x → good k x) : ∃ (k : Nat) (x : α), l[k]? = some x ∧ ¬ good k x ∧ ∀ j y, j < k → l[j]? = some y → good j y := by
 have hex : ∃ k : Nat, ∃ x, l[k]? = some x ∧ ¬ good k x := by
  apply Classical.byContradiction;intro hn;exact h fun k x hk => Classical.byContradiction fun hg => hn ⟨k, x, hk, hg⟩
 obtain ⟨k, hk⟩ := hex
 induction k using Nat.strongRecOn with
 | _ k ih =>
  by_cases h : ∃ j, j < k ∧ ∃ x, l[j]? = some x ∧ ¬ good j x
  ·obtain ⟨j, hj, hx⟩ := h
   exact ih j hj hx
  ·obtain ⟨x, hx, hb⟩ := hk
   exact ⟨k, x, hx, hb, fun j y hj hy => Classical.byContradiction fun hg => h ⟨j, hj, y, hy, hg⟩⟩
theorem Z2I {α R : Type} {l : List α} {step : Int → Option (Int ⊕ R)} (good : Nat → α → Prop) {no yes : R}
  (hstep : ∀ (k : Nat) (x : α), l[k]? = some x → (∀ j y, j < k → l[j]? = some y → good j y) → (step (k : Int) = some (.inl ((k : Int) + 1)) ∧ good k x) ∨ (step (k : Int) = some (.inr no) ∧ ¬ good k x))
  (hend : step (l.length : Int) = some (.inr yes)) : (loopO step 0 = some yes ∧ ∀ k x, l[k]? = some x → good k x) ∨ (loopO step 0 = some no ∧ ¬ ∀ k x, l[k]? = some x → good k x) := by
 by_cases hall : ∀ k x, l[k]? = some x → good k x
 ·refine .inl ⟨?_, hall⟩;refine Z0f (I := fun (s : Int) r => r = yes ∧ ∃ k : Nat, s = k ∧ k ≤ l.length) (fun s => (l.length - s.toNat)) ?_ ⟨rfl, 0, rfl, Yd _⟩
  rintro s r ⟨rfl, k, rfl, hk⟩
  by_cases hlt : k < l.length
  ·rcases hstep k l[k] (Y2 hlt) (fun j y _ hy => hall j y hy) with ⟨h1, _⟩ | ⟨_, h2⟩
   ·exact .inl ⟨_, h1, ⟨rfl, k + 1, by push_cast; rfl, hlt⟩, by simp; omega⟩
   ·exact absurd (hall k _ (Y2 hlt)) h2
  ·have : k = l.length := by omega
   subst this;exact .inr hend
 ·refine .inr ⟨?_, hall⟩;obtain ⟨k0, x0, hx0, hb0, hgood⟩ := Z6H hall
  have hlt0 := (List.getElem?_eq_some_iff.1 hx0).1
  refine Z0f (I := fun (s : Int) r => r = no ∧ ∃ k : Nat, s = k ∧ k ≤ k0) (fun s => (l.length - s.toNat)) ?_ ⟨rfl, 0, rfl, Yd _⟩
  rintro s r ⟨rfl, k, rfl, hk⟩
  by_cases hlt : k < k0
  ·have hkl : k < l.length := by omega
   rcases hstep k l[k] (Y2 hkl) (fun j y hj hy => hgood j y (by omega) hy) with ⟨h1, _⟩ | ⟨_, h2⟩
   ·exact .inl ⟨_, h1, ⟨rfl, k + 1, by push_cast; rfl, hlt⟩, by simp; omega⟩
   ·exact absurd (hgood k _ hlt (Y2 hkl)) h2
  ·have : k = k0 := by omega
   subst this
   rcases hstep k x0 hx0 hgood with ⟨_, h2⟩ | ⟨h1, _⟩
   ·exact absurd h2 hb0
   ·exact .inr h1
theorem fold_loop {α A R : Type} {l : List α} {step : A × Int → Option ((A × Int) ⊕ R)} (f : A → Nat → α → A) (fin : A → R) (I : Nat → A → Prop) {a0 : A} (h0 : I 0 a0)
  (hgo : ∀ (k : Nat) (x : α) (a : A), l[k]? = some x → I k a → step (a, (k : Int)) = some (.inl (f a k x, (k : Int) + 1)) ∧ I (k + 1) (f a k x))
  (hend : ∀ a, I l.length a → step (a, (l.length : Int)) = some (.inr (fin a))) : ∃ a, loopO step (a0, 0) = some (fin a) ∧ I l.length a := by
 obtain ⟨r, h1, a, rfl, h2⟩ := Z1o (step := step) (I := fun s => ∃ (k : Nat) (a : A), s = (a, (k : Int)) ∧ k ≤ l.length ∧ I k a) (fun s => l.length - s.2.toNat) (fun r => ∃ a, r = fin a ∧ I l.length a) (by
  rintro s ⟨k, a, rfl, hk, hI⟩
  by_cases hlt : k < l.length
  ·obtain ⟨q1, q2⟩ := hgo k l[k] a (Y2 hlt) hI
   exact .inl ⟨_, q1, ⟨k + 1, _, by push_cast; rfl, hlt, q2⟩, by simp; omega⟩
  ·have : k = l.length := by omega
   subst this;exact .inr ⟨_, hend a hI, a, rfl, hI⟩) (a0, 0) ⟨0, a0, rfl, Yd _, h0⟩
 exact ⟨a, h1, h2⟩
end Go.Dn

namespace Go.Dn
open Go
def In64 (a : Int) : Prop := -9223372036854775808 ≤ a ∧ a ≤ 9223372036854775807
def Z4u (a : Int) : Prop := 0 ≤ a ∧ a ≤ 18446744073709551615
def fitS (a : Int) : Int × Int := if -9223372036854775808 ≤ a ∧ a ≤ 9223372036854775807 then (a, 0) else (0, 10)
theorem fitS_of {a : Int} (h : In64 a) : fitS a = (a, 0) := if_pos h
theorem fitS_not {a : Int} (h : ¬ In64 a) : fitS a = (0, 10) := if_neg h
theorem fit_or (x : Int) : (In64 x ∧ fitS x = (x, 0)) ∨ (¬ In64 x ∧ fitS x = (0, 10)) := by
 by_cases h : In64 x
 ·exact .inl ⟨h, fitS_of h⟩
 ·exact .inr ⟨h, fitS_not h⟩
theorem and32 (x : Int) (h : Z4u x) : (((BitVec.ofInt 64 x &&& BitVec.ofInt 64 4294967295).toNat : Nat) : Int) = x % 4294967296 := by
 obtain ⟨n, rfl⟩ := Int.eq_ofNat_of_zero_le h.1
 have hn : n < 2 ^ 64 := by have := h.2; omega
 have h1 : (BitVec.ofInt 64 (n : Int)).toNat = n := by simp [BitVec.toNat_ofInt]; omega
 have h2 : (BitVec.ofInt 64 4294967295).toNat = 2 ^ 32 - 1 := by decide
 rw [BitVec.toNat_and, h1, h2, Nat.and_two_pow_sub_one_eq_mod]
 omega
theorem mul64_fact {x y : Int} (hx : Z4u x) (hy : Z4u y) :
  (x / 4294967296 * (y / 4294967296) + (x / 4294967296 * (y % 4294967296) + x % 4294967296 * (y % 4294967296) / 4294967296) / 4294967296 +
   ((x / 4294967296 * (y % 4294967296) + x % 4294967296 * (y % 4294967296) / 4294967296) % 4294967296 + x % 4294967296 * (y / 4294967296)) / 4294967296) = x * y / 18446744073709551616 ∧
  0 ≤ x % 4294967296 * (y % 4294967296) ∧ x % 4294967296 * (y % 4294967296) ≤ 18446744065119617025 ∧
  0 ≤ x / 4294967296 * (y % 4294967296) ∧ x / 4294967296 * (y % 4294967296) ≤ 18446744065119617025 ∧
  0 ≤ x % 4294967296 * (y / 4294967296) ∧ x % 4294967296 * (y / 4294967296) ≤ 18446744065119617025 ∧
  0 ≤ x / 4294967296 * (y / 4294967296) ∧ x / 4294967296 * (y / 4294967296) ≤ 18446744065119617025 := by
 have b : ∀ {u v : Int}, 0 ≤ u → u ≤ 4294967295 → 0 ≤ v → v ≤ 4294967295 → 0 ≤ u * v ∧ u * v ≤ 18446744065119617025 := by
  intro u v h1 h2 h3 h4;exact ⟨Int.mul_nonneg h1 h3, Int.le_trans (Int.mul_le_mul h2 h4 h3 (by omega)) (by decide)⟩
 obtain ⟨hx1, hx2⟩ := hx
 obtain ⟨hy1, hy2⟩ := hy
 obtain ⟨a1, a2⟩ := b (u := x % 4294967296) (v := y % 4294967296) (by omega) (by omega) (by omega) (by omega)
 obtain ⟨b1, b2⟩ := b (u := x / 4294967296) (v := y % 4294967296) (by omega) (by omega) (by omega) (by omega)
 obtain ⟨c1, c2⟩ := b (u := x % 4294967296) (v := y / 4294967296) (by omega) (by omega) (by omega) (by omega)
 obtain ⟨d1, d2⟩ := b (u := x / 4294967296) (v := y / 4294967296) (by omega) (by omega) (by omega) (by omega)
 refine ⟨?_, a1, a2, b1, b2, c1, c2, d1, d2⟩
 have e : x * y = x / 4294967296 * (y / 4294967296) * 18446744073709551616 + (x / 4294967296 * (y % 4294967296) + x % 4294967296 * (y / 4294967296)) * 4294967296 + x % 4294967296 * (y % 4294967296) := by
  have ex : x = x / 4294967296 * 4294967296 + x % 4294967296 := by omega
  have ey : y = y / 4294967296 * 4294967296 + y % 4294967296 := by omega
  clear a1 a2 b1 b2 c1 c2 d1 d2 b hx1 hx2 hy1 hy2
  generalize x / 4294967296 = x1 at *
  generalize x % 4294967296 = x0 at *
  generalize y / 4294967296 = y1 at *
  generalize y % 4294967296 = y0 at *
  subst ex ey;simp only [Int.add_mul, Int.mul_add];have h1 : x1 * 4294967296 * (y1 * 4294967296) = x1 * y1 * 18446744073709551616 := by
   rw [Y0W, Int.mul_comm 4294967296, Y0W y1, ← Y0W]
   rfl
  have h2 : x1 * 4294967296 * y0 = x1 * y0 * 4294967296 := by rw [Y0W, Int.mul_comm 4294967296, ← Y0W]
  have h3 : x0 * (y1 * 4294967296) = x0 * y1 * 4294967296 := by rw [← Y0W]
  rw [h1, h2, h3];omega
 rw [e]
 generalize x / 4294967296 * (y / 4294967296) = d at *
 generalize x / 4294967296 * (y % 4294967296) = b' at *
 generalize x % 4294967296 * (y / 4294967296) = c at *
 generalize x % 4294967296 * (y % 4294967296) = a at *
 omega
theorem Z6d {a b : Int} (ha : In64 a) (hb : In64 b) : ZH a b = fitS (a + b) := by
 unfold In64 at ha hb
 unfold ZH fitS w64
 rw [Z3P]
 cases h : ((decide ((a + b + 9223372036854775808) % 18446744073709551616 - 9223372036854775808 > a) != decide (b > 0)) && b != 0)
 ·rw [cond_false];simp only [Y0G, bne_eq_false_iff_eq, decide_eq_decide] at h
  split <;> simp only [Y3, and_true] <;> omega
 ·rw [cond_true];simp only [Y9, bne_iff_ne, ne_eq, decide_eq_decide] at h
  split <;> simp only [Y3] <;> omega
theorem Z5P {a : Int} (h : In64 a) : Z0K a = a.natAbs := by
 unfold In64 at h
 unfold Z0K
 rw [pickB]
 simp only [decide_eq_true_eq, Z4P]
 split <;> omega
theorem inU_abs {a : Int} (h : In64 a) : Z4u a.natAbs := by unfold In64 at h; unfold Z4u; omega
theorem natAbs_prod (a b : Int) : (a.natAbs : Int) * b.natAbs = (a * b).natAbs := by rw [Int.natAbs_mul]; simp
theorem mul64_eq {x y : Int} (hx : Z4u x) (hy : Z4u y) : Z02 x y = (x * y / 18446744073709551616, x * y % 18446744073709551616) := by
 unfold Z02
 have hb : ∀ z : Int, z.fdiv (2 ^ 32) = z / 4294967296 := fun z => Y0O z (by decide)
 have hm : (IntKind.u64.bits) = 64 := rfl
 obtain ⟨h1, h2, h3, h4, h5, h6, h7, h8, h9⟩ := mul64_fact hx hy
 have hw : ∀ z : Int, 0 ≤ z → z ≤ 18446744073709551615 → IntKind.u64.wrap z = z := fun z q1 q2 => by rw [Z4P]; omega
 simp only [hb, iAnd]
 rw [hm, and32 x hx, and32 y hy]
 have x0 : 0 ≤ x % 4294967296 ∧ x % 4294967296 < 4294967296 := by omega
 have y0 : 0 ≤ y % 4294967296 ∧ y % 4294967296 < 4294967296 := by omega
 rw [hw (x % 4294967296) (by omega) (by omega), hw (y % 4294967296) (by omega) (by omega), hw _ h2 (by omega), hw _ h4 (by omega), hw _ h6 (by omega), hw _ h8 (by omega)]
 rw [hw (x / 4294967296 * (y % 4294967296) + x % 4294967296 * (y % 4294967296) / 4294967296) (by omega) (by omega)]
 rw [and32 _ ⟨by omega, by omega⟩]
 have t0 : 0 ≤ (x / 4294967296 * (y % 4294967296) + x % 4294967296 * (y % 4294967296) / 4294967296) % 4294967296 ∧ (x / 4294967296 * (y % 4294967296) + x % 4294967296 * (y % 4294967296) / 4294967296) % 4294967296 < 4294967296 := by omega
 rw [hw ((x / 4294967296 * (y % 4294967296) + x % 4294967296 * (y % 4294967296) / 4294967296) % 4294967296) (by omega) (by omega)]
 rw [hw ((x / 4294967296 * (y % 4294967296) + x % 4294967296 * (y % 4294967296) / 4294967296) % 4294967296 + x % 4294967296 * (y / 4294967296)) (by omega) (by omega)]
 rw [hw (x / 4294967296 * (y / 4294967296) + (x / 4294967296 * (y % 4294967296) + x % 4294967296 * (y % 4294967296) / 4294967296) / 4294967296) (by omega) (by omega)]
 rw [hw _ (by omega) (by omega), h1, Z4P]
theorem Z7T {n : Int} (m : Bool) (h : Z4u n) : Z1k n m = fitS (if m then -n else n) := by
 unfold Z4u at h
 unfold Z1k fitS w64
 rw [pickB, pickB, Z4P, Z3P, Z3P]
 cases m <;> simp only [Bool.true_and, Bool.false_and, Yx, Y0D, decide_eq_true_eq, YA, if_false, if_true]
 ·split
  ·rw [if_pos (by omega)]; simp only [Y3, and_true]; omega
  ·rw [if_neg (by omega)]
 ·split
  ·rw [if_pos (by omega)]; simp only [Y3, and_true]; omega
  ·rw [if_neg (by omega)]
theorem safe_Mul_eq {a b : Int} (ha : In64 a) (hb : In64 b) : Z2K a b = fitS (a * b) := by
 unfold Z2K
 rw [Z5P ha, Z5P hb, mul64_eq (inU_abs ha) (inU_abs hb), pickB]
 simp only [natAbs_prod]
 rw [Z7T _ (by unfold Z4u; omega)]
 by_cases h : ((a * b).natAbs : Int) / 18446744073709551616 = 0
 ·rw [if_neg (by simp [h])]
  have e : ((a * b).natAbs : Int) % 18446744073709551616 = (a * b).natAbs := by omega
  rw [e]
  show fitS _ = _
  refine congrArg fitS ?_
  by_cases h1 : a < 0 <;> by_cases h2 : b < 0 <;> simp only [h1, h2, decide_true, decide_false]
  ·have := Int.mul_nonneg_of_nonpos_of_nonpos (Y0a h1) (Y0a h2)
   simp; omega
  ·have := Int.mul_nonpos_of_nonpos_of_nonneg (Y0a h1) (Int.not_lt.1 h2)
   simp; omega
  ·have := Int.mul_nonpos_of_nonneg_of_nonpos (Int.not_lt.1 h1) (Y0a h2)
   simp; omega
  ·have := Int.mul_nonneg (Int.not_lt.1 h1) (Int.not_lt.1 h2)
   simp; omega
 ·rw [if_pos (by simp [h])]
  unfold fitS;rw [if_neg];omega
def Z4z (a b : Int) : Int × Int × Int := if b = 0 then (0, 0, 11) else if b = -1 ∧ a = -9223372036854775808 then (0, 0, 10) else (a.fdiv b, a.fmod b, 0)
theorem floor_up {a b : Int} (hb : b ≠ 0) (h1 : a.tmod b ≠ 0) (h2 : ¬(a.tmod b < 0 ↔ b < 0)) : a.fdiv b = a.tdiv b - 1 ∧ a.fmod b = a.tmod b + b := by
 have q1 := Yr a hb
 have q2 := Int.emod_lt a hb
 have hd : b ∣ a ↔ a % b = 0 := Int.dvd_iff_emod_eq_zero
 rw [Int.fdiv_eq_ediv, Int.fmod_eq_emod, Int.tdiv_eq_ediv]
 rw [Int.tmod_eq_emod] at h1 h2 ⊢
 simp only [hd] at h1 h2 ⊢
 rcases Int.lt_or_gt_of_ne hb with h | h
 ·rw [Int.sign_eq_neg_one_of_neg h]
  split at h1 <;> split <;> simp_all <;> omega
 ·rw [Int.sign_eq_one_of_pos h]
  split at h1 <;> split <;> simp_all <;> omega
theorem floor_same {a b : Int} (hb : b ≠ 0) (h : a.tmod b = 0 ∨ (a.tmod b < 0 ↔ b < 0)) : a.fdiv b = a.tdiv b ∧ a.fmod b = a.tmod b := by
 have q1 := Yr a hb
 have q2 := Int.emod_lt a hb
 have hd : b ∣ a ↔ a % b = 0 := Int.dvd_iff_emod_eq_zero
 rw [Int.fdiv_eq_ediv, Int.fmod_eq_emod, Int.tdiv_eq_ediv]
 rw [Int.tmod_eq_emod] at h ⊢
 simp only [hd] at h ⊢
 rcases Int.lt_or_gt_of_ne hb with hh | hh
 ·rw [Int.sign_eq_neg_one_of_neg hh]
  split at h <;> split <;> simp_all <;> omega
 ·rw [Int.sign_eq_one_of_pos hh]
  split at h <;> split <;> simp_all <;> omega
theorem tdiv_in {a b : Int} (ha : In64 a) (hb : b ≠ 0) (hn : ¬(b = -1 ∧ a = -9223372036854775808)) : In64 (a.tdiv b) := by
 have h : (a.tdiv b).natAbs = a.natAbs / b.natAbs := Int.natAbs_tdiv a b
 obtain ⟨h1, h2⟩ := ha
 by_cases hb1 : b = 1
 ·subst hb1; rw [Int.tdiv_one]; exact ⟨h1, h2⟩
 ·by_cases hb2 : b = -1
  ·have ha' : a ≠ -9223372036854775808 := fun e => hn ⟨hb2, e⟩
   have : a.natAbs / b.natAbs ≤ a.natAbs := Nat.div_le_self _ _
   unfold In64; omega
  ·have h3 : a.natAbs / b.natAbs ≤ a.natAbs / 2 := Nat.div_le_div_left (by omega) (by omega)
   unfold In64; omega
theorem tdiv_in1 {a b : Int} (ha : In64 a) (hb : b ≠ 0) (h1 : a.tmod b ≠ 0) : In64 (a.tdiv b - 1) := by
 have h : (a.tdiv b).natAbs = a.natAbs / b.natAbs := Int.natAbs_tdiv a b
 obtain ⟨h2, h3⟩ := ha
 by_cases hb1 : b = 1
 ·subst hb1; simp at h1
 ·by_cases hb2 : b = -1
  ·subst hb2; simp at h1
  ·have h3 : a.natAbs / b.natAbs ≤ a.natAbs / 2 := Nat.div_le_div_left (by omega) (by omega)
   unfold In64; omega
theorem wrap_in {a : Int} (h : In64 a) : IntKind.i64.wrap a = a := by rw [Z3P]; unfold In64 at h; omega
theorem fmod_in {a b : Int} (hb : In64 b) (hb0 : b ≠ 0) : In64 (a.fmod b) := by
 have q1 := Yr a hb0
 have q2 := Int.emod_lt a hb0
 rw [Int.fmod_eq_emod]
 unfold In64 at *
 split <;> omega
theorem floor_leaf1 {a b : Int} (ha : In64 a) (hb : In64 b) (h0 : b ≠ 0) (hn : ¬(b = -1 ∧ a = -9223372036854775808)) (h1 : a.tmod b ≠ 0) (h2 : ¬(a.tmod b < 0 ↔ b < 0)) :
  (IntKind.i64.wrap (IntKind.i64.wrap (a.tdiv b) - 1), IntKind.i64.wrap (a.tmod b + b), (0 : Int)) = Z4z a b := by
 obtain ⟨e1, e2⟩ := floor_up h0 h1 h2
 rw [Z4z, if_neg h0, if_neg hn, e1, e2, wrap_in (tdiv_in ha h0 hn), wrap_in (tdiv_in1 ha h0 h1), wrap_in (by rw [← e2]; exact fmod_in hb h0)]
theorem floor_leaf2 {a b : Int} (ha : In64 a) (hb : In64 b) (h0 : b ≠ 0) (hn : ¬(b = -1 ∧ a = -9223372036854775808)) (h : a.tmod b = 0 ∨ (a.tmod b < 0 ↔ b < 0)) :
  (IntKind.i64.wrap (a.tdiv b), a.tmod b, (0 : Int)) = Z4z a b := by
 obtain ⟨e1, e2⟩ := floor_same h0 h
 rw [Z4z, if_neg h0, if_neg hn, e1, e2, wrap_in (tdiv_in ha h0 hn)]
theorem Z4g {a b : Int} (ha : In64 a) (hb : In64 b) : Z1e a b = some (Z4z a b) := by
 unfold Z1e
 by_cases h0 : b = 0
 ·subst h0; rfl
 rw [beq_f h0, cond_false]
 by_cases hn : b = -1 ∧ a = -9223372036854775808
 ·obtain ⟨rfl, rfl⟩ := hn
  rfl
 have : (b == -1 && a == -9223372036854775808) = false := by
  simp only [Y0G, beq_eq_false_iff_ne]
  by_cases h : b = -1
  ·exact .inr fun e => hn ⟨h, e⟩
  ·exact .inl h
 rw [this, cond_false, nz?_ok h0]
 simp only [Y0, pickB, Y9, bne_iff_ne, ne_eq, decide_eq_decide]
 split
 ·rename_i h;simp only [Y0];exact congrArg some (floor_leaf1 ha hb h0 hn h.1 h.2)
 ·rename_i h;simp only [Y0];refine congrArg some (floor_leaf2 ha hb h0 hn ?_)
  by_cases h1 : a.tmod b = 0
  ·exact .inl h1
  ·exact .inr (Classical.byContradiction fun h2 => h ⟨h1, h2⟩)
theorem Z4L {a b : Int} (hb : 0 < b) : a.fdiv b = a / b ∧ a.fmod b = a % b := ⟨Y0O a (Y0a hb), Int.fmod_eq_emod_of_nonneg a (Y0a hb)⟩
theorem Z7N {a b : Int} (hb : 0 < b) : Z4z a b = (a / b, a % b, 0) := by
 unfold Z4z
 rw [if_neg (by omega), if_neg (by omega), (Z4L hb).1, (Z4L hb).2]
end Go.Dn

namespace Go.Dn
open Go
theorem Z08 : reachBytes = 140737488351232 := rfl
def ZF (t : Int) : Prop := -1099511627776 ≤ t ∧ t ≤ 1099511627776
instance (t : Int) : Decidable (ZF t) := by unfold ZF; infer_instance
theorem Z3G (t : Int) : Zn t = decide (ZF t) := by
 rw [Bool.eq_iff_iff, decide_eq_true_iff]; simp [Zn, ZF]
theorem Z3s (t : Int) : Z0h t = decide (ZF t) := by
 rw [Bool.eq_iff_iff, decide_eq_true_iff]; simp [Z0h, ZF]
theorem Z1R {t : Int} (h : ZF t) : In64 t := by unfold ZF at h; unfold In64; omega
structure RightL (l : List Span) : Prop where
 ok : ∀ (k : Nat) (s : Span), l[k]? = some s → ZF s.From ∧ ZF s.To ∧ s.From ≤ s.To
 gap : ∀ (k : Nat) (s t : Span), l[k]? = some s → l[k + 1]? = some t → s.To + 2 ≤ t.From
abbrev Len (l : List Span) : Prop := l.length * 16 ≤ reachBytes
abbrev Sp64 (l : List Span) : Prop := ∀ s ∈ l, In64 s.From ∧ In64 s.To
theorem Span.ok64 {s : Span} (h : s.ok) : In64 s.From ∧ In64 s.To := h
theorem okSpans {l : List Span} (h : okL 16 Span.ok l) : Len l ∧ Sp64 l := ⟨h.1, fun s hs => Span.ok64 (h.2 s hs)⟩
theorem RightL.sp64 {l : List Span} (h : RightL l) : Sp64 l := fun s hs => by
 obtain ⟨k, hk⟩ := YC hs
 have := h.ok k s hk
 exact ⟨Z1R this.1, Z1R this.2.1⟩
def Z2J (l : List Span) (k : Nat) (s : Span) : Prop := ZF s.From ∧ ZF s.To ∧ s.From ≤ s.To ∧ ∀ p, k ≠ 0 → l[k - 1]? = some p → p.To + 2 ≤ s.From
theorem Z3g {l : List Span} : RightL l ↔ ∀ k s, l[k]? = some s → Z2J l k s := by
 constructor
 ·intro h k s hk;obtain ⟨h1, h2, h3⟩ := h.ok k s hk
  refine ⟨h1, h2, h3, fun p h0 hp => ?_⟩
  have : k - 1 + 1 = k := by omega
  exact h.gap (k - 1) p s hp (by rw [this]; exact hk)
 ·intro h;refine ⟨fun k s hk => ⟨(h k s hk).1, (h k s hk).2.1, (h k s hk).2.2.1⟩, fun k s t hs ht => (h (k + 1) t ht).2.2.2 s (by omega) (by simpa using hs)⟩
theorem Z48 {l : List Span} (hl : Len l) (h64 : Sp64 l) : ∃ b, Zw l = some b ∧ (b = true ↔ RightL l) := by
 have hlen : l.length ≤ maxLen := by rw [Z61]; have := Z08; unfold Len at hl; omega
 have step : ∀ (k : Nat) (s : Span), l[k]? = some s → (∀ j y, j < k → l[j]? = some y → Z2J l j y) → ∃ b, Zw.s0 l (k : Int) = (if b = true then some (.inl ((k : Int) + 1)) else some (.inr (.ret false))) ∧ (b = true ↔ Z2J l k s) := by
  intro k s hk hprev;have hlt := (List.getElem?_eq_some_iff.1 hk).1
  have hat : at? l (k : Int) = some s := by rw [at?_nat hlt]; rw [Y2 hlt] at hk; exact hk
  unfold Zw.s0;rw [Zc (show (k : Int) < l.length by omega), cond_true, hat]
  simp only [Y0, Z3G];have hk1 : w64 ((k : Int) + 1) = k + 1 := ZS (by rw [Z61] at hlen; omega)
  by_cases h1 : ZF s.From ∧ ZF s.To ∧ s.From ≤ s.To
  ·have : (!decide (ZF s.From) || !decide (ZF s.To) || decide (s.From > s.To)) = false := by
    rw [Zc h1.1, Zc h1.2.1, Zt (by omega)]; rfl
   rw [this, cond_false]
   by_cases h0 : k = 0
   ·subst h0;refine ⟨true, by simp [w64]; rw [Z3P]; rfl, by simp [Z2J, h1]⟩
   ·have hk0 : (k : Int) > 0 := by omega
    have hpl : k - 1 < l.length := by omega
    have hp : at? l (w64 ((k : Int) - 1)) = some l[k - 1] := by
     rw [ZS (by rw [Z61] at hlen; omega), show ((k : Int) - 1) = ((k - 1 : Nat) : Int) by omega, at?_nat hpl]
    have hpg := hprev (k - 1) _ (by omega) (Y2 hpl)
    have hpt : w64 (l[k - 1].To + 2) = l[k - 1].To + 2 := by
     have := hpg.2.1; unfold ZF at this; exact ZS (by omega)
    rw [Zc hk0, cond_true, hp];simp only [Y0, hpt];refine ⟨!decide (s.From < l[k - 1].To + 2), ?_, ?_⟩
    ·cases hd : decide (s.From < l[k - 1].To + 2) <;> simp [hk1]
    ·simp only [YT, decide_eq_false_iff_not, Z2J]
     constructor
     ·intro h; refine ⟨h1.1, h1.2.1, h1.2.2, fun p _ hp' => ?_⟩
      rw [Y2 hpl] at hp'; cases hp'; omega
     ·intro h; have := h.2.2.2 _ h0 (Y2 hpl); omega
  ·refine ⟨false, ?_, by simp only [YA, Z2J, false_iff]; intro h; exact h1 ⟨h.1, h.2.1, h.2.2.1⟩⟩
   have : (!decide (ZF s.From) || !decide (ZF s.To) || decide (s.From > s.To)) = true := by
    by_cases a1 : ZF s.From
    ·by_cases a2 : ZF s.To
     ·have a3 : s.From > s.To := by
       apply Classical.byContradiction;intro h;exact h1 ⟨a1, a2, by omega⟩
      rw [Zc a3]; simp
     ·rw [Zt a2]; simp
    ·rw [Zt a1]; simp
   rw [this]; rfl
 unfold Zw
 rcases Z2I (l := l) (step := Zw.s0 l) (Z2J l) (no := .ret false) (yes := .go ()) (fun k x hk hp => by
   obtain ⟨b, h1, h2⟩ := step k x hk hp
   cases b
   ·exact .inr ⟨h1, fun h => by have := h2.2 h; cases this⟩
   ·exact .inl ⟨h1, h2.1 rfl⟩) (by
   unfold Zw.s0; rw [Zt (by omega)]; rfl) with ⟨h1, h2⟩ | ⟨h1, h2⟩
 ·rw [h1]; exact ⟨true, rfl, by simp [Z3g.2 h2]⟩
 ·rw [h1]; exact ⟨false, rfl, by simp only [YA, false_iff]; exact fun h => h2 (Z3g.1 h)⟩
def Ze (by_ : Int) (s : Span) : Span := ⟨s.From + by_, s.To + by_⟩
theorem Z4l {l : List Span} {b : Int} (hl : Len l) (h64 : Sp64 l) (hb : In64 b) :
  ((∀ s ∈ l, ZF (s.From + b) ∧ ZF (s.To + b)) ∧ Zp l b = some (l.map (Ze b), 0)) ∨ ((¬ ∀ s ∈ l, ZF (s.From + b) ∧ ZF (s.To + b)) ∧ Zp l b = some ([], 20)) := by
 have hlen : (l.length : Int) < 9223372036854775807 := by have := Z08; unfold Len at hl; omega
 have step : ∀ (k : Nat) (s : Span) (acc : List Span), l[k]? = some s → acc.length = k → Zp.s0 l b ((k : Int), acc) = if ZF (s.From + b) ∧ ZF (s.To + b) then some (.inl ((k : Int) + 1, acc ++ [Ze b s])) else some (.inr (.ret ([], 20))) := by
  intro k s acc hk hacc;have hlt := (List.getElem?_eq_some_iff.1 hk).1
  have hat : at? l (k : Int) = some s := by rw [at?_nat hlt]; rw [Y2 hlt] at hk; exact hk
  obtain ⟨f64, t64⟩ := h64 s (Y7 hk)
  unfold Zp.s0;rw [Zc (show (k : Int) < l.length by omega), cond_true, hat]
  simp only [Y0];rw [Z6d f64 hb, Z6d t64 hb, Z3G, Z3G];have hk1 : w64 ((k : Int) + 1) = k + 1 := ZS (by omega)
  have happ : ∀ x : Span, app? 16 acc [x] = some (acc ++ [x]) := fun x => app?_ok (by
   have := Z08; have := Z35; unfold Len at hl; simp; omega)
  rcases fit_or (s.From + b) with ⟨q1, q2⟩ | ⟨q1, q2⟩ <;> rcases fit_or (s.To + b) with ⟨q3, q4⟩ | ⟨q3, q4⟩ <;> rw [q2, q4]
  ·by_cases h : ZF (s.From + b) ∧ ZF (s.To + b)
   ·rw [if_pos h, Zc h.1, Zc h.2];simp [happ, hk1, Ze]
   ·rw [if_neg h];have : (!decide (ZF (s.From + b)) || !decide (ZF (s.To + b))) = true := by
     by_cases h1 : ZF (s.From + b)
     ·rw [Zt (fun h2 => h ⟨h1, h2⟩)]; simp
     ·rw [Zt h1]; simp
    simp only [bne_self_eq_false, Y0V, Bool.or_assoc] at this ⊢;rw [this]; rfl
  ·rw [if_neg (fun h => q3 (Z1R h.2))]; rfl
  ·rw [if_neg (fun h => q1 (Z1R h.1))]; rfl
  ·rw [if_neg (fun h => q1 (Z1R h.1))]; rfl
 have hend : ∀ acc, Zp.s0 l b ((l.length : Int), acc) = some (.inr (.go acc)) := fun acc => by unfold Zp.s0; rw [Zt (by omega)]; rfl
 unfold Zp
 by_cases hall : ∀ s ∈ l, ZF (s.From + b) ∧ ZF (s.To + b)
 ·refine .inl ⟨hall, ?_⟩;have : loopO (Zp.s0 l b) (0, []) = some (.go (l.map (Ze b))) := by
   refine Z0f (I := fun (s : Int × List Span) r => r = .go (l.map (Ze b)) ∧ ∃ k : Nat, k ≤ l.length ∧ s = ((k : Int), (l.take k).map (Ze b))) (fun s => l.length - s.1.toNat) ?_ ⟨rfl, 0, Yd _, by simp⟩
   rintro s r ⟨rfl, k, hk, rfl⟩
   by_cases hlt : k < l.length
   ·refine .inl ⟨_, by rw [step k l[k] _ (Y2 hlt) (by simp; omega), if_pos (hall _ (Yc hlt))], ⟨rfl, k + 1, hlt, ?_⟩, by simp; omega⟩
    rw [Y06 hlt, Y0F]; push_cast; rfl
   ·have : k = l.length := by omega
    subst this;rw [Yw];exact .inr (hend _)
  rw [this]; rfl
 ·refine .inr ⟨hall, ?_⟩;obtain ⟨k0, s0, hk0, hb0, hg⟩ := Z6H (l := l) (good := fun _ s => ZF (s.From + b) ∧ ZF (s.To + b)) (fun h => hall fun s hs => by
   obtain ⟨k, hk⟩ := YC hs; exact h k s hk)
  have hlt0 := (List.getElem?_eq_some_iff.1 hk0).1
  have : loopO (Zp.s0 l b) (0, []) = some (.ret ([], 20)) := by
   refine Z0f (I := fun (s : Int × List Span) r => r = .ret ([], 20) ∧ ∃ k : Nat, k ≤ k0 ∧ s.1 = (k : Int) ∧ s.2.length = k) (fun s => l.length - s.1.toNat) ?_ ⟨rfl, 0, Yd _, rfl, rfl⟩
   rintro ⟨i, acc⟩ r ⟨rfl, k, hk, h1, h2⟩;simp only at h1 h2;subst h1
   by_cases hlt : k < k0
   ·have hkl : k < l.length := by omega
    exact .inl ⟨_, by rw [step k l[k] _ (Y2 hkl) h2, if_pos (hg k _ hlt (Y2 hkl))], ⟨rfl, k + 1, hlt, by push_cast; rfl, by simp; omega⟩, by simp; omega⟩
   ·have : k = k0 := by omega
    subst this;exact .inr (by rw [step k s0 _ hk0 h2, if_neg hb0])
  rw [this]; rfl
theorem RightL.shift {l : List Span} {b : Int} (h : RightL l) (ht : ∀ s ∈ l, ZF (s.From + b) ∧ ZF (s.To + b)) : RightL (l.map (Ze b)) := by
 constructor
 ·intro k s hk;rw [YF, Y1] at hk;obtain ⟨s, hk, rfl⟩ := hk
  have h1 := h.ok k s hk
  have h2 := ht s (Y7 hk)
  exact ⟨h2.1, h2.2, by simp only [Ze]; omega⟩
 ·intro k s t hk hk1;rw [YF, Y1] at hk hk1;obtain ⟨s, hk, rfl⟩ := hk
  obtain ⟨t, hk1, rfl⟩ := hk1
  have := h.gap k s t hk hk1
  simp only [Ze]; omega
def Z1i (a b : List Span) : Prop := ∀ x, a.getLast? = some x → ∀ y, b.head? = some y → x.To < y.From
theorem Z2l {a b : List Span} (ha : Len a) : ∃ r, ZQ a b = some r ∧ (r = true ↔ Z1i a b) := by
 unfold ZQ
 cases a with
 | nil => exact ⟨true, by simp, by simp [Z1i]⟩
 | cons x a =>
  cases b with
  | nil => exact ⟨true, by simp, by simp [Z1i]⟩
  | cons y b =>
   have hl : ((x :: a).length : Int) < 9223372036854775807 := by have := Z08; unfold Len at ha; omega
   have e1 : (((x :: a).length : Int) == 0 || ((y :: b).length : Int) == 0) = false := by simp; omega
   have hlt : (x :: a).length - 1 < (x :: a).length := by simp
   have e2 : at? (x :: a) (w64 (((x :: a).length : Int) - 1)) = some (x :: a)[(x :: a).length - 1] := by
    rw [ZS (by simp at hl ⊢; omega), show (((x :: a).length : Int) - 1) = (((x :: a).length - 1 : Nat) : Int) by simp, at?_nat hlt]
   have e3 : at? (y :: b) 0 = some y := rfl
   rw [e1, cond_false, e2, e3];refine ⟨decide ((x :: a)[(x :: a).length - 1].To < y.From), rfl, ?_⟩;have hlast : (x :: a).getLast? = some (x :: a)[(x :: a).length - 1] := by rw [Y04, Y2 hlt]
   simp only [decide_eq_true_eq, Z1i, hlast, List.head?_cons, Y5];exact ⟨fun h x' hx y' hy => by rw [← hx, ← hy]; exact h, fun h => h _ rfl _ rfl⟩
theorem span_beq (x y : Span) : ((x.From == y.From) && ((x.To == y.To) && true)) = decide (x = y) := by
 obtain ⟨x1, x2⟩ := x
 obtain ⟨y1, y2⟩ := y
 by_cases h1 : x1 = y1 <;> by_cases h2 : x2 = y2 <;> simp [h1, h2]
theorem Z3L {a b : List Span} (ha : Len a) : ∃ r, Z0C a b = some r ∧ (r = true ↔ a = b) := by
 have hl : (a.length : Int) < 9223372036854775807 := by have := Z08; unfold Len at ha; omega
 unfold Z0C ZO
 by_cases hlen : a.length = b.length
 ·have e1 : ((a.length : Int) != (b.length : Int)) = false := Z3R (by omega)
  rw [e1, cond_false]
  rcases Z2I (l := a) (step := ZO.s0 a b) (fun k x => b[k]? = some x) (no := .ret false) (yes := .go ()) (fun k x hk hp => by
   have hlt := (List.getElem?_eq_some_iff.1 hk).1
   have hat : at? a (k : Int) = some x := by rw [at?_nat hlt]; rw [Y2 hlt] at hk; exact hk
   have hbt : at? b (k : Int) = some (b[k]'(by omega)) := at?_nat (by omega)
   unfold ZO.s0;rw [Zc (show (k : Int) < a.length by omega), cond_true, hat, hbt, ZS (show _ by omega)]
   simp only [Y0, span_beq];rw [Y2 (show k < b.length by omega)]
   by_cases h : x = b[k]'(by omega)
   ·rw [Zc h]; exact .inl ⟨rfl, congrArg some h.symm⟩
   ·rw [Zt h]; exact .inr ⟨rfl, fun e => h (Option.some.inj e).symm⟩) (by
   unfold ZO.s0; rw [Zt (by omega)]; rfl) with ⟨h1, h2⟩ | ⟨h1, h2⟩
  ·rw [h1];refine ⟨true, rfl, ⟨fun _ => Y0L fun k => ?_, fun _ => rfl⟩⟩
   by_cases hk : k < a.length
   ·rw [Y2 hk]; exact (h2 k _ (Y2 hk)).symm
   ·rw [YU (by omega), YU (by omega)]
  ·rw [h1];refine ⟨false, rfl, by simp only [YA, false_iff]; rintro rfl; exact h2 fun k x hk => hk⟩
 ·have e1 : ((a.length : Int) != (b.length : Int)) = true := bne_t (by omega)
  rw [e1, cond_true];exact ⟨false, rfl, by simp only [YA, false_iff]; rintro rfl; exact hlen rfl⟩
end Go.Dn

namespace Go.Dn
open Go
theorem Z7H (x y : Int) : Z16 x y = if x < y then -1 else if y < x then 1 else 0 := by
 unfold Z16 Z1A
 simp only [bne_self_eq_false, cond_false, pickB, decide_eq_true_eq, gt_iff_lt, YA, if_false]
def Inc (l : List Granule) : Prop := ∀ (j k : Nat) (a b : Granule), j < k → l[j]? = some a → l[k]? = some b → a.Index < b.Index
theorem bsearch_eq {l : List Granule} {t : Int} (hl : l.length * 32 ≤ reachBytes) (hs : Inc l) : ∃ p : Nat, p ≤ l.length ∧ (∀ (k : Nat) (g : Granule), l[k]? = some g → (k < p ↔ g.Index < t)) ∧
  Z2 l t (fun z0 z1 => some (Z28 z0 z1)) = some ((p : Int), decide (∃ g, l[p]? = some g ∧ g.Index = t)) := by
 have hlen : (l.length : Int) < 4398046511104 * 4 := by have := Z08; omega
 have hcmp : ∀ g i, Z28 g i = if g.Index < i then -1 else if i < g.Index then 1 else 0 := fun g i => Z7H _ _
 obtain ⟨r, h1, p, rfl, hp, hlow, hhigh⟩ := Z1o (step := Z2.s0 l t (fun z0 z1 => some (Z28 z0 z1)))
  (I := fun s => ∃ i j : Nat, s = ((i : Int), (j : Int)) ∧ i ≤ j ∧ j ≤ l.length ∧ (∀ k g, l[k]? = some g → k < i → g.Index < t) ∧ (∀ k g, l[k]? = some g → j ≤ k → t ≤ g.Index))
  (fun s => (s.2 - s.1).toNat)
  (fun r => ∃ p : Nat, r = (p : Int) ∧ p ≤ l.length ∧ (∀ k g, l[k]? = some g → k < p → g.Index < t) ∧ (∀ k g, l[k]? = some g → p ≤ k → t ≤ g.Index)) (by
  rintro s ⟨i, j, rfl, hij, hj, hlow, hhigh⟩;unfold Z2.s0
  by_cases hlt : i < j
  ·have hm : w64 ((IntKind.u64.wrap (w64 ((i : Int) + j))).fdiv (2 ^ 1)) = ((i + j) / 2 : Nat) := by
    rw [ZS (x := (i : Int) + j) (by omega), Z4P, Y0O _ (by decide), ZS (by omega)]
    omega
   have hml : (i + j) / 2 < l.length := by omega
   simp only [hm];rw [Zc (show (i : Int) < j by omega), cond_true, at?_nat hml]
   simp only [Y0, hcmp];refine .inl ?_;have hget := Y2 hml
   by_cases hc : l[(i + j) / 2].Index < t
   ·rw [if_pos hc];refine ⟨((((i + j) / 2 + 1 : Nat) : Int), (j : Int)), ?_, ⟨(i + j) / 2 + 1, j, rfl, by omega, hj, fun k g hk hki => ?_, hhigh⟩, by simp; omega⟩
    ·rw [ZS (by omega)]; simp
    ·rcases YD k ((i + j) / 2) with h | h
     ·have := hs k _ g _ h hk hget; omega
     ·have : k = (i + j) / 2 := by omega
      subst this; rw [hget] at hk; cases hk; exact hc
   ·rw [if_neg hc];refine ⟨((i : Int), (((i + j) / 2 : Nat) : Int)), ?_, ⟨i, (i + j) / 2, rfl, by omega, by omega, hlow, fun k g hk hki => ?_⟩, by simp; omega⟩
    ·split <;> simp
    ·rcases YD ((i + j) / 2) k with h | h
     ·have := hs _ k _ g h hget hk; omega
     ·have : k = (i + j) / 2 := by omega
      subst this; rw [hget] at hk; cases hk; omega
  ·refine .inr ⟨(i : Int), by rw [Zt (show ¬ (i : Int) < j by omega)]; rfl, i, rfl, by omega, hlow, fun k g hk hki => hhigh k g hk (by omega)⟩) (0, (l.length : Int)) ⟨0, l.length, rfl, Yd _, YB _, fun k g _ h => by omega, fun k g hk h => by
    rw [YU h] at hk; cases hk⟩
 refine ⟨p, hp, fun k g hk => ⟨fun h => hlow k g hk h, fun h => ?_⟩, ?_⟩
 ·rcases YD k p with h2 | h2
  ·exact h2
  ·have := hhigh k g hk h2; omega
 ·unfold Z2;rw [h1];simp only [Y0]
  by_cases hlt : p < l.length
  ·rw [Zc (show (p : Int) < l.length by omega), cond_true, at?_nat hlt]
   simp only [Y0, hcmp, Y5, Y3, true_and];have := hhigh p _ (Y2 hlt) (YB _)
   rw [Y2 hlt]
   by_cases he : l[p].Index = t
   ·rw [if_neg (by omega), if_neg (by omega)]; simp [he]
   ·rw [if_neg (by omega), if_pos (by omega)]; simp [he]
  ·rw [Zt (show ¬ (p : Int) < l.length by omega), cond_false]
   simp only [Y0, Y5, Y3, true_and];rw [YU (by omega)]
   simp
structure Shape (f : Form) : Prop where
 count : f.Count = f.Core.length
 zero : f.Count = 0 ↔ f.Period = 0
 per : 0 ≤ f.Period ∧ f.Period ≤ 1099511627776
 core : ∀ l ∈ f.Core, RightL l
 odd : ∀ g ∈ f.Odd, RightL g.Ticks ∧ ZF g.Index
 inc : Inc f.Odd
structure Lim (f : Form) : Prop where
 core : f.Core.length * 24 ≤ reachBytes
 sets : ∀ l ∈ f.Core, Len l ∧ Sp64 l
 odd : f.Odd.length * 32 ≤ reachBytes
 ticks : ∀ g ∈ f.Odd, In64 g.Index ∧ Len g.Ticks ∧ Sp64 g.Ticks
 count : In64 f.Count
 period : In64 f.Period
theorem Form.lim {f : Form} (h : f.ok) : Lim f := by
 obtain ⟨h1, h2, h3, h4⟩ := h
 exact ⟨h3.1, fun l hl => okSpans (h3.2 l hl), h4.1, fun g hg => ⟨(h4.2 g hg).1, okSpans (h4.2 g hg).2⟩, h2, h1⟩
theorem Z34 {f : Form} (hl : Lim f) (hs : Inc f.Odd) (i : Int) : ∃ p : Nat, p ≤ f.Odd.length ∧ (∀ (k : Nat) (g : Granule), f.Odd[k]? = some g → (k < p ↔ g.Index < i)) ∧ Z3a f i = some ((p : Int), decide (∃ g, f.Odd[p]? = some g ∧ g.Index = i)) := by
 obtain ⟨p, h1, h2, h3⟩ := bsearch_eq (t := i) hl.odd hs
 exact ⟨p, h1, h2, by unfold Z3a; rw [h3]; rfl⟩
def Z1p (f : Form) (i : Int) : Prop := ∃ g ∈ f.Odd, g.Index = i
def Z0z (f : Form) (i : Int) : List Span := f.Core.getD (i % f.Count).toNat []
def Z2O (f : Form) (i : Int) : Int := i / f.Count * f.Period
open Classical in
noncomputable def ZT (f : Form) (i : Int) : List Span := if h : Z1p f i then h.choose.Ticks else if f.Count = 0 then [] else (Z0z f i).map (Ze (Z2O f i))
theorem Inc.uniq {l : List Granule} (h : Inc l) {a b : Granule} (ha : a ∈ l) (hb : b ∈ l) (he : a.Index = b.Index) : a = b := by
 obtain ⟨j, hj⟩ := YC ha
 obtain ⟨k, hk⟩ := YC hb
 rcases Nat.lt_trichotomy j k with hjk | rfl | hjk
 ·have := h j k a b hjk hj hk; omega
 ·rw [hj] at hk; cases hk; rfl
 ·have := h k j b a hjk hk hj; omega
theorem Z0Y {f : Form} (hs : Inc f.Odd) {g : Granule} (hg : g ∈ f.Odd) : ZT f g.Index = g.Ticks := by
 have h : Z1p f g.Index := ⟨g, hg, rfl⟩
 unfold ZT
 rw [dif_pos h]
 rw [hs.uniq h.choose_spec.1 hg h.choose_spec.2]
theorem Z1F {f : Form} {i : Int} (h : ¬ Z1p f i) (h0 : f.Count = 0) : ZT f i = [] := by unfold ZT; rw [dif_neg h, if_pos h0]
theorem Z1I {f : Form} {i : Int} (h : ¬ Z1p f i) (h0 : f.Count ≠ 0) : ZT f i = (Z0z f i).map (Ze (Z2O f i)) := by unfold ZT; rw [dif_neg h, if_neg h0]
theorem Z5a {f : Form} (hs : Shape f) (h0 : f.Count ≠ 0) : 0 < f.Count := by have := hs.count; omega
theorem Z14 {f : Form} (hs : Shape f) (h0 : f.Count ≠ 0) (i : Int) : at? f.Core (i % f.Count) = some (Z0z f i) ∧ Z0z f i ∈ f.Core := by
 have hp := Z5a hs h0
 have h1 := Yr i h0
 have h2 := Y0E i hp
 have h3 : (i % f.Count).toNat < f.Core.length := by have := hs.count; omega
 unfold Z0z
 rw [at?_lt h1 (by have := hs.count; omega), YS, Y2 h3]
 exact ⟨rfl, Yc h3⟩
theorem Z4q {f : Form} (hl : Lim f) (hs : Shape f) {g : Granule} (hg : g ∈ f.Odd) : Z1j f g.Index = some (g.Ticks, 0, 0) := by
 obtain ⟨p, h1, h2, h3⟩ := Z34 hl hs.inc g.Index
 obtain ⟨k, hk⟩ := YC hg
 have hkl := (List.getElem?_eq_some_iff.1 hk).1
 have hpk : p ≤ k := by
  rcases YD k p with h | h
  ·have := (h2 k g hk).1 h; omega
  ·exact h
 have hpl : p < f.Odd.length := by omega
 have hpg := h2 p _ (Y2 hpl)
 have : p = k := by
  rcases YD p k with h | h
  ·have := hs.inc p k _ g h (Y2 hpl) hk
   exact absurd (hpg.2 this) (Nat.lt_irrefl _)
  ·omega
 subst this
 unfold Z1j
 rw [h3]
 simp only [Y0]
 rw [Zc ⟨g, hk, rfl⟩, cond_true, at?_nat hpl]
 rw [Y2 hpl] at hk
 cases hk; rfl
theorem Z43 {f : Form} (hl : Lim f) (hs : Shape f) {i : Int} (hi : In64 i) (ho : ¬ Z1p f i) : Z1j f i = if f.Count = 0 then some ([], 0, 0) else some (Z0z f i, (fitS (Z2O f i)).1, (fitS (Z2O f i)).2) := by
 obtain ⟨p, h1, h2, h3⟩ := Z34 hl hs.inc i
 unfold Z1j
 rw [h3]
 simp only [Y0]
 rw [Zt (by rintro ⟨g, hg, he⟩; exact ho ⟨g, Y7 hg, he⟩), cond_false]
 by_cases h0 : f.Count = 0
 ·rw [beq_t h0, cond_true, if_pos h0]
 ·rw [beq_f h0, cond_false, if_neg h0, Z4g hi hl.count, Z7N (Z5a hs h0)];simp only [Y0];rw [(Z14 hs h0 i).1];simp only [Y0];have hq : In64 (i / f.Count) := by
   have hp := Z5a hs h0
   unfold In64 at hi ⊢
   constructor
   ·have : -9223372036854775808 ≤ i / f.Count := by
     rw [Int.le_ediv_iff_mul_le hp];have : (-9223372036854775808) * f.Count ≤ -9223372036854775808 := by
      have : (-9223372036854775808) * f.Count ≤ (-9223372036854775808) * 1 := Int.mul_le_mul_of_nonpos_left (by omega) (by omega)
      omega
     omega
    exact this
   ·have : i / f.Count ≤ 9223372036854775807 := by
     rcases Int.lt_or_le i 0 with h | h
     ·have : i / f.Count < 0 := Int.ediv_neg_of_neg_of_pos h hp
      omega
     ·have := Int.ediv_le_self f.Count h
      omega
    exact this
  rw [safe_Mul_eq hq hl.period]
  rfl
def fits (f : Form) (i : Int) : Prop := ∀ s ∈ ZT f i, ZF s.From ∧ ZF s.To
theorem Z4v (l : List Span) : l.map (Ze 0) = l := by
 have : Ze 0 = id := by funext s; simp [Ze]
 rw [this, List.map_id]
theorem Z0y {f : Form} {i : Int} (ho : ¬ Z1p f i) (h0 : f.Count ≠ 0) : ZT f i = [] ↔ Z0z f i = [] := by rw [Z1I ho h0, List.map_eq_nil_iff]
open Classical in
theorem Z2y {f : Form} (hl : Lim f) (hs : Shape f) {i : Int} (hi : In64 i) : ZX f i = some (if ZF i ∧ fits f i then (ZT f i, 0) else ([], 20)) := by
 unfold ZX
 rw [Z3s]
 by_cases ht : ZF i
 ·rw [Zc ht, Yx, cond_false]
  by_cases ho : Z1p f i
  ·obtain ⟨g, hg, rfl⟩ := ho
   have hset := Z0Y hs.inc hg
   have hr := (hs.odd g hg).1
   have hf : fits f g.Index := by
    intro s hsm;rw [hset] at hsm;obtain ⟨k, hk⟩ := YC hsm
    exact ⟨(hr.ok k s hk).1, (hr.ok k s hk).2.1⟩
   rw [Z4q hl hs hg, if_pos ⟨ht, hf⟩, hset];simp only [Y0]
   by_cases hn : g.Ticks = []
   ·rw [hn]; rfl
   ·have : ((g.Ticks.length : Int) == 0) = false := beq_f (by have := List.length_pos_iff.2 hn; omega)
    rw [this, cond_false];simp only [bne_self_eq_false, cond_false]
    rcases Z4l (b := 0) (hl.ticks g hg).2.1 hr.sp64 ⟨by decide, by decide⟩ with ⟨_, h2⟩ | ⟨h1, _⟩
    ·rw [h2, Z4v]; rfl
    ·refine absurd (fun s hsm => ?_) h1
     rw [← hset] at hsm
     simpa using hf s hsm
  ·rw [Z43 hl hs hi ho]
   by_cases h0 : f.Count = 0
   ·rw [if_pos h0, if_pos ⟨ht, by intro s hsm; rw [Z1F ho h0] at hsm; cases hsm⟩, Z1F ho h0]; rfl
   ·rw [if_neg h0];simp only [Y0]
    by_cases hn : Z0z f i = []
    ·rw [if_pos ⟨ht, by intro s hsm; rw [(Z0y ho h0).2 hn] at hsm; cases hsm⟩, (Z0y ho h0).2 hn, hn]; rfl
    ·have : (((Z0z f i).length : Int) == 0) = false := beq_f (by have := List.length_pos_iff.2 hn; omega)
     rw [this, cond_false];have hmem := (Z14 hs h0 i).2
     have hr := hs.core _ hmem
     have hfe : fits f i ↔ ∀ s ∈ Z0z f i, ZF (s.From + Z2O f i) ∧ ZF (s.To + Z2O f i) := by
      unfold fits; rw [Z1I ho h0]
      constructor
      ·intro h s hsm; exact h (Ze (Z2O f i) s) (List.mem_map.2 ⟨s, hsm, rfl⟩)
      ·intro h s hsm;obtain ⟨s, hsm', rfl⟩ := List.mem_map.1 hsm
       exact h s hsm'
     rcases fit_or (Z2O f i) with ⟨q1, q2⟩ | ⟨q1, q2⟩ <;> rw [q2]
     ·simp only [bne_self_eq_false, cond_false]
      rcases Z4l (b := Z2O f i) (hl.sets _ hmem).1 hr.sp64 q1 with ⟨h1, h2⟩ | ⟨h1, h2⟩
      ·rw [h2, if_pos ⟨ht, hfe.2 h1⟩, Z1I ho h0]; rfl
      ·rw [h2, if_neg (fun h => h1 (hfe.1 h.2))]; rfl
     ·rw [if_neg]
      ·rfl
      ·rintro ⟨_, h⟩;have h := hfe.1 h
       obtain ⟨s, hsm⟩ := List.exists_mem_of_ne_nil _ hn
       have h1 := (h s hsm).1
       obtain ⟨k, hk⟩ := YC hsm
       have h2 := (hr.ok k s hk).1
       unfold ZF at h1 h2;exact q1 (by unfold In64; omega)
 ·rw [Zt ht, if_neg (fun h => ht h.1)]; rfl
open Classical in
theorem Z5e {f : Form} (hl : Lim f) (hs : Shape f) {i : Int} (hi : In64 i) : Z3Y f i = some (decide (ZT f i ≠ [])) := by
 unfold Z3Y
 by_cases ho : Z1p f i
 ·obtain ⟨g, hg, rfl⟩ := ho
  rw [Z4q hl hs hg, Z0Y hs.inc hg];simp only [Y0];cases g.Ticks <;> simp
 ·rw [Z43 hl hs hi ho]
  by_cases h0 : f.Count = 0
  ·rw [if_pos h0, Z1F ho h0]; rfl
  ·rw [if_neg h0];simp only [Y0, Ne, Z0y ho h0];cases Z0z f i <;> simp
end Go.Dn

namespace Go.Dn
open Go
theorem Z0l {α : Type} {l : List α} {b : Nat} (h : l.length * (b + 1) ≤ reachBytes) : (l.length : Int) < 4611686018427387904 := by
 have := Z08
 have : l.length ≤ l.length * (b + 1) := Nat.le_mul_of_pos_right _ (by omega)
 omega
theorem Z5y {α : Type} {l : List α} {k : Nat} {x : α} (h : l[k]? = some x) : at? l (k : Int) = some x ∧ (k : Int) < l.length := by
 have hlt := (List.getElem?_eq_some_iff.1 h).1
 rw [Y2 hlt] at h
 exact ⟨by rw [at?_nat hlt]; exact h, by omega⟩
theorem shape_core {f : Form} (hl : Lim f) : (loopO (Zf.s0 f) 0 = some (.go ()) ∧ ∀ l ∈ f.Core, RightL l) ∨ (loopO (Zf.s0 f) 0 = some (.ret false) ∧ ¬ ∀ l ∈ f.Core, RightL l) := by
 have hlen := Z0l (b := 23) hl.core
 rcases Z2I (l := f.Core) (step := Zf.s0 f) (fun _ x => RightL x) (no := .ret false) (yes := .go ()) (fun k x hk _ => by
   obtain ⟨h1, h2⟩ := Z5y hk
   obtain ⟨b, hb, hr⟩ := Z48 (hl.sets x (Y7 hk)).1 (hl.sets x (Y7 hk)).2
   unfold Zf.s0;rw [Zc h2, cond_true, h1];simp only [Y0, hb, ZS (show -9223372036854775808 ≤ (k : Int) + 1 ∧ (k : Int) + 1 ≤ 9223372036854775807 by omega)]
   cases b
   ·exact .inr ⟨rfl, fun h => by have := hr.2 h; cases this⟩
   ·exact .inl ⟨rfl, hr.1 rfl⟩) (by unfold Zf.s0; rw [Zt (by omega)]; rfl) with ⟨h1, h2⟩ | ⟨h1, h2⟩
 ·exact .inl ⟨h1, fun l hm => by obtain ⟨k, hk⟩ := YC hm; exact h2 k l hk⟩
 ·exact .inr ⟨h1, fun h => h2 fun k x hk => h x (Y7 hk)⟩
def goodOdd (f : Form) (k : Nat) (g : Granule) : Prop := RightL g.Ticks ∧ ZF g.Index ∧ ∀ p, k ≠ 0 → f.Odd[k - 1]? = some p → p.Index < g.Index
theorem shape_odd {f : Form} (hl : Lim f) : (loopO (Zf.s1 f) 0 = some (.go ()) ∧ ∀ k g, f.Odd[k]? = some g → goodOdd f k g) ∨ (loopO (Zf.s1 f) 0 = some (.ret false) ∧ ¬ ∀ k g, f.Odd[k]? = some g → goodOdd f k g) := by
 have hlen := Z0l (b := 31) hl.odd
 refine Z2I (l := f.Odd) (step := Zf.s1 f) (goodOdd f) (no := .ret false) (yes := .go ()) (fun k x hk _ => ?_) (by unfold Zf.s1; rw [Zt (by omega)]; rfl)
 obtain ⟨h1, h2⟩ := Z5y hk
 have hx := hl.ticks x (Y7 hk)
 obtain ⟨b, hb, hr⟩ := Z48 hx.2.1 hx.2.2
 unfold Zf.s1
 rw [Zc h2, cond_true, h1]
 simp only [Y0, hb, Z3s, ZS (show -9223372036854775808 ≤ (k : Int) + 1 ∧ (k : Int) + 1 ≤ 9223372036854775807 by omega)]
 by_cases hbt : b = true ∧ ZF x.Index
 ·rw [hbt.1, Zc hbt.2];simp only [Yx, Bool.or_self, cond_false]
  by_cases h0 : k = 0
  ·subst h0;exact .inl ⟨by simp, hr.1 hbt.1, hbt.2, fun p h => absurd rfl h⟩
  ·have hpl : k - 1 < f.Odd.length := by omega
   rw [Zc (show (k : Int) > 0 by omega), cond_true, ZS (by omega), show (k : Int) - 1 = ((k - 1 : Nat) : Int) by omega, at?_nat hpl]
   simp only [Y0]
   by_cases hc : x.Index ≤ f.Odd[k - 1].Index
   ·rw [Zc hc];refine .inr ⟨rfl, fun h => ?_⟩
    have := h.2.2 _ h0 (Y2 hpl); omega
   ·rw [Zt hc];refine .inl ⟨rfl, hr.1 hbt.1, hbt.2, fun p _ hp => ?_⟩
    rw [Y2 hpl] at hp; cases hp; omega
 ·have : (!b || !decide (ZF x.Index)) = true := by
   cases b
   ·rfl
   ·rw [Zt (fun h => hbt ⟨rfl, h⟩)]; rfl
  rw [this, cond_true];exact .inr ⟨rfl, fun h => hbt ⟨hr.2 h.1, h.2.1⟩⟩
theorem inc_of {f : Form} (h : ∀ k g, f.Odd[k]? = some g → goodOdd f k g) : Inc f.Odd := by
 intro j k a b hjk ha hb
 induction k generalizing b with
 | zero => omega
 | succ k ih =>
  have hkl := (List.getElem?_eq_some_iff.1 hb).1
  have h1 := (h (k + 1) b hb).2.2 f.Odd[k] (by omega) (by simp [Y2 (show k < f.Odd.length by omega)])
  rcases YD j k with h2 | h2
  ·have := ih _ h2 (Y2 (show k < f.Odd.length by omega)); omega
  ·have : j = k := by omega
   subst this;rw [Y2 (show j < f.Odd.length by omega)] at ha; cases ha; exact h1
theorem gran_shape_eq {f : Form} (hl : Lim f) : ∃ b, Zf f = some b ∧ (b = true ↔ Shape f) := by
 unfold Zf
 by_cases h1 : f.Count = f.Core.length ∧ (f.Count = 0 ↔ f.Period = 0) ∧ 0 ≤ f.Period ∧ f.Period ≤ 1099511627776
 ·have e : (f.Count != (f.Core.length : Int) || (f.Count == 0) != (f.Period == 0) || decide (f.Period < 0) || decide (f.Period > 1099511627776)) = false := by
   rw [Z3R h1.1, Zt (show ¬ f.Period < 0 by omega), Zt (show ¬ f.Period > 1099511627776 by omega)]
   simp only [Y0V, Bool.or_false, bne_eq_false_iff_eq, ibeq, decide_eq_decide];exact h1.2.1
  rw [e, cond_false]
  rcases shape_core hl with ⟨h2, h3⟩ | ⟨h2, h3⟩
  ·rw [h2];simp only [Y0, Jx.elim]
   rcases shape_odd hl with ⟨h4, h5⟩ | ⟨h4, h5⟩
   ·rw [h4];exact ⟨true, rfl, fun _ => ⟨h1.1, h1.2.1, h1.2.2, h3, fun g hg => by obtain ⟨k, hk⟩ := YC hg; exact ⟨(h5 k g hk).1, (h5 k g hk).2.1⟩, inc_of h5⟩, fun _ => rfl⟩
   ·rw [h4];refine ⟨false, rfl, fun h => (by cases h), fun h => absurd (fun k g hk => ⟨(h.odd g (Y7 hk)).1, (h.odd g (Y7 hk)).2, fun p h0 hp => h.inc (k - 1) k p g (by omega) hp hk⟩) h5⟩
  ·rw [h2];exact ⟨false, rfl, fun h => (by cases h), fun h => absurd h.core h3⟩
 ·have e : (f.Count != (f.Core.length : Int) || (f.Count == 0) != (f.Period == 0) || decide (f.Period < 0) || decide (f.Period > 1099511627776)) = true := by
   apply Classical.byContradiction;intro hn;simp only [Y02, Bool.or_eq_false_iff, bne_eq_false_iff_eq, decide_eq_false_iff_not, ibeq, decide_eq_decide] at hn;exact h1 ⟨hn.1.1.1, hn.1.1.2, by omega, by omega⟩
  rw [e, cond_true];exact ⟨false, rfl, fun h => (by cases h), fun h => absurd ⟨h.count, h.zero, h.per⟩ h1⟩
def fstT (l : List Span) : Int := (l.head?.map Span.From).getD 0
def lstT (l : List Span) : Int := (l.getLast?.map Span.To).getD 0
theorem Z7L {a b : List Span} (ha : a ≠ []) (hb : b ≠ []) : Z1i a b ↔ lstT a < fstT b := by
 unfold Z1i lstT fstT
 rw [Yy ha, Y00 hb]
 simp
theorem RightL.tail {s : Span} {l : List Span} (h : RightL (s :: l)) : RightL l :=
 ⟨fun k x hk => h.ok (k + 1) x hk, fun k x y hx hy => h.gap (k + 1) x y hx hy⟩
theorem Z3c {l : List Span} (h : RightL l) (hn : l ≠ []) : fstT l ≤ lstT l := by
 induction l with
 | nil => exact absurd rfl hn
 | cons s l ih =>
  have h0 := h.ok 0 s rfl
  cases l with
  | nil => simp [fstT, lstT]; exact h0.2.2
  | cons t l =>
   have h1 := h.gap 0 s t rfl rfl
   have h2 := ih h.tail (by simp)
   have e1 : lstT (s :: t :: l) = lstT (t :: l) := by simp [lstT]
   have e2 : fstT (t :: l) = t.From := rfl
   have e3 : fstT (s :: t :: l) = s.From := rfl
   rw [e1, e3]; rw [e2] at h2; omega
theorem lst_tick {l : List Span} (h : RightL l) (hn : l ≠ []) : ZF (lstT l) ∧ ZF (fstT l) := by
 have h1 : l.getLast? = some (l.getLast hn) := Yy hn
 have h2 : l.head? = some (l.head hn) := Y00 hn
 obtain ⟨j, hj⟩ := YC (List.getLast_mem hn)
 obtain ⟨k, hk⟩ := YC (List.head_mem hn)
 unfold lstT fstT
 rw [h1, h2]
 exact ⟨(h.ok j _ hj).2.1, (h.ok k _ hk).1⟩
def full (f : Form) : List (List Span) := f.Core.filter (fun l => decide (l.length > 0))
def Turns (f : Form) : Prop := (∀ (k : Nat) (a b : List Span), (full f)[k]? = some a → (full f)[k + 1]? = some b → lstT a < fstT b) ∧ ∀ a b, (full f).getLast? = some a → (full f).head? = some b → lstT a < fstT b + f.Period
theorem full_loop {f : Form} (hl : Lim f) : loopO (Z00.s0 f) (0, []) = some (full f) := by
 have hlen := Z0l (b := 23) hl.core
 refine Z0f (I := fun s r => r = full f ∧ ∃ k : Nat, k ≤ f.Core.length ∧ s = ((k : Int), (f.Core.take k).filter (fun l => decide (l.length > 0)))) (fun s => f.Core.length - s.1.toNat) ?_ ⟨rfl, 0, Yd _, by simp⟩
 rintro s r ⟨rfl, k, hk, rfl⟩
 unfold Z00.s0
 by_cases hlt : k < f.Core.length
 ·have htake : f.Core.take (k + 1) = f.Core.take k ++ [f.Core[k]] := Y06 hlt
  simp only;rw [Zc (show (k : Int) < f.Core.length by omega), cond_true, at?_nat hlt, ZS (by omega)]
  simp only [Y0];refine .inl ?_;have hfl : ((f.Core.take k).filter (fun l => decide (l.length > 0))).length ≤ k := YZ (Y0I _ _) (by rw [YG]; exact Nat.min_le_left _ _)
  by_cases hc : f.Core[k].length > 0
  ·rw [Zc (show ((f.Core[k].length : Int) > 0) by omega), cond_true, app?_ok (by have h1 := hl.core; rw [Z08] at h1; rw [Z35]; simp only [List.length_singleton]; omega)]
   exact ⟨_, rfl, ⟨trivial, k + 1, hlt, by rw [htake, List.filter_append]; simp [hc]⟩, by simp; omega⟩
  ·rw [Zt (show ¬ ((f.Core[k].length : Int) > 0) by omega), cond_false]
   exact ⟨_, rfl, ⟨trivial, k + 1, hlt, by rw [htake, List.filter_append]; simp [hc]⟩, by simp; omega⟩
 ·have : k = f.Core.length := by omega
  subst this;simp only;rw [Zt (show ¬ ((f.Core.length : Int) < f.Core.length) by omega), cond_false, Yw]
  exact .inr rfl
theorem gran_turns_eq {f : Form} (hl : Lim f) (hs : Shape f) : ∃ b, Z00 f = some b ∧ (b = true ↔ Turns f) := by
 have hlen := Z0l (b := 23) hl.core
 have hfl : (full f).length ≤ f.Core.length := Y0I _ _
 have hmem : ∀ x ∈ full f, x ∈ f.Core ∧ x ≠ [] := fun x hx => by
  have := List.mem_filter.1 hx
  exact ⟨this.1, by rintro rfl; simp at this⟩
 unfold Z00
 rw [full_loop hl]
 simp only [Y0]
 rcases Z2I (l := full f) (step := Z00.s1 f (full f)) (fun k a => ∀ b, (full f)[(k + 1) % (full f).length]? = some b → lstT a < fstT b + (if k + 1 = (full f).length then f.Period else 0)) (no := .ret false) (yes := .go ()) (fun k a hk _ => by
   obtain ⟨h1, h2⟩ := Z5y hk
   have hkl : k < (full f).length := by omega
   have hmod : (k + 1) % (full f).length < (full f).length := Nat.mod_lt _ (by omega)
   have hnext : at? (full f) ((((k + 1) % (full f).length : Nat) : Int)) = some (full f)[(k + 1) % (full f).length] := at?_nat hmod
   obtain ⟨ha1, ha2⟩ := hmem a (Y7 hk)
   obtain ⟨hb1, hb2⟩ := hmem _ (Yc hmod)
   have hra := hs.core a ha1
   have hrb := hs.core _ hb1
   have hal : a.length - 1 < a.length := by have := List.length_pos_iff.2 ha2; omega
   have hlast : at? a (w64 ((a.length : Int) - 1)) = some a[a.length - 1] := by
    have := Z0l (b := 15) (hl.sets a ha1).1
    rw [ZS (by omega), show (a.length : Int) - 1 = ((a.length - 1 : Nat) : Int) by omega, at?_nat hal]
   have hlt : lstT a = a[a.length - 1].To := by unfold lstT; rw [Y04, Y2 hal]; rfl
   unfold Z00.s1;rw [Zc h2, cond_true, h1, nz?_ok (by omega), ZS (x := (k : Int) + 1) (by omega)]
   have htm : ((k : Int) + 1).tmod ((full f).length : Int) = (((k + 1) % (full f).length : Nat) : Int) := by
    rw [Int.tmod_eq_emod_of_nonneg (by omega)]; push_cast; rfl
   simp only [Y0, htm, hnext, hlast];rw [Y2 hmod];generalize (full f)[(k + 1) % (full f).length] = b at *
   have hb0 : at? b 0 = some (b.head hb2) := by
    cases b with
    | nil => exact absurd rfl hb2
    | cons y b => rfl
   have hbf : fstT b = (b.head hb2).From := by unfold fstT; rw [Y00 hb2]; rfl
   have htick := (lst_tick hrb hb2).2
   unfold ZF at htick;have hper := hs.per
   by_cases hl1 : k + 1 = (full f).length
   ·have e : ((k : Int) + 1 == ((full f).length : Int)) = true := beq_t (by omega)
    rw [e, cond_true];simp only [Y0, hb0, ← hbf, ZS (show -9223372036854775808 ≤ fstT b + f.Period ∧ fstT b + f.Period ≤ 9223372036854775807 by omega), ← hlt, if_pos hl1]
    by_cases hc : lstT a ≥ fstT b + f.Period
    ·rw [Zc hc]; exact .inr ⟨rfl, fun h => by have := h b rfl; omega⟩
    ·rw [Zt hc]; exact .inl ⟨rfl, fun b' hb' => by cases hb'; omega⟩
   ·have e : ((k : Int) + 1 == ((full f).length : Int)) = false := beq_f (by omega)
    rw [e, cond_false];simp only [Y0, hb0, ← hbf, ZS (show -9223372036854775808 ≤ fstT b + 0 ∧ fstT b + 0 ≤ 9223372036854775807 by omega), ← hlt, if_neg hl1]
    by_cases hc : lstT a ≥ fstT b + 0
    ·rw [Zc hc]; exact .inr ⟨rfl, fun h => by have := h b rfl; omega⟩
    ·rw [Zt hc]; exact .inl ⟨rfl, fun b' hb' => by cases hb'; omega⟩) (by unfold Z00.s1; rw [Zt (by omega)]; rfl) with ⟨h1, h2⟩ | ⟨h1, h2⟩
 ·rw [h1];refine ⟨true, rfl, fun _ => ⟨fun k a b ha hb => ?_, fun a b ha hb => ?_⟩, fun _ => rfl⟩
  ·have hkl := (List.getElem?_eq_some_iff.1 hb).1
   have := h2 k a ha b (by rw [Nat.mod_eq_of_lt hkl]; exact hb)
   rw [if_neg (by omega)] at this; omega
  ·have hn : full f ≠ [] := by rintro e; rw [e] at ha; simp at ha
   have hpos := List.length_pos_iff.2 hn
   rw [Y04] at ha;have e1 : (full f).length - 1 + 1 = (full f).length := by omega
   have := h2 _ a ha b (by rw [e1, Nat.mod_self, ← List.head?_eq_getElem?]; exact hb)
   rw [if_pos e1] at this; exact this
 ·rw [h1];refine ⟨false, rfl, fun h => (by cases h), fun h => absurd (fun k a hk b hb => ?_) h2⟩
  have hkl := (List.getElem?_eq_some_iff.1 hk).1
  by_cases hl1 : k + 1 = (full f).length
  ·rw [if_pos hl1];rw [hl1, Nat.mod_self, ← List.head?_eq_getElem?] at hb;exact h.2 a b (by rw [Y04, ← hl1]; exact hk) hb
  ·rw [if_neg hl1];rw [Nat.mod_eq_of_lt (by omega)] at hb
   have := h.1 k a b hk hb; omega
end Go.Dn

namespace Go.Dn
open Go
theorem Z6s {l : List (List Span)} {p : List Span → Bool} (hl : l.length * 24 ≤ reachBytes) : ZR l (fun z => some (p z)) = some (decide (∃ x ∈ l, p x = true)) := by
 have hlen := Z0l (b := 23) hl
 unfold ZR ZC
 by_cases hall : ∀ (k : Nat) (x : List Span), l[k]? = some x → ¬ p x = true
 ·have : loopO (ZC.s0 l (fun z => some (p z))) 0 = some (.go ()) := by
   refine Z0f (I := fun (s : Int) r => r = .go () ∧ ∃ k : Nat, s = k ∧ k ≤ l.length) (fun s => l.length - s.toNat) ?_ ⟨rfl, 0, rfl, Yd _⟩
   rintro s r ⟨rfl, k, rfl, hk⟩;unfold ZC.s0
   by_cases hlt : k < l.length
   ·rw [Zc (show (k : Int) < l.length by omega), cond_true, at?_nat hlt, ZS (by omega)]
    have := hall k _ (Y2 hlt)
    simp only [Y0, Y02] at this ⊢;rw [this];exact .inl ⟨_, rfl, ⟨trivial, k + 1, by push_cast; rfl, hlt⟩, by simp; omega⟩
   ·rw [Zt (show ¬ (k : Int) < l.length by omega)]; exact .inr rfl
  rw [this, Zt (by rintro ⟨x, hx, hp⟩; obtain ⟨k, hk⟩ := YC hx; exact hall k x hk hp)]
  rfl
 ·obtain ⟨k0, x0, hx0, hb0, hg⟩ := Z6H (good := fun _ x => ¬ p x = true) hall
  have hb0 : p x0 = true := Classical.byContradiction hb0
  have hlt0 := (List.getElem?_eq_some_iff.1 hx0).1
  have : loopO (ZC.s0 l (fun z => some (p z))) 0 = some (.ret (k0 : Int)) := by
   refine Z0f (I := fun (s : Int) r => r = .ret (k0 : Int) ∧ ∃ k : Nat, s = k ∧ k ≤ k0) (fun s => l.length - s.toNat) ?_ ⟨rfl, 0, rfl, Yd _⟩
   rintro s r ⟨rfl, k, rfl, hk⟩;unfold ZC.s0;have hkl : k < l.length := by omega
   rw [Zc (show (k : Int) < l.length by omega), cond_true, at?_nat hkl, ZS (by omega)]
   by_cases hlt : k < k0
   ·have := hg k _ hlt (Y2 hkl)
    simp only [Y0, Y02] at this ⊢;rw [this];exact .inl ⟨_, rfl, ⟨trivial, k + 1, by push_cast; rfl, hlt⟩, by simp; omega⟩
   ·have : k = k0 := by omega
    subst this;rw [Y2 hkl] at hx0;cases hx0;simp only [Y0, hb0];exact .inr rfl
  rw [this, Zc ⟨x0, Y7 hx0, hb0⟩];simp only [Y0, Jx.elim];rw [Zc (by omega)]
def Bare (f : Form) : Prop := ∀ l ∈ f.Core, l = []
theorem Z3w {f : Form} (hl : Lim f) : ∃ b, Z22 f = some b ∧ (b = true ↔ Bare f) := by
 unfold Z22
 rw [Z6s hl.core]
 refine ⟨_, rfl, ?_⟩
 simp only [Z2x, YT, decide_eq_false_iff_not, decide_eq_true_eq]
 constructor
 ·intro h l hm;apply Classical.byContradiction;intro hn;exact h ⟨l, hm, by have := List.length_pos_iff.2 hn; omega⟩
 ·rintro h ⟨l, hm, hp⟩;rw [h l hm] at hp; simp at hp
theorem Z3v {f : Form} (hs : Shape f) (hb : Bare f) {i : Int} (ho : ¬ Z1p f i) : ZT f i = [] := by
 by_cases h0 : f.Count = 0
 ·exact Z1F ho h0
 ·exact (Z0y ho h0).2 (hb _ (Z14 hs h0 i).2)
def UpTo (f : Form) (i : Int) (r : Int × Bool) : Prop := (r.2 = true ∧ i ≤ r.1 ∧ ZF r.1 ∧ ZT f r.1 ≠ [] ∧ ∀ k, i ≤ k → k < r.1 → ZT f k = []) ∨ (r.2 = false ∧ r.1 = 0 ∧ ∀ k, i ≤ k → ZF k → ZT f k = [])
def DownTo (f : Form) (i : Int) (r : Int × Bool) : Prop := (r.2 = true ∧ r.1 ≤ i ∧ ZF r.1 ∧ ZT f r.1 ≠ [] ∧ ∀ k, k ≤ i → r.1 < k → ZT f k = []) ∨ (r.2 = false ∧ r.1 = 0 ∧ ∀ k, k ≤ i → ZF k → ZT f k = [])
theorem odd_split {f : Form} (hs : Shape f) {p : Nat} {i : Int} (hp : ∀ (k : Nat) (g : Granule), f.Odd[k]? = some g → (k < p ↔ g.Index < i)) {j : Int} (hj : Z1p f j) : ∃ (k : Nat) (g : Granule), f.Odd[k]? = some g ∧ g.Index = j ∧ (k < p ↔ j < i) := by
 obtain ⟨g, hg, rfl⟩ := hj
 obtain ⟨k, hk⟩ := YC hg
 exact ⟨k, g, hk, rfl, hp k g hk⟩
theorem gran_step_up {f : Form} (hl : Lim f) (hs : Shape f) {i : Int} (hi : -1099511627776 ≤ i ∧ i ≤ 1099511627776) : ∃ r, Zm f i 1 = some r ∧ UpTo f i r := by
 have hi64 : In64 i := by unfold In64; omega
 obtain ⟨b, hb, hbb⟩ := Z3w hl
 have holen := Z0l (b := 31) hl.odd
 unfold Zm
 rw [hb]
 simp only [Y0]
 cases b with
 | true =>
  have hbare := hbb.1 rfl
  rw [cond_true];obtain ⟨p, h1, h2, h3⟩ := Z34 hl hs.inc i
  rw [h3];simp only [Y0, Zt (show ¬ (1 : Int) < 0 by omega), Bool.false_and, cond_false]
  obtain ⟨r, hr, hpost⟩ := Z1o (step := Zm.s0 f 1) (I := fun (s : Int) => ∃ k : Nat, s = k ∧ p ≤ k ∧ k ≤ f.Odd.length ∧ ∀ (j : Nat) (g : Granule), f.Odd[j]? = some g → p ≤ j → j < k → g.Ticks = []) (fun s => f.Odd.length - s.toNat)
   (fun r => (∃ (k : Nat) (g : Granule), r = .ret (g.Index, true) ∧ f.Odd[k]? = some g ∧ p ≤ k ∧ g.Ticks ≠ [] ∧ ∀ (j : Nat) (g' : Granule), f.Odd[j]? = some g' → p ≤ j → j < k → g'.Ticks = []) ∨ (r = .go () ∧ ∀ (j : Nat) (g' : Granule), f.Odd[j]? = some g' → p ≤ j → g'.Ticks = [])) (by
   rintro s ⟨k, rfl, hpk, hk, hn⟩;unfold Zm.s0
   by_cases hlt : k < f.Odd.length
   ·rw [Zc (show (k : Int) ≥ 0 by omega), Zc (show (k : Int) < f.Odd.length by omega), Y07, cond_true, at?_nat hlt, ZS (by omega)]
    simp only [Y0];have hget := Y2 hlt
    by_cases hc : f.Odd[k].Ticks = []
    ·rw [hc];refine .inl ⟨(k : Int) + 1, rfl, ⟨k + 1, by push_cast; rfl, by omega, hlt, fun j g hj hpj hjk => ?_⟩, by simp; omega⟩
     rcases YD j k with h | h
     ·exact hn j g hj hpj h
     ·have : j = k := by omega
      subst this; rw [hget] at hj; cases hj; exact hc
    ·rw [Zc (show ((f.Odd[k].Ticks.length : Int) > 0) by have := List.length_pos_iff.2 hc; omega), cond_true]
     exact .inr ⟨_, rfl, .inl ⟨k, _, rfl, hget, hpk, hc, hn⟩⟩
   ·rw [Zt (show ¬ (k : Int) < f.Odd.length by omega), Bool.and_false, cond_false]
    refine .inr ⟨_, rfl, .inr ⟨rfl, fun j g hj hpj => hn j g hj hpj ?_⟩⟩
    have := (List.getElem?_eq_some_iff.1 hj).1; omega) (p : Int) ⟨p, rfl, YB _, h1, fun j g _ h h' => by omega⟩
  rw [hr];simp only [Y0]
  rcases hpost with ⟨k, g, rfl, hk, hpk, hne, hn⟩ | ⟨rfl, hn⟩
  ·have hset := Z0Y hs.inc (Y7 hk)
   have hgi : ¬ g.Index < i := fun h => by have := (h2 k g hk).2 h; omega
   refine ⟨_, rfl, .inl ⟨rfl, by simp only; omega, (hs.odd g (Y7 hk)).2, by simp only; rw [hset]; exact hne, fun j hij hjg => ?_⟩⟩
   simp only at hjg
   by_cases ho : Z1p f j
   ·obtain ⟨k', g', hk', rfl, hiff⟩ := odd_split hs h2 ho
    rw [Z0Y hs.inc (Y7 hk')];refine hn k' g' hk' ?_ ?_
    ·rcases YD k' p with h | h
     ·have := hiff.1 h; omega
     ·exact h
    ·rcases YD k' k with h | h
     ·exact h
     ·rcases YD k k' with h' | h'
      ·have := hs.inc k k' g g' h' hk hk'; omega
      ·have : k = k' := by omega
       subst this; rw [hk] at hk'; cases hk'; omega
   ·exact Z3v hs hbare ho
  ·refine ⟨_, rfl, .inr ⟨rfl, rfl, fun j hij _ => ?_⟩⟩
   by_cases ho : Z1p f j
   ·obtain ⟨k', g', hk', rfl, hiff⟩ := odd_split hs h2 ho
    rw [Z0Y hs.inc (Y7 hk')];refine hn k' g' hk' ?_
    rcases YD k' p with h | h
    ·have := hiff.1 h; omega
    ·exact h
   ·exact Z3v hs hbare ho
 | false =>
  rw [cond_false];obtain ⟨r, hr, hpost⟩ := Z1o (step := Zm.s1 f 1) (I := fun (s : Int) => i ≤ s ∧ s ≤ 1099511627777 ∧ ∀ k, i ≤ k → k < s → ZT f k = []) (fun s => (1099511627777 - s).toNat)
   (fun r => (∃ j, r = .ret (j, true) ∧ i ≤ j ∧ ZF j ∧ ZT f j ≠ [] ∧ ∀ k, i ≤ k → k < j → ZT f k = []) ∨ (r = .go () ∧ ∀ k, i ≤ k → ZF k → ZT f k = [])) (by
   rintro s ⟨hs1, hs2, hn⟩;unfold Zm.s1;rw [Z3s]
   by_cases ht : ZF s
   ·rw [Zc ht, cond_true, Z5e hl hs (Z1R ht), ZS (by unfold ZF at ht; omega)]
    simp only [Y0]
    by_cases hc : ZT f s = []
    ·rw [hc];refine .inl ⟨s + 1, by simp, ⟨by omega, by unfold ZF at ht; omega, fun k hk hks => ?_⟩, by unfold ZF at ht; omega⟩
     by_cases h : k = s
     ·rw [h]; exact hc
     ·exact hn k hk (by omega)
    ·rw [Zc hc, cond_true];exact .inr ⟨_, rfl, .inl ⟨s, rfl, hs1, ht, hc, hn⟩⟩
   ·rw [Zt ht, cond_false];exact .inr ⟨_, rfl, .inr ⟨rfl, fun k hk htk => hn k hk (by unfold ZF at ht htk; omega)⟩⟩) i ⟨Int.le_refl _, by omega, fun k h h' => by omega⟩
  rw [hr];simp only [Y0]
  rcases hpost with ⟨j, rfl, h1, h2, h3, h4⟩ | ⟨rfl, hn⟩
  ·exact ⟨_, rfl, .inl ⟨rfl, h1, h2, h3, h4⟩⟩
  ·exact ⟨_, rfl, .inr ⟨rfl, rfl, hn⟩⟩
theorem Z79 {f : Form} (hl : Lim f) (hs : Shape f) {i : Int} (hi : -1099511627776 ≤ i ∧ i ≤ 1099511627776) : ∃ r, Zm f i (-1) = some r ∧ DownTo f i r := by
 have hi64 : In64 i := by unfold In64; omega
 obtain ⟨b, hb, hbb⟩ := Z3w hl
 have holen := Z0l (b := 31) hl.odd
 unfold Zm
 rw [hb]
 simp only [Y0]
 cases b with
 | true =>
  have hbare := hbb.1 rfl
  rw [cond_true];obtain ⟨p, h1, h2, h3⟩ := Z34 hl hs.inc i
  rw [h3]
  -- the number of exceptions up to the index
  obtain ⟨q, hq1, hq2, hq3⟩ : ∃ q : Nat, q ≤ f.Odd.length ∧ (∀ (k : Nat) (g : Granule), f.Odd[k]? = some g → (k < q ↔ g.Index ≤ i)) ∧ ((bif (decide ((-1 : Int) < 0) && !decide (∃ g, f.Odd[p]? = some g ∧ g.Index = i)) then some (w64 ((p : Int) - 1)) else some (p : Int)) : Option Int) = some ((q : Int) - 1) := by
   by_cases he : ∃ g, f.Odd[p]? = some g ∧ g.Index = i
   ·obtain ⟨g, hg, hgi⟩ := he
    have hpl := (List.getElem?_eq_some_iff.1 hg).1
    refine ⟨p + 1, by omega, fun k g' hk => ?_, by rw [Zc (p := ∃ g, f.Odd[p]? = some g ∧ g.Index = i) ⟨g, hg, hgi⟩]; simp⟩
    have := h2 k g' hk
    constructor
    ·intro h
     rcases YD k p with h' | h'
     ·have := this.1 h'; omega
     ·have : k = p := by omega
      subst this; rw [hg] at hk; cases hk; omega
    ·intro h
     rcases YD p k with h' | h'
     ·have := hs.inc p k g g' h' hg hk; omega
     ·omega
   ·refine ⟨p, h1, fun k g' hk => ?_, by rw [Zt (p := ∃ g, f.Odd[p]? = some g ∧ g.Index = i) he, ZS (by omega)]; simp⟩
    have := h2 k g' hk
    constructor
    ·intro h; have := this.1 h; omega
    ·intro h
     by_cases hgi : g'.Index = i
     ·exfalso
      have hkp : ¬ k < p := fun h' => by have := this.1 h'; omega
      rcases YD p k with h' | h'
      ·have hpl : p < f.Odd.length := by have := (List.getElem?_eq_some_iff.1 hk).1; omega
       have h5 := hs.inc p k _ g' h' (Y2 hpl) hk
       have h6 := (h2 p _ (Y2 hpl)).2 (by omega)
       omega
      ·have : k = p := by omega
       subst this;exact he ⟨g', hk, hgi⟩
     ·exact this.2 (by omega)
  simp only [Y0];rw [hq3];simp only [Y0];obtain ⟨r, hr, hpost⟩ := Z1o (step := Zm.s0 f (-1)) (I := fun (s : Int) => ∃ k : Nat, s = (k : Int) - 1 ∧ k ≤ q ∧ ∀ (j : Nat) (g : Granule), f.Odd[j]? = some g → k ≤ j → j < q → g.Ticks = []) (fun s => (s + 1).toNat)
   (fun r => (∃ (k : Nat) (g : Granule), r = .ret (g.Index, true) ∧ f.Odd[k]? = some g ∧ k < q ∧ g.Ticks ≠ [] ∧ ∀ (j : Nat) (g' : Granule), f.Odd[j]? = some g' → k < j → j < q → g'.Ticks = []) ∨ (r = .go () ∧ ∀ (j : Nat) (g' : Granule), f.Odd[j]? = some g' → j < q → g'.Ticks = [])) (by
   rintro s ⟨k, rfl, hk, hn⟩;unfold Zm.s0
   by_cases h0 : 0 < k
   ·have hlt : k - 1 < f.Odd.length := by omega
    rw [Zc (show (k : Int) - 1 ≥ 0 by omega), Zc (show (k : Int) - 1 < f.Odd.length by omega), Y07, cond_true, show (k : Int) - 1 = ((k - 1 : Nat) : Int) by omega, at?_nat hlt, ZS (by omega)]
    simp only [Y0];have hget := Y2 hlt
    by_cases hc : f.Odd[k - 1].Ticks = []
    ·rw [hc];refine .inl ⟨((k - 1 : Nat) : Int) + -1, rfl, ⟨k - 1, by omega, by omega, fun j g hj hpj hjk => ?_⟩, by simp; omega⟩
     rcases YD j k with h | h
     ·have : j = k - 1 := by omega
      subst this; rw [hget] at hj; cases hj; exact hc
     ·exact hn j g hj h hjk
    ·rw [Zc (show ((f.Odd[k - 1].Ticks.length : Int) > 0) by have := List.length_pos_iff.2 hc; omega), cond_true]
     exact .inr ⟨_, rfl, .inl ⟨k - 1, _, rfl, hget, by omega, hc, fun j g hj h1 h2 => hn j g hj (by omega) h2⟩⟩
   ·rw [Zt (show ¬ (k : Int) - 1 ≥ 0 by omega), Bool.false_and, cond_false]
    exact .inr ⟨_, rfl, .inr ⟨rfl, fun j g hj hjq => hn j g hj (by omega) hjq⟩⟩) ((q : Int) - 1) ⟨q, rfl, YB _, fun j g _ h h' => by omega⟩
  rw [hr];simp only [Y0]
  rcases hpost with ⟨k, g, rfl, hk, hkq, hne, hn⟩ | ⟨rfl, hn⟩
  ·have hset := Z0Y hs.inc (Y7 hk)
   have hgi := (hq2 k g hk).1 hkq
   refine ⟨_, rfl, .inl ⟨rfl, hgi, (hs.odd g (Y7 hk)).2, by simp only; rw [hset]; exact hne, fun j hij hjg => ?_⟩⟩
   simp only at hjg
   by_cases ho : Z1p f j
   ·obtain ⟨g', hg', rfl⟩ := ho
    obtain ⟨k', hk'⟩ := YC hg'
    rw [Z0Y hs.inc hg'];refine hn k' g' hk' ?_ ((hq2 k' g' hk').2 hij)
    rcases YD k k' with h | h
    ·exact h
    ·rcases YD k' k with h' | h'
     ·have := hs.inc k' k g' g h' hk' hk; omega
     ·have : k = k' := by omega
      subst this; rw [hk] at hk'; cases hk'; omega
   ·exact Z3v hs hbare ho
  ·refine ⟨_, rfl, .inr ⟨rfl, rfl, fun j hij _ => ?_⟩⟩
   by_cases ho : Z1p f j
   ·obtain ⟨g', hg', rfl⟩ := ho
    obtain ⟨k', hk'⟩ := YC hg'
    rw [Z0Y hs.inc hg'];exact hn k' g' hk' ((hq2 k' g' hk').2 hij)
   ·exact Z3v hs hbare ho
 | false =>
  rw [cond_false];obtain ⟨r, hr, hpost⟩ := Z1o (step := Zm.s1 f (-1)) (I := fun (s : Int) => s ≤ i ∧ -1099511627777 ≤ s ∧ ∀ k, k ≤ i → s < k → ZT f k = []) (fun s => (s + 1099511627777).toNat)
   (fun r => (∃ j, r = .ret (j, true) ∧ j ≤ i ∧ ZF j ∧ ZT f j ≠ [] ∧ ∀ k, k ≤ i → j < k → ZT f k = []) ∨ (r = .go () ∧ ∀ k, k ≤ i → ZF k → ZT f k = [])) (by
   rintro s ⟨hs1, hs2, hn⟩;unfold Zm.s1;rw [Z3s]
   by_cases ht : ZF s
   ·rw [Zc ht, cond_true, Z5e hl hs (Z1R ht), ZS (by unfold ZF at ht; omega)]
    simp only [Y0]
    by_cases hc : ZT f s = []
    ·rw [hc];refine .inl ⟨s + -1, by simp, ⟨by omega, by unfold ZF at ht; omega, fun k hk hks => ?_⟩, by unfold ZF at ht; omega⟩
     by_cases h : k = s
     ·rw [h]; exact hc
     ·exact hn k hk (by omega)
    ·rw [Zc hc, cond_true];exact .inr ⟨_, rfl, .inl ⟨s, rfl, hs1, ht, hc, hn⟩⟩
   ·rw [Zt ht, cond_false];exact .inr ⟨_, rfl, .inr ⟨rfl, fun k hk htk => hn k hk (by unfold ZF at ht htk; omega)⟩⟩) i ⟨Int.le_refl _, by omega, fun k h h' => by omega⟩
  rw [hr];simp only [Y0]
  rcases hpost with ⟨j, rfl, h1, h2, h3, h4⟩ | ⟨rfl, hn⟩
  ·exact ⟨_, rfl, .inl ⟨rfl, h1, h2, h3, h4⟩⟩
  ·exact ⟨_, rfl, .inr ⟨rfl, rfl, hn⟩⟩
def Above (f : Form) (i : Int) (r : Int × Bool) : Prop := (r.2 = true ∧ i < r.1 ∧ ZF r.1 ∧ ZT f r.1 ≠ [] ∧ ∀ k, i < k → k < r.1 → ZF k → ZT f k = []) ∨ (r.2 = false ∧ r.1 = 0 ∧ ∀ k, i < k → ZF k → ZT f k = [])
def Under (f : Form) (i : Int) (r : Int × Bool) : Prop := (r.2 = true ∧ r.1 < i ∧ ZF r.1 ∧ ZT f r.1 ≠ [] ∧ ∀ k, k < i → r.1 < k → ZF k → ZT f k = []) ∨ (r.2 = false ∧ r.1 = 0 ∧ ∀ k, k < i → ZF k → ZT f k = [])
theorem Z2p {f : Form} (hl : Lim f) (hs : Shape f) {i : Int} (hi : In64 i) : ∃ r, Z0i f i = some r ∧ Above f i r := by
 unfold Z0i
 by_cases h : i ≥ 1099511627776
 ·rw [Zc h, cond_true];exact ⟨_, rfl, .inr ⟨rfl, rfl, fun k hk ht => by unfold ZF at ht; omega⟩⟩
 ·rw [Zt h, cond_false, ZS (by unfold In64 at hi; omega)]
  have hm : iMax (i + 1) (-1099511627776) = max (i + 1) (-1099511627776) := by unfold iMax; omega
  rw [hm];obtain ⟨r, h1, h2⟩ := gran_step_up hl hs (i := max (i + 1) (-1099511627776)) (by omega)
  rw [h1];refine ⟨r, rfl, ?_⟩
  rcases h2 with ⟨a, b, c, d, e⟩ | ⟨a, b, e⟩
  ·exact .inl ⟨a, by omega, c, d, fun k hk hkr ht => e k (by unfold ZF at ht; omega) hkr⟩
  ·exact .inr ⟨a, b, fun k hk ht => e k (by have := ht; unfold ZF at this; omega) ht⟩
theorem Z2m {f : Form} (hl : Lim f) (hs : Shape f) {i : Int} (hi : In64 i) : ∃ r, Z0S f i = some r ∧ Under f i r := by
 unfold Z0S
 by_cases h : i ≤ -1099511627776
 ·rw [Zc h, cond_true];exact ⟨_, rfl, .inr ⟨rfl, rfl, fun k hk ht => by unfold ZF at ht; omega⟩⟩
 ·rw [Zt h, cond_false, ZS (by unfold In64 at hi; omega)]
  have hm : iMin (i - 1) 1099511627776 = min (i - 1) 1099511627776 := by unfold iMin; omega
  rw [hm];obtain ⟨r, h1, h2⟩ := Z79 hl hs (i := min (i - 1) 1099511627776) (by omega)
  rw [h1];refine ⟨r, rfl, ?_⟩
  rcases h2 with ⟨a, b, c, d, e⟩ | ⟨a, b, e⟩
  ·exact .inl ⟨a, by omega, c, d, fun k hk hkr ht => e k (by unfold ZF at ht; omega) hkr⟩
  ·exact .inr ⟨a, b, fun k hk ht => e k (by have := ht; unfold ZF at this; omega) ht⟩
end Go.Dn

namespace Go.Dn
open Go
def BesideR (f : Form) (i : Int) (lo hi : Int × Bool) : Prop :=
 fits f i ∧ (lo.2 = true → fits f lo.1 ∧ Z1i (ZT f lo.1) (ZT f i)) ∧ (hi.2 = true → fits f hi.1 ∧ Z1i (ZT f i) (ZT f hi.1)) ∧ (lo.2 = true → hi.2 = true → Z1i (ZT f lo.1) (ZT f hi.1))
theorem aheadL_nil_l (b : List Span) : Z1i [] b := by intro x hx; cases hx
theorem aheadL_nil_r (a : List Span) : Z1i a [] := by intro x _ y hy; cases hy
theorem Z4W {f : Form} (hl : Lim f) (hs : Shape f) (i : Int) : Len (ZT f i) := by
 by_cases ho : Z1p f i
 ·obtain ⟨g, hg, rfl⟩ := ho
  rw [Z0Y hs.inc hg]; exact (hl.ticks g hg).2.1
 ·by_cases h0 : f.Count = 0
  ·rw [Z1F ho h0]; unfold Len; simp
  ·rw [Z1I ho h0]; unfold Len; rw [Yh]; exact (hl.sets _ (Z14 hs h0 i).2).1
theorem Z4J {f : Form} (hs : Shape f) {i : Int} (hf : fits f i) : RightL (ZT f i) := by
 by_cases ho : Z1p f i
 ·obtain ⟨g, hg, rfl⟩ := ho
  rw [Z0Y hs.inc hg]; exact (hs.odd g hg).1
 ·by_cases h0 : f.Count = 0
  ·rw [Z1F ho h0]; exact ⟨by simp, by simp⟩
  ·unfold fits at hf;rw [Z1I ho h0] at hf ⊢;exact (hs.core _ (Z14 hs h0 i).2).shift fun s hs' => hf (Ze (Z2O f i) s) (List.mem_map.2 ⟨s, hs', rfl⟩)
theorem near_l {c : Bool} {X S : List Span} : Z1i (if c = true then X else []) S ↔ (c = true → Z1i X S) := by
 cases c
 ·simp [aheadL_nil_l]
 ·simp
theorem near_r {c : Bool} {X S : List Span} : Z1i S (if c = true then X else []) ↔ (c = true → Z1i S X) := by
 cases c
 ·simp [aheadL_nil_r]
 ·simp
noncomputable def sideG (f : Form) (r : Int × Bool) : Option (Jx (List Span) Bool) :=
 (bif r.2 then (ZX f r.1).bind fun x => (bif (x.2 != 0) then some (.ret false) else some (.go x.1)) else some (.go []))
open Classical in
theorem sideG_eq {f : Form} (hl : Lim f) (hs : Shape f) {r : Int × Bool} (ht : r.2 = true → ZF r.1) : (r.2 = true ∧ ¬ fits f r.1 ∧ sideG f r = some (.ret false)) ∨ ((r.2 = true → fits f r.1) ∧ sideG f r = some (.go (if r.2 = true then ZT f r.1 else []))) := by
 obtain ⟨j, c⟩ := r
 unfold sideG
 cases c with
 | false => exact .inr ⟨by simp, by simp⟩
 | true =>
  simp only [cond_true];rw [Z2y hl hs (Z1R (ht rfl))]
  by_cases hfl : fits f j
  ·rw [if_pos ⟨ht rfl, hfl⟩]; exact .inr ⟨fun _ => hfl, by simp⟩
  ·rw [if_neg (fun h => hfl h.2)]; exact .inl ⟨trivial, hfl, rfl⟩
open Classical in
theorem Z7E {f : Form} (hl : Lim f) (hs : Shape f) {i : Int} (hi : ZF i) {lo hi' : Int × Bool} (hlo : Z0S f i = some lo) (hhi : Z0i f i = some hi') (tlo : lo.2 = true → ZF lo.1) (thi : hi'.2 = true → ZF hi'.1) :
  ∃ b, Z10 f i = some b ∧ (b = true ↔ BesideR f i lo hi') := by
 have e : Z10 f i = (ZX f i).bind fun x1 => (bif (x1.2 != 0) then some false else (sideG f lo).bind fun y1 => y1.elim (fun r' => some r') fun a2 => (sideG f hi').bind fun y2 => y2.elim (fun r' => some r') fun a4 =>
   (ZQ a2 x1.1).bind fun x6 => ((bif x6 then (ZQ x1.1 a4).bind fun x7 => some x7 else some false)).bind fun y3 => ((bif y3 then (ZQ a2 a4).bind fun x8 => some x8 else some false)).bind fun y4 => some y4) := by
  unfold Z10 sideG;rw [hlo, hhi];simp only [Y0]
 rw [e, Z2y hl hs (Z1R hi)]
 clear e
 by_cases hf : fits f i
 ·rw [if_pos ⟨hi, hf⟩];simp only [Y0, bne_self_eq_false, cond_false]
  rcases sideG_eq hl hs tlo with ⟨h1, h2, h0⟩ | ⟨h1, h0⟩
  ·rw [h0];exact ⟨false, rfl, fun h => (by cases h), fun h => absurd (h.2.1 h1).1 h2⟩
  ·rw [h0];simp only [Y0, Jx.elim]
   rcases sideG_eq hl hs thi with ⟨h3, h4, h0'⟩ | ⟨h3, h0'⟩
   ·rw [h0'];exact ⟨false, rfl, fun h => (by cases h), fun h => absurd (h.2.2.1 h3).1 h4⟩
   ·rw [h0'];simp only [Y0];have lenA : Len (if lo.2 = true then ZT f lo.1 else []) := by
     by_cases hc : lo.2 = true
     ·rw [if_pos hc]; exact Z4W hl hs _
     ·rw [if_neg hc]; unfold Len; simp
    generalize hA : (if lo.2 = true then ZT f lo.1 else []) = A at lenA
    generalize hB : (if hi'.2 = true then ZT f hi'.1 else []) = B
    obtain ⟨r1, q1, p1⟩ := Z2l (b := ZT f i) lenA
    obtain ⟨r2, q2, p2⟩ := Z2l (a := ZT f i) (b := B) (Z4W hl hs i)
    obtain ⟨r3, q3, p3⟩ := Z2l (b := B) lenA
    rw [q1, q2, q3];subst hA hB;rw [near_l] at p1;rw [near_r] at p2;rw [near_l, near_r] at p3;refine ⟨r1 && r2 && r3, by cases r1 <;> cases r2 <;> rfl, ?_⟩
    rw [Y9, Y9, p1, p2, p3]
    constructor
    ·rintro ⟨⟨a, b⟩, c⟩;exact ⟨hf, fun h => ⟨h1 h, a h⟩, fun h => ⟨h3 h, b h⟩, c⟩
    ·rintro ⟨_, a, b, c⟩;exact ⟨⟨fun h => (a h).2, fun h => (b h).2⟩, c⟩
 ·rw [if_neg (fun h => hf h.2)]
  exact ⟨false, rfl, fun h => (by cases h), fun h => absurd h.1 hf⟩
def Beside (f : Form) (i : Int) : Prop := ∀ lo hi, Under f i lo → Above f i hi → BesideR f i lo hi
theorem Under.uniq {f : Form} {i : Int} {r r' : Int × Bool} (h : Under f i r) (h' : Under f i r') : r = r' := by
 obtain ⟨a, b⟩ := r
 obtain ⟨a', b'⟩ := r'
 rcases h with ⟨rfl, h1, h2, h3, h4⟩ | ⟨rfl, rfl, h4⟩ <;> rcases h' with ⟨rfl, k1, k2, k3, k4⟩ | ⟨rfl, rfl, k4⟩
 ·simp only at *
  rcases Int.lt_trichotomy a a' with h | h | h
  ·exact absurd (h4 a' k1 h k2) k3
  ·rw [h]
  ·exact absurd (k4 a h1 h h2) h3
 ·exact absurd (k4 a h1 h2) h3
 ·exact absurd (h4 a' k1 k2) k3
 ·rfl
theorem Above.uniq {f : Form} {i : Int} {r r' : Int × Bool} (h : Above f i r) (h' : Above f i r') : r = r' := by
 obtain ⟨a, b⟩ := r
 obtain ⟨a', b'⟩ := r'
 rcases h with ⟨rfl, h1, h2, h3, h4⟩ | ⟨rfl, rfl, h4⟩ <;> rcases h' with ⟨rfl, k1, k2, k3, k4⟩ | ⟨rfl, rfl, k4⟩
 ·simp only at *
  rcases Int.lt_trichotomy a a' with h | h | h
  ·exact absurd (k4 a h1 h h2) h3
  ·rw [h]
  ·exact absurd (h4 a' k1 h k2) k3
 ·exact absurd (k4 a h1 h2) h3
 ·exact absurd (h4 a' k1 k2) k3
 ·rfl
theorem Z6q {f : Form} (hl : Lim f) (hs : Shape f) {i : Int} (hi : ZF i) : ∃ b, Z10 f i = some b ∧ (b = true ↔ Beside f i) := by
 obtain ⟨lo, h1, h2⟩ := Z2m hl hs (Z1R hi)
 obtain ⟨hi', h3, h4⟩ := Z2p hl hs (Z1R hi)
 obtain ⟨b, h5, h6⟩ := Z7E hl hs hi h1 h3 (fun h => by rcases h2 with ⟨_, _, h, _⟩ | ⟨h', _⟩ <;> simp_all) (fun h => by rcases h4 with ⟨_, _, h, _⟩ | ⟨h', _⟩ <;> simp_all)
 refine ⟨b, h5, h6.trans ⟨fun h lo' hi'' q1 q2 => ?_, fun h => h lo hi' h2 h4⟩⟩
 rw [q1.uniq h2, q2.uniq h4]; exact h
def sizeF (f : Form) : Nat := (f.Core.map List.length).sum + (f.Odd.map (·.Ticks.length)).sum
theorem sum_take {α : Type} (g : α → Nat) {l : List α} {k : Nat} (h : k < l.length) : ((l.take (k + 1)).map g).sum = ((l.take k).map g).sum + g l[k] := by
 rw [Y06 h, Y0F, List.sum_append]; simp
theorem Z5n {f : Form} (hl : Lim f) (hc : f.Core.length ≤ 6000) (ho : f.Odd.length ≤ 6000) : Zv f = some (sizeF f : Int) := by
 have hr := Z08
 have lenC : ∀ l ∈ f.Core, l.length ≤ 8796093022207 := fun l hm => by have := (hl.sets l hm).1; unfold Len at this; omega
 have lenO : ∀ g ∈ f.Odd, g.Ticks.length ≤ 8796093022207 := fun l hm => by have := (hl.ticks l hm).2.1; unfold Len at this; omega
 obtain ⟨a, h1, h2, h3⟩ := fold_loop (l := f.Core) (step := Zv.s0 f) (f := fun a _ x => a + (x.length : Int)) (fin := id) (a0 := (0 : Int)) (fun k a => a = ((((f.Core.take k).map List.length).sum : Nat) : Int) ∧ a ≤ k * 8796093022207) ⟨by simp, by simp⟩ (fun k x a hk ⟨ha, hb⟩ => by
   obtain ⟨q1, q2⟩ := Z5y hk
   have hx := lenC x (Y7 hk)
   have hkl : k < f.Core.length := by omega
   have h0 : 0 ≤ a := by rw [ha]; omega
   unfold Zv.s0;simp only;rw [Zc q2, cond_true, q1, ZS (x := (k : Int) + 1) (by omega)]
   simp only [Y0];rw [ZS (x := a + (x.length : Int)) (by omega)]
   refine ⟨rfl, ?_, by push_cast; omega⟩
   rw [sum_take _ hkl];rw [Y2 hkl] at hk;cases hk; rw [ha]; push_cast; rfl) (fun a _ => by unfold Zv.s0; simp only; rw [Zt (by omega)]; rfl)
 rw [Yw] at h2
 obtain ⟨b, h4, h5, h6⟩ := fold_loop (l := f.Odd) (step := Zv.s1 f) (f := fun a _ x => a + (x.Ticks.length : Int)) (fin := id) (a0 := a) (fun k b => b = a + ((((f.Odd.take k).map (·.Ticks.length)).sum : Nat) : Int) ∧ b ≤ a + k * 8796093022207) ⟨by simp, by simp⟩ (fun k x b hk ⟨ha, hb⟩ => by
   obtain ⟨q1, q2⟩ := Z5y hk
   have hx := lenO x (Y7 hk)
   have hkl : k < f.Odd.length := by omega
   have h0 : 0 ≤ b := by rw [ha, h2]; omega
   unfold Zv.s1;simp only;rw [Zc q2, cond_true, q1, ZS (x := (k : Int) + 1) (by omega)]
   simp only [Y0];rw [ZS (x := b + (x.Ticks.length : Int)) (by omega)]
   refine ⟨rfl, ?_, by push_cast; omega⟩
   rw [sum_take _ hkl];rw [Y2 hkl] at hk;cases hk; rw [ha]; push_cast; omega) (fun a _ => by unfold Zv.s1; simp only; rw [Zt (by omega)]; rfl)
 rw [Yw] at h5
 unfold Zv
 rw [h1]
 simp only [Y0, id]
 rw [h4]
 simp only [Y0, id, h5, h2, sizeF]
 push_cast; rfl
structure RightF (f : Form) : Prop where
 shape : Shape f
 turns : Turns f
 beside : ∀ g ∈ f.Odd, Beside f g.Index
def LongF (f : Form) : Prop := 6000 < f.Core.length ∨ 6000 < f.Odd.length ∨ 60000 < sizeF f
theorem Z4i {f : Form} (hl : Lim f) : (LongF f ∧ Zk f = some 3) ∨ (¬ LongF f ∧ RightF f ∧ Zk f = some 0) ∨ (¬ LongF f ∧ ¬ RightF f ∧ Zk f = some 50) := by
 have holen := Z0l (b := 31) hl.odd
 unfold Zk
 by_cases h1 : 6000 < f.Core.length ∨ 6000 < f.Odd.length
 ·have e : (decide ((f.Core.length : Int) > 6000) || decide ((f.Odd.length : Int) > 6000)) = true := by
   rcases h1 with h | h
   ·rw [Zc (show (f.Core.length : Int) > 6000 by omega)]; rfl
   ·rw [Zc (show (f.Odd.length : Int) > 6000 by omega)]; simp
  rw [e];exact .inl ⟨h1.elim .inl (fun h => .inr (.inl h)), rfl⟩
 ·have e : (decide ((f.Core.length : Int) > 6000) || decide ((f.Odd.length : Int) > 6000)) = false := by
   rw [Zt (show ¬ (f.Core.length : Int) > 6000 by omega), Zt (show ¬ (f.Odd.length : Int) > 6000 by omega)]; rfl
  rw [e, cond_false, Z5n hl (by omega) (by omega)]
  simp only [Y0]
  by_cases h2 : 60000 < sizeF f
  ·rw [Zc (show (sizeF f : Int) > 60000 by omega)]
   exact .inl ⟨.inr (.inr h2), rfl⟩
  ·have hnl : ¬ LongF f := by unfold LongF; omega
   rw [Zt (show ¬ (sizeF f : Int) > 60000 by omega), cond_false]
   obtain ⟨b, hb, hbs⟩ := gran_shape_eq hl
   rw [hb];simp only [Y0];refine .inr ?_;cases b with
   | false => exact .inr ⟨hnl, fun h => (by have := hbs.2 h.shape; cases this), rfl⟩
   | true =>
    have hs := hbs.1 rfl
    obtain ⟨c, hc, hct⟩ := gran_turns_eq hl hs
    rw [hc];simp only [Y0, Yx, cond_false];cases c with
    | false => exact .inr ⟨hnl, fun h => (by have := hct.2 h.turns; cases this), rfl⟩
    | true =>
     simp only [Yx, cond_false]
     rcases Z2I (l := f.Odd) (step := Zk.s0 f) (fun _ g => Beside f g.Index) (no := .ret 50) (yes := .go ()) (fun k g hk _ => by
       obtain ⟨q1, q2⟩ := Z5y hk
       obtain ⟨b, hb, hbb⟩ := Z6q hl hs (hs.odd g (Y7 hk)).2
       unfold Zk.s0;rw [Zc q2, cond_true, q1, ZS (by omega)]
       simp only [Y0, hb];cases b
       ·exact .inr ⟨rfl, fun h => by have := hbb.2 h; cases this⟩
       ·exact .inl ⟨rfl, hbb.1 rfl⟩) (by unfold Zk.s0; rw [Zt (by omega)]; rfl) with ⟨q1, q2⟩ | ⟨q1, q2⟩
     ·rw [q1];exact .inl ⟨hnl, ⟨hs, hct.1 rfl, fun g hg => by obtain ⟨k, hk⟩ := YC hg; exact q2 k g hk⟩, rfl⟩
     ·rw [q1];exact .inr ⟨hnl, fun h => q2 fun k g hk => h.beside g (Y7 hk), rfl⟩
def SmallF (f : Form) : Prop := f.Core.length ≤ 12 ∧ f.Odd.length ≤ 8 ∧ sizeF f ≤ 60
theorem Z4b {f : Form} (hl : Lim f) : ∃ b, Z0Z f = some b ∧ (b = true ↔ SmallF f) := by
 unfold Z0Z
 by_cases h : f.Core.length ≤ 12 ∧ f.Odd.length ≤ 8
 ·rw [Zc (show (f.Core.length : Int) ≤ 12 by omega), Zc (show (f.Odd.length : Int) ≤ 8 by omega), Z5n hl (by omega) (by omega)]
  refine ⟨decide ((sizeF f : Int) ≤ 60), rfl, ?_⟩;rw [decide_eq_true_iff];exact ⟨fun h' => ⟨h.1, h.2, by omega⟩, fun h' => by have := h'.2.2; omega⟩
 ·have e : (decide ((f.Core.length : Int) ≤ 12) && decide ((f.Odd.length : Int) ≤ 8)) = false := by
   by_cases h1 : f.Core.length ≤ 12
   ·rw [Zt (show ¬ (f.Odd.length : Int) ≤ 8 by omega)]; simp
   ·rw [Zt (show ¬ (f.Core.length : Int) ≤ 12 by omega)]; rfl
  rw [e];exact ⟨false, rfl, fun h => (by cases h), fun h' => absurd ⟨h'.1, h'.2.1⟩ h⟩
end Go.Dn

namespace Go.Dn
open Go
theorem Z3M {f : Form} {l : List Span} : l ∈ full f ↔ l ∈ f.Core ∧ l ≠ [] := by
 unfold full
 rw [List.mem_filter, decide_eq_true_iff, gt_iff_lt, List.length_pos_iff]
theorem full_pair {f : Form} (hs : Shape f) (ht : Turns f) : (full f).Pairwise (fun a b => lstT a < fstT b) := by
 have hm : ∀ x ∈ full f, fstT x ≤ lstT x := fun x hx => Z3c (hs.core x (Z3M.1 hx).1) (Z3M.1 hx).2
 have h1 := ht.1
 generalize full f = l at hm h1
 induction l with
 | nil => exact .nil
 | cons x l ih =>
  have ih := ih (fun y hy => hm y (YJ _ hy)) (fun k a b ha hb => h1 (k + 1) a b ha hb)
  refine List.pairwise_cons.2 ⟨fun y hy => ?_, ih⟩
  cases l with
  | nil => cases hy
  | cons z l =>
   have hxz := h1 0 x z rfl rfl
   rcases List.mem_cons.1 hy with rfl | hy
   ·exact hxz
   ·have := (List.pairwise_cons.1 ih).1 y hy
    have := hm z (by simp)
    omega
theorem core_pair {f : Form} (hs : Shape f) (ht : Turns f) {j k : Nat} {a b : List Span} (hjk : j < k) (ha : f.Core[j]? = some a) (hb : f.Core[k]? = some b) (na : a ≠ []) (nb : b ≠ []) : lstT a < fstT b := by
 have h := full_pair hs ht
 unfold full at h
 rw [List.pairwise_filter] at h
 have hj := (List.getElem?_eq_some_iff.1 ha)
 have hk := (List.getElem?_eq_some_iff.1 hb)
 obtain ⟨hj, rfl⟩ := hj
 obtain ⟨hk, rfl⟩ := hk
 exact List.pairwise_iff_getElem.1 h j k hj hk hjk (by rw [decide_eq_true_iff]; exact List.length_pos_iff.2 na) (by rw [decide_eq_true_iff]; exact List.length_pos_iff.2 nb)
theorem core_turn {f : Form} (hs : Shape f) (ht : Turns f) {a b : List Span} (ha : a ∈ f.Core) (hb : b ∈ f.Core) (na : a ≠ []) (nb : b ≠ []) : lstT a < fstT b + f.Period := by
 have hA := Z3M.2 ⟨ha, na⟩
 have hB := Z3M.2 ⟨hb, nb⟩
 have hm : ∀ x ∈ full f, fstT x ≤ lstT x := fun x hx => Z3c (hs.core x (Z3M.1 hx).1) (Z3M.1 hx).2
 have hn : full f ≠ [] := List.ne_nil_of_mem hA
 have hlast := Yy hn
 have hhead := Y00 hn
 have h2 := ht.2 _ _ hlast hhead
 have hp := full_pair hs ht
 have e1 : lstT a ≤ lstT ((full f).getLast hn) := by
  obtain ⟨j, hj⟩ := YC hA
  obtain ⟨hjl, hj⟩ := List.getElem?_eq_some_iff.1 hj
  by_cases hc : j = (full f).length - 1
  ·subst hc;rw [List.getLast_eq_getElem, hj];exact Int.le_refl _
  ·have := List.pairwise_iff_getElem.1 hp j ((full f).length - 1) hjl (by omega) (by omega)
   rw [hj] at this;have h5 := hm _ (List.getLast_mem hn)
   rw [List.getLast_eq_getElem] at h5 ⊢;omega
 have e2 : fstT ((full f).head hn) ≤ fstT b := by
  obtain ⟨j, hj⟩ := YC hB
  obtain ⟨hjl, hj⟩ := List.getElem?_eq_some_iff.1 hj
  have hh : (full f).head hn = (full f)[0]'(by omega) := List.head_eq_getElem hn
  by_cases hc : j = 0
  ·subst hc;rw [hh, hj];exact Int.le_refl _
  ·have := List.pairwise_iff_getElem.1 hp 0 j (by omega) hjl (by omega)
   rw [hj, ← hh] at this;have h5 := hm _ (List.head_mem hn)
   omega
 omega
theorem Z71 {f : Form} (hs : Shape f) (h0 : f.Count ≠ 0) (i : Int) : f.Core[(i % f.Count).toNat]? = some (Z0z f i) := by
 have := (Z14 hs h0 i).1
 unfold at? at this
 rwa [if_pos (Yr i h0)] at this
theorem core_order {f : Form} (hs : Shape f) (ht : Turns f) (h0 : f.Count ≠ 0) {i k : Int} (hik : i < k) (ni : Z0z f i ≠ []) (nk : Z0z f k ≠ []) : lstT (Z0z f i) + Z2O f i < fstT (Z0z f k) + Z2O f k := by
 have hp := Z5a hs h0
 have di := Y0J i f.Count
 have dk := Y0J k f.Count
 have mi := Yr i h0
 have mk := Yr k h0
 have li := Y0E i hp
 have lk := Y0E k hp
 have hq : i / f.Count ≤ k / f.Count := Int.ediv_le_ediv hp (by omega)
 unfold Z2O
 rcases Int.lt_or_eq_of_le hq with h | h
 ·have h1 := core_turn hs ht (Z14 hs h0 i).2 (Z14 hs h0 k).2 ni nk
  have h2 : (i / f.Count + 1) * f.Period ≤ k / f.Count * f.Period := Int.mul_le_mul_of_nonneg_right (by omega) hs.per.1
  rw [Int.add_mul, Int.one_mul] at h2;omega
 ·rw [h] at di ⊢;have : i % f.Count < k % f.Count := by omega
  have h1 := core_pair hs ht (j := (i % f.Count).toNat) (k := (k % f.Count).toNat) (by omega) (Z71 hs h0 i) (Z71 hs h0 k) ni nk
  omega
theorem lst_shift {l : List Span} (d : Int) (hn : l ≠ []) : lstT (l.map (Ze d)) = lstT l + d ∧ fstT (l.map (Ze d)) = fstT l + d := by
 unfold lstT fstT
 rw [List.getLast?_map, List.head?_map, Yy hn, Y00 hn]
 exact ⟨rfl, rfl⟩
theorem under_some {f : Form} (hl : Lim f) (hs : Shape f) {i k : Int} (hk : In64 k) (hik : i < k) (ti : ZF i) (ni : ZT f i ≠ []) : ∃ j, Under f k (j, true) ∧ i ≤ j := by
 obtain ⟨r, _, h⟩ := Z2m hl hs hk
 obtain ⟨j, b⟩ := r
 have h' := h
 rcases h with ⟨rfl, h1, h2, h3, h4⟩ | ⟨rfl, _, h4⟩
 ·refine ⟨j, h', ?_⟩;apply Classical.byContradiction;intro hc;exact ni (h4 i hik (by simp only; omega) ti)
 ·exact absurd (h4 i hik ti) ni
theorem above_some {f : Form} (hl : Lim f) (hs : Shape f) {i k : Int} (hk : In64 k) (hik : k < i) (ti : ZF i) (ni : ZT f i ≠ []) : ∃ j, Above f k (j, true) ∧ j ≤ i := by
 obtain ⟨r, _, h⟩ := Z2p hl hs hk
 obtain ⟨j, b⟩ := r
 have h' := h
 rcases h with ⟨rfl, h1, h2, h3, h4⟩ | ⟨rfl, _, h4⟩
 ·refine ⟨j, h', ?_⟩;apply Classical.byContradiction;intro hc;exact ni (h4 i hik (by simp only; omega) ti)
 ·exact absurd (h4 i hik ti) ni
theorem RightF.order {f : Form} (hl : Lim f) (hr : RightF f) : ∀ (n : Nat) (i k : Int), (k - i).toNat = n → i < k → ZF i → ZF k → fits f i → fits f k → ZT f i ≠ [] → ZT f k ≠ [] → lstT (ZT f i) < fstT (ZT f k) := by
 have hs := hr.shape
 intro n
 induction n using Nat.strongRecOn with
 | _ n ih =>
  intro i k hn hik ti tk fi fk ni nk
  by_cases ok : Z1p f k
  ·obtain ⟨g, hg, rfl⟩ := ok
   obtain ⟨j, hj, hij⟩ := under_some hl hs (Z1R tk) hik ti ni
   obtain ⟨hi', _, hab⟩ := Z2p hl hs (Z1R tk)
   obtain ⟨_, hlo, _, _⟩ := hr.beside g hg _ _ hj hab
   obtain ⟨fj, aj⟩ := hlo rfl
   have hj2 := hj
   rcases hj2 with ⟨_, j1, j2, j3, j4⟩ | ⟨h, _⟩
   ·simp only at fj aj j1 j2 j3;have hjk := (Z7L j3 nk).1 aj
    by_cases hji : i = j
    ·rw [hji]; exact hjk
    ·have h1 := ih (j - i).toNat (by omega) i j rfl (by omega) ti j2 fi fj ni j3
     have h2 := Z3c (Z4J hs fj) j3
     omega
   ·cases h
  ·by_cases oi : Z1p f i
   ·obtain ⟨g, hg, rfl⟩ := oi
    obtain ⟨j, hj, hij⟩ := above_some hl hs (Z1R ti) hik tk nk
    obtain ⟨lo', _, hun⟩ := Z2m hl hs (Z1R ti)
    obtain ⟨_, _, hhi, _⟩ := hr.beside g hg _ _ hun hj
    obtain ⟨fj, aj⟩ := hhi rfl
    have hj2 := hj
    rcases hj2 with ⟨_, j1, j2, j3, j4⟩ | ⟨h, _⟩
    ·simp only at fj aj j1 j2 j3;have hjk := (Z7L ni j3).1 aj
     by_cases hji : j = k
     ·rw [← hji]; exact hjk
     ·have h1 := ih (k - j).toNat (by omega) j k rfl (by omega) j2 tk fj fk j3 nk
      have h2 := Z3c (Z4J hs fj) j3
      omega
    ·cases h
   ·have h0 : f.Count ≠ 0 := fun h => ni (Z1F oi h)
    have ni' := fun h => ni ((Z0y oi h0).2 h)
    have nk' := fun h => nk ((Z0y ok h0).2 h)
    rw [Z1I oi h0, Z1I ok h0, (lst_shift _ ni').1, (lst_shift _ nk').2];exact core_order hs hr.turns h0 hik ni' nk'
end Go.Dn

namespace Go.Dn
open Go
theorem Above.tick {f : Form} {i : Int} {r : Int × Bool} (h : Above f i r) (hr : r.2 = true) : i < r.1 ∧ ZF r.1 ∧ ZT f r.1 ≠ [] ∧ ∀ k, i < k → k < r.1 → ZF k → ZT f k = [] := by
 rcases h with ⟨_, h1, h2, h3, h4⟩ | ⟨h, _⟩
 ·exact ⟨h1, h2, h3, h4⟩
 ·rw [hr] at h; cases h
theorem Under.tick {f : Form} {i : Int} {r : Int × Bool} (h : Under f i r) (hr : r.2 = true) : r.1 < i ∧ ZF r.1 ∧ ZT f r.1 ≠ [] ∧ ∀ k, k < i → r.1 < k → ZF k → ZT f k = [] := by
 rcases h with ⟨_, h1, h2, h3, h4⟩ | ⟨h, _⟩
 ·exact ⟨h1, h2, h3, h4⟩
 ·rw [hr] at h; cases h
end Go.Dn

namespace Go.Dn
open Go
theorem Z3S {α β : Type} {a : List α} {b : List β} {step : Int → Option (Int ⊕ Jx Unit Bool)} {eq : α → β → Option Bool} (P : α → β → Prop)
  (hl : (a.length : Int) < 9223372036854775807) (hab : a.length = b.length)
  (heq : ∀ (k : Nat) x y, a[k]? = some x → b[k]? = some y → ∃ r, eq x y = some r ∧ (r = true ↔ P x y))
  (hstep : ∀ s, step s = bif decide (s < (a.length : Int)) then (at? a s).bind fun x1 => (at? b s).bind fun x2 => (eq x1 x2).bind fun x3 => bif (!x3) then some (.inr (.ret false)) else some (.inl (w64 (s + 1))) else some (.inr (.go ()))) :
  (loopO step 0 = some (.go ()) ∧ ∀ (k : Nat) x y, a[k]? = some x → b[k]? = some y → P x y) ∨ (loopO step 0 = some (.ret false) ∧ ¬ ∀ (k : Nat) x y, a[k]? = some x → b[k]? = some y → P x y) := by
 rcases Z2I (l := a) (step := step) (fun k x => ∀ y, b[k]? = some y → P x y) (no := .ret false) (yes := .go ()) (fun k x hk hp => by
  have hlt := (List.getElem?_eq_some_iff.1 hk).1
  have hat : at? a (k : Int) = some x := by rw [at?_nat hlt]; rw [Y2 hlt] at hk; exact hk
  have hbt : at? b (k : Int) = some (b[k]'(by omega)) := at?_nat (by omega)
  have hbk : b[k]? = some (b[k]'(by omega)) := Y2 (by omega)
  obtain ⟨r, h1, h2⟩ := heq k x _ hk hbk
  rw [hstep, Zc (show (k : Int) < a.length by omega), cond_true, hat, hbt, ZS (show _ by omega)]
  simp only [Y0, h1];cases r with
  | true => exact .inl ⟨rfl, fun y hy => by rw [hbk] at hy; cases hy; exact h2.1 rfl⟩
  | false => exact .inr ⟨rfl, fun h => by have := h2.2 (h _ hbk); cases this⟩) (by
  rw [hstep, Zt (by omega)]; rfl) with ⟨h1, h2⟩ | ⟨h1, h2⟩
 ·exact .inl ⟨h1, fun k x y hx hy => h2 k x hx y hy⟩
 ·exact .inr ⟨h1, fun h => h2 fun k x hx y hy => h k x y hx hy⟩
theorem Z6n {a b : List Span} {d : Int} (hl : a.length = b.length) : (∀ (k : Nat) x y, a[k]? = some x → b[k]? = some y → y.From - x.From = d ∧ y.To - x.To = d) ↔ b = a.map (Ze d) := by
 constructor
 ·intro h;apply Y0L;intro k
  by_cases hk : k < a.length
  ·have h1 : a[k]? = some a[k] := Y2 hk
   have h2 : b[k]? = some (b[k]'(by omega)) := Y2 (by omega)
   rw [h2, YF, h1];obtain ⟨q1, q2⟩ := h k _ _ h1 h2
   simp only [Y8, Ze, Y5];generalize b[k]'(by omega) = y at q1 q2 ⊢
   obtain ⟨y1, y2⟩ := y
   simp only at q1 q2;simp only [Span.mk.injEq];omega
  ·rw [YU (by omega), YU (by simp; omega)]
 ·rintro rfl k x y hx hy;rw [YF, hx] at hy;simp only [Y8, Y5] at hy;subst hy;simp only [Ze];omega
theorem Z6B {a b : List Span} {d : Int} (ha : RightL a) (hb : RightL b) (hl : Len a) : ∃ r, Z1T a b d = some r ∧ (r = true ↔ b = a.map (Ze d)) := by
 have hl' : (a.length : Int) < 9223372036854775807 := by have := Z08; unfold Len at hl; omega
 unfold Z1T ZD
 by_cases hlen : a.length = b.length
 ·rw [Z3R (by omega), cond_false]
  have tk : ∀ {l : List Span}, RightL l → ∀ (k : Nat) s, l[k]? = some s → ZF s.From ∧ ZF s.To := fun {l} h k s hs => by
   have := Z3g.1 h k s hs
   unfold Z2J at this;exact ⟨this.1, this.2.1⟩
  rcases Z3S (a := a) (b := b) (step := ZD.s0 a b (fun z0 z1 => some (Z0g z0 z1 d))) (eq := fun z0 z1 => some (Z0g z0 z1 d)) (fun x y => y.From - x.From = d ∧ y.To - x.To = d) hl' hlen (fun k x y hx hy => by
   refine ⟨_, rfl, ?_⟩;obtain ⟨x1, x2⟩ := tk ha k x hx
   obtain ⟨y1, y2⟩ := tk hb k y hy
   unfold ZF at x1 x2 y1 y2;unfold Z0g;rw [ZS (by omega), ZS (by omega)]
   simp) (fun s => rfl) with ⟨h1, h2⟩ | ⟨h1, h2⟩
  ·rw [h1];exact ⟨true, rfl, ⟨fun _ => (Z6n hlen).1 h2, fun _ => rfl⟩⟩
  ·rw [h1];refine ⟨false, rfl, by simp only [YA, false_iff]; exact fun h => h2 ((Z6n hlen).2 h)⟩
 ·rw [bne_t (by omega), cond_true]
  refine ⟨false, rfl, by simp only [YA, false_iff]; rintro rfl; exact hlen (by simp)⟩
end Go.Dn

namespace Go.Dn
open Go
noncomputable def cs (f : Form) (i : Int) : List Span := (Z0z f i).map (Ze (Z2O f i))
theorem Z0U (l : List Span) (a b : Int) : (l.map (Ze a)).map (Ze b) = l.map (Ze (a + b)) := by
 rw [List.map_map]
 congr 1
 funext s
 simp only [Function.comp, Ze, Span.mk.injEq]
 omega
theorem shift_inj {a b : List Span} {d : Int} (h : a.map (Ze d) = b.map (Ze d)) : a = b := by
 have := congrArg (List.map (Ze (-d))) h
 rw [Z0U, Z0U, Int.add_right_neg, Z4v, Z4v] at this
 exact this
theorem Z6L {f : Form} (h0 : f.Count ≠ 0) (i : Int) : cs f (i + f.Count) = (cs f i).map (Ze f.Period) := by
 unfold cs Z0z Z2O
 rw [Z0U, Int.add_emod_right, Int.add_ediv_of_dvd_right (Int.dvd_refl _), Int.ediv_self h0, Int.add_mul, Int.one_mul]
theorem Z7Z {f : Form} (h0 : f.Count ≠ 0) (i k : Int) : cs f (i + f.Count * k) = (cs f i).map (Ze (k * f.Period)) := by
 unfold cs Z0z Z2O
 rw [Z0U, Int.add_mul_emod_self_left, Int.add_mul_ediv_left _ _ h0, Int.add_mul]
theorem Z4K {f : Form} {i : Int} (h0 : 0 ≤ i) (h1 : i < f.Count) : cs f i = f.Core.getD i.toNat [] := by
 unfold cs Z0z Z2O
 rw [Int.emod_eq_of_lt h0 h1, Int.ediv_eq_zero_of_lt h0 h1, Int.zero_mul, Z4v]
def TurnZ (f : Form) (d q : Int) : Prop := ∀ i, cs f (i + d) = (cs f i).map (Ze q)
theorem turn_of {f : Form} (h0 : 0 < f.Count) {d q : Int} (h : ∀ i, 0 ≤ i → i < f.Count → cs f (i + d) = (cs f i).map (Ze q)) : TurnZ f d q := by
 intro i
 have e : i = i % f.Count + f.Count * (i / f.Count) := (Y0J i f.Count).symm
 have h1 := h (i % f.Count) (Yr i (by omega)) (Y0E i h0)
 have e2 : i + d = (i % f.Count + d) + f.Count * (i / f.Count) := by omega
 rw [e2, Z7Z (by omega), h1]
 conv => rhs; rw [e, Z7Z (by omega)]
 rw [Z0U, Z0U, Int.add_comm]
def Z3O (f : Form) (d k : Int) : Int := if k + d ≥ f.Count then k + d - f.Count else k + d
def Z4C (f : Form) (d k : Int) : Int := if k + d ≥ f.Count then f.Period else 0
theorem wrap_cs {f : Form} {d k : Int} (hd : 1 ≤ d) (hdn : d ≤ f.Count) (h0 : 0 ≤ k) (h1 : k < f.Count) : 0 ≤ Z3O f d k ∧ Z3O f d k < f.Count ∧ cs f (k + d) = (cs f (Z3O f d k)).map (Ze (Z4C f d k)) := by
 unfold Z3O Z4C
 by_cases h : k + d ≥ f.Count
 ·rw [if_pos h, if_pos h];refine ⟨by omega, by omega, ?_⟩
  rw [← Z6L (by omega)]
  congr 1; omega
 ·rw [if_neg h, if_neg h, Z4v];exact ⟨by omega, by omega, rfl⟩
theorem canon_turn_eq {f : Form} (hl : Lim f) (hs : Shape f) {d q : Int} (hd : 1 ≤ d) (hdn : d ≤ f.Count) (hq : 0 ≤ q ∧ q ≤ 1099511627776) : ∃ r, Z0b f d q = some r ∧ (r = true ↔ TurnZ f d q) := by
 have hcl : (f.Core.length : Int) < 4611686018427387904 := Z0l (b := 23) hl.core
 have hcnt := hs.count
 have key : ∀ k : Int, 0 ≤ k → k < f.Count → (cs f (Z3O f d k) = (cs f k).map (Ze (q - Z4C f d k)) ↔ cs f (k + d) = (cs f k).map (Ze q)) := fun k k0 k1 => by
  obtain ⟨_, _, h⟩ := wrap_cs hd hdn k0 k1
  rw [h]
  constructor
  ·intro e;rw [e, Z0U]
   congr 2; omega
  ·intro e;apply shift_inj (d := Z4C f d k)
   rw [e, Z0U]
   congr 2; omega
 unfold Z0b
 rcases Z2I (l := f.Core) (step := Z0b.s0 f d q) (fun k x => cs f (Z3O f d k) = x.map (Ze (q - Z4C f d k))) (no := .ret false) (yes := .go ()) (fun k x hk hp => by
  have hlt := (List.getElem?_eq_some_iff.1 hk).1
  have hat : at? f.Core (k : Int) = some x := by rw [at?_nat hlt]; rw [Y2 hlt] at hk; exact hk
  obtain ⟨w0, w1, _⟩ := wrap_cs (f := f) (k := (k : Int)) hd hdn (by omega) (by omega)
  have hx := hs.core x (Y7 hk)
  have hlx := (hl.sets x (Y7 hk)).1
  have hwl : (Z3O f d k).toNat < f.Core.length := by omega
  have hgw : cs f (Z3O f d k) = f.Core[(Z3O f d k).toNat] := by rw [Z4K w0 w1, YS, Y2 hwl]; rfl
  have hy := hs.core _ (Yc hwl)
  have hat2 : at? f.Core (Z3O f d k) = some f.Core[(Z3O f d k).toNat] := at?_lt w0 (by omega)
  have hpk : (bif decide (w64 ((k : Int) + d) ≥ f.Count) then some (w64 (w64 ((k : Int) + d) - f.Count), f.Period) else some (w64 ((k : Int) + d), 0)) = some (Z3O f d k, Z4C f d k) := by
   rw [ZS (show _ by omega)]
   unfold Z3O Z4C
   by_cases h : (k : Int) + d ≥ f.Count
   ·rw [Zc h, cond_true, if_pos h, if_pos h, ZS (show _ by omega)]
   ·rw [Zt h, cond_false, if_neg h, if_neg h]
  obtain ⟨r, h1, h2⟩ := Z6B (d := q - Z4C f d k) hx hy hlx
  have hwp : 0 ≤ Z4C f d k ∧ Z4C f d k ≤ 1099511627776 := by have := hs.per; unfold Z4C; split <;> omega
  unfold Z0b.s0;rw [Zc (show (k : Int) < f.Core.length by omega), cond_true, hat]
  simp only [Y0, hpk, hat2];rw [ZS (show _ by omega), h1]
  simp only [Y0];rw [hgw];cases r with
  | true => exact .inl ⟨by simp only [Yx, cond_false, Y0, Jx.elim]; rw [ZS (show _ by omega)], h2.1 rfl⟩
  | false => exact .inr ⟨rfl, fun h => by have := h2.2 h; cases this⟩) (by
  unfold Z0b.s0; rw [Zt (by omega)]; rfl) with ⟨h1, h2⟩ | ⟨h1, h2⟩
 ·rw [h1];refine ⟨true, rfl, ⟨fun _ => turn_of (by omega) fun i i0 i1 => ?_, fun _ => rfl⟩⟩
  have hlt : i.toNat < f.Core.length := by omega
  have := h2 i.toNat _ (Y2 hlt)
  rw [Y09 i0] at this;refine (key i i0 i1).1 ?_;rw [this, Z4K i0 i1, YS, Y2 hlt]; rfl
 ·rw [h1];refine ⟨false, rfl, ⟨(fun h => nomatch h), fun ht => absurd (fun k x hk => ?_) h2⟩⟩
  have hlt := (List.getElem?_eq_some_iff.1 hk).1
  have := (key k (by omega) (by omega)).2 (ht k)
  rw [this, Z4K (by omega) (by omega), YS, Int.toNat_natCast, hk]; rfl
end Go.Dn

namespace Go.Dn
open Go
structure Good (f : Form) (d : Int) : Prop where
 pos : 1 ≤ d
 dvd : d ∣ f.Count
 rest : f.Period % (f.Count / d) = 0
 turn : TurnZ f d (f.Period / (f.Count / d))
theorem good_self {f : Form} (h0 : 0 < f.Count) : Good f f.Count := by
 have e : f.Count / f.Count = 1 := Int.ediv_self (by omega)
 exact ⟨by omega, Int.dvd_refl _, by rw [e]; omega, by rw [e, Int.ediv_one]; exact Z6L (by omega)⟩
theorem copy_loop {x4 : List (List Span)} (hc : x4.length * 24 ≤ reachBytes) (hs : ∀ l ∈ x4, Len l) : loopO (Zj.s1 x4) (0, []) = some x4 := by
 have hcl : (x4.length : Int) < 4611686018427387904 := Z0l (b := 23) hc
 have hr := Z08
 have hro := Z35
 refine Z0f (I := fun s r => r = x4 ∧ ∃ k : Nat, k ≤ x4.length ∧ s = ((k : Int), x4.take k)) (fun s => x4.length - s.1.toNat) ?_ ⟨rfl, 0, Yd _, rfl⟩
 rintro s r ⟨rfl, k, hk, rfl⟩
 unfold Zj.s1
 by_cases hlt : k < r.length
 ·left
  have hl := hs _ (Yc hlt)
  unfold Len at hl;have hcp : clone? 16 r[k] = some r[k] := by unfold clone?; rw [if_pos (by omega)]
  have hap : app? 24 (r.take k) [r[k]] = some (r.take (k + 1)) := by
   rw [app?_ok (by simp only [YG, YH, YN]; have : min k r.length + 1 ≤ r.length := (by omega); have := YR 24 this; omega)]
   rw [Y08 hlt]
  refine ⟨((k : Int) + 1, r.take (k + 1)), ?_, ⟨rfl, k + 1, hlt, by push_cast; rfl⟩, by simp; omega⟩
  rw [Zc (show (k : Int) < r.length by omega), cond_true, at?_nat hlt]
  simp only [Y0, hcp, hap];rw [ZS (show _ by omega)]
 ·right
  have : k = r.length := by omega
  subst this;rw [Zt (show ¬ ((r.length : Int) < r.length) by omega), cond_false, Yw]
theorem core_b0_eq {f : Form} (hl : Lim f) (hs : Shape f) {d : Int} (hd : 1 ≤ d) (hdn : d ∣ f.Count) (h0 : 0 < f.Count) :
  (Good f d ∧ Zj.b0 f ([], 0, 0) d = some ((f.Core.take d.toNat, f.Period / (f.Count / d), d), 1)) ∨ (¬ Good f d ∧ Zj.b0 f ([], 0, 0) d = some (([], 0, 0), 0)) := by
 have hle : d ≤ f.Count := Int.le_of_dvd h0 hdn
 have hcl : (f.Core.length : Int) < 4611686018427387904 := Z0l (b := 23) hl.core
 have hcnt := hs.count
 have hm : 0 < f.Count / d := Y0P h0 (by omega) hdn
 have hmle : f.Count / d ≤ f.Count := Int.ediv_le_self _ (by omega)
 have htd : f.Count.tdiv d = f.Count / d := Int.tdiv_eq_ediv_of_nonneg (by omega)
 have hq : 0 ≤ f.Period / (f.Count / d) ∧ f.Period / (f.Count / d) ≤ 1099511627776 := by
  have h1 := hs.per
  have h2 : f.Period / (f.Count / d) ≤ f.Period := Int.ediv_le_self _ h1.1
  have h3 : 0 ≤ f.Period / (f.Count / d) := Int.ediv_nonneg h1.1 (by omega)
  omega
 have hfl : Z1e f.Period (w64 (f.Count.tdiv d)) = some (f.Period / (f.Count / d), f.Period % (f.Count / d), 0) := by
  rw [htd, ZS (show _ by omega), Z4g hl.period (by unfold In64; omega), Z7N hm]
 unfold Zj.b0
 rw [nz?_ok (by omega), hfl]
 simp only [Y0]
 by_cases hr : f.Period % (f.Count / d) = 0
 ·rw [Z3R hr, cond_false];obtain ⟨r, h1, h2⟩ := canon_turn_eq hl hs hd hle hq
  rw [h1];cases r with
  | true =>
   left
   refine ⟨⟨hd, hdn, hr, h2.1 rfl⟩, ?_⟩;have hcut : cut? f.Core 0 d = some (f.Core.take d.toNat) := by
    unfold cut?;rw [if_pos ⟨by omega, by omega, by omega⟩]
    rfl
   simp only [Y0, Yx, cond_false, hcut];have := copy_loop (x4 := f.Core.take d.toNat) (by have := hl.core; simp only [YG]; have h := YR 24 (Nat.min_le_right d.toNat f.Core.length); omega) (fun l hl' => (hl.sets l (Yb hl')).1)
   rw [this]
   rfl
  | false =>
   right
   exact ⟨fun g => (by have := h2.2 g.turn; cases this), rfl⟩
 ·right
  refine ⟨fun g => hr g.rest, ?_⟩
  rw [bne_t hr]
  rfl
theorem least_good {f : Form} (h0 : 0 < f.Count) : ∃ d, Good f d ∧ ∀ d', Good f d' → d ≤ d' := by
 have : ∃ n : Nat, Good f n := ⟨f.Count.toNat, by rw [Y09 (by omega)]; exact good_self h0⟩
 obtain ⟨n, hn⟩ := this
 induction n using Nat.strongRecOn with
 | _ n ih =>
  by_cases h : ∃ m : Nat, m < n ∧ Good f m
  ·obtain ⟨m, h1, h2⟩ := h
   exact ih m h1 h2
  ·refine ⟨n, hn, fun d' hd' => ?_⟩
   apply Classical.byContradiction;intro hlt;have := hd'.pos
   exact h ⟨d'.toNat, by omega, by rw [Y09 (by omega)]; exact hd'⟩
theorem canon_bare_eq {f : Form} (hl : Lim f) : Z2r f = Z22 f := by
 unfold Z2r Z22
 rfl
theorem canon_core_eq {f : Form} (hl : Lim f) (hs : Shape f) : (Bare f ∧ Zj f = some (Form.mk 0 0 [] [])) ∨
  (¬ Bare f ∧ 0 < f.Count ∧ ∃ d, Good f d ∧ (∀ d', Good f d' → d ≤ d') ∧ Zj f = some (Form.mk (f.Period / (f.Count / d)) d (f.Core.take d.toNat) [])) := by
 have hcl : (f.Core.length : Int) < 4611686018427387904 := Z0l (b := 23) hl.core
 have hcnt := hs.count
 obtain ⟨b, h1, h2⟩ := Z3w hl
 unfold Zj
 rw [canon_bare_eq hl, h1]
 cases b with
 | true => exact .inl ⟨h2.1 rfl, rfl⟩
 | false =>
  right
  have hnb : ¬ Bare f := fun h => by have := h2.2 h; cases this
  have h0 : 0 < f.Count := by
   rcases Nat.eq_zero_or_pos f.Core.length with h | h
   ·exact absurd (fun l hl' => by rw [List.length_eq_zero_iff.1 h] at hl'; cases hl') hnb
   ·omega
  obtain ⟨d, hg, hmin⟩ := least_good h0
  refine ⟨hnb, h0, d, hg, hmin, ?_⟩;have hdn : d ≤ f.Count := Int.le_of_dvd h0 hg.dvd
  have hd1 := hg.pos
  have hloop : loopO (Zz.s0 f.Count (Z56 (Zj.b0 f))) (1, (([], 0, 0), 0)) = some (.ret ((f.Core.take d.toNat, f.Period / (f.Count / d), d), 1)) := by
   refine Z0f (I := fun s r => r = .ret ((f.Core.take d.toNat, f.Period / (f.Count / d), d), 1) ∧ ∃ k : Int, 1 ≤ k ∧ k ≤ d ∧ s = (k, (([], 0, 0), 0))) (fun s => (d - s.1).toNat) ?_ ⟨rfl, 1, by omega, hd1, rfl⟩
   rintro s r ⟨rfl, k, k1, k2, rfl⟩;unfold Zz.s0;rw [Zc (show k ≤ f.Count by omega), cond_true, nz?_ok (by omega)]
   simp only [Y0]
   by_cases hkd : k ∣ f.Count
   ·rw [beq_t (show f.Count.tmod k = 0 from Int.tmod_eq_zero_of_dvd hkd), cond_true]
    rcases core_b0_eq hl hs k1 hkd h0 with ⟨g, e⟩ | ⟨g, e⟩
    ·have : k = d := by have := hmin k g; omega
     subst this
     right
     simp only [Z56, if_true, e, Y8, Y0]
     rfl
    ·left
     have hne : k ≠ d := fun h => g (h ▸ hg)
     refine ⟨(k + 1, (([], 0, 0), 0)), ?_, ⟨trivial, k + 1, by omega, by omega, rfl⟩, by simp; omega⟩
     simp only [Z56, if_true, e, Y8, Y0];rw [ZS (show _ by omega)]
     rfl
   ·left
    have hne : k ≠ d := fun h => hkd (h ▸ hg.dvd)
    refine ⟨(k + 1, (([], 0, 0), 0)), ?_, ⟨trivial, k + 1, by omega, by omega, rfl⟩, by simp; omega⟩
    rw [beq_f (fun h => hkd (Int.dvd_of_tmod_eq_zero h)), cond_false]
    simp only [Y0, cond_false];rw [ZS (show _ by omega)]
  unfold Zz;rw [hloop]
  rfl
end Go.Dn

namespace Go.Dn
open Go
def Turn (h : Int → List Span) (d q : Int) : Prop := ∀ i, h (i + d) = (h i).map (Ze q)
theorem Turn.neg {h : Int → List Span} {d q : Int} (t : Turn h d q) : Turn h (-d) (-q) := fun i => by
 have := t (i + -d)
 rw [show i + -d + d = i by omega] at this
 rw [this, Z0U, Int.add_right_neg, Z4v]
theorem Turn.add {h : Int → List Span} {d q d' q' : Int} (t : Turn h d q) (t' : Turn h d' q') : Turn h (d + d') (q + q') := fun i => by
 rw [show i + (d + d') = (i + d) + d' by omega, t', t, Z0U]
theorem Turn.zero (h : Int → List Span) : Turn h 0 0 := fun i => by rw [Int.add_zero, Z4v]
theorem Turn.nat {h : Int → List Span} {d q : Int} (t : Turn h d q) : ∀ k : Nat, Turn h (k * d) (k * q)
 | 0 => by simpa using Turn.zero h
 | k + 1 => by
  have := (Turn.nat t k).add t
  push_cast
  rw [Int.add_mul, Int.one_mul, Int.add_mul, Int.one_mul];exact this
theorem Turn.mul {h : Int → List Span} {d q : Int} (t : Turn h d q) (k : Int) : Turn h (k * d) (k * q) := by
 rcases Int.natAbs_eq k with e | e
 ·rw [e]; exact t.nat _
 ·rw [e, Int.neg_mul, Int.neg_mul]; exact (t.nat _).neg
theorem Turn.agree {h h' : Int → List Span} {d q a : Int} (t : Turn h d q) (t' : Turn h' d q) (hd : 0 < d) (he : ∀ i, a ≤ i → i < a + d → h i = h' i) : h = h' := by
 funext i
 have e : i = ((i - a) % d + a) + (i - a) / d * d := by
  have := Y0J (i - a) d
  rw [Int.mul_comm] at this;omega
 have h1 := Yr (i - a) (show d ≠ 0 by omega)
 have h2 := Y0E (i - a) hd
 rw [e, t.mul, t'.mul, he _ (by omega) (by omega)]
noncomputable def csz (f : Form) (i : Int) : List Span := if f.Count = 0 then [] else cs f i
theorem csz_pos {f : Form} (h0 : 0 < f.Count) : csz f = cs f := by funext i; exact if_neg (by omega)
theorem Z4Y {f : Form} {i : Int} (h : ¬ Z1p f i) : ZT f i = csz f i := by
 unfold csz
 by_cases h0 : f.Count = 0
 ·rw [if_pos h0, Z1F h h0]
 ·rw [if_neg h0, Z1I h h0]; rfl
theorem csz_bare {f : Form} (hs : Shape f) (hb : Bare f) (i : Int) : csz f i = [] := by
 unfold csz
 by_cases h0 : f.Count = 0
 ·rw [if_pos h0]
 ·rw [if_neg h0]; unfold cs; rw [hb _ (Z14 hs h0 i).2]; rfl
def Z1Q (f c : Form) : Prop := (Bare f ∧ c = Form.mk 0 0 [] []) ∨ (¬ Bare f ∧ 0 < f.Count ∧ ∃ d, Good f d ∧ (∀ d', Good f d' → d ≤ d') ∧ c = Form.mk (f.Period / (f.Count / d)) d (f.Core.take d.toNat) [])
theorem canon_core_ok {f : Form} (hl : Lim f) (hs : Shape f) : ∃ c, Zj f = some c ∧ Z1Q f c := by
 rcases canon_core_eq hl hs with ⟨h1, h2⟩ | ⟨h1, h2, d, h3, h4, h5⟩
 ·exact ⟨_, h2, .inl ⟨h1, rfl⟩⟩
 ·exact ⟨_, h5, .inr ⟨h1, h2, d, h3, h4, rfl⟩⟩
theorem Z1Q.odd {f c : Form} (h : Z1Q f c) : c.Odd = [] := by
 rcases h with ⟨_, rfl⟩ | ⟨_, _, d, _, _, rfl⟩ <;> rfl
theorem Z1Q.csz {f c : Form} (hs : Shape f) (h : Z1Q f c) : csz c = csz f := by
 rcases h with ⟨hb, rfl⟩ | ⟨hb, h0, d, hg, _, rfl⟩
 ·funext i; rw [csz_bare hs hb]; rfl
 ·have hd := hg.pos
  have hdn : d ≤ f.Count := Int.le_of_dvd h0 hg.dvd
  have hcnt := hs.count
  rw [csz_pos h0, csz_pos (show 0 < (Form.mk (f.Period / (f.Count / d)) d (f.Core.take d.toNat) []).Count by show 0 < d; omega)]
  refine Turn.agree (a := 0) (d := d) (q := f.Period / (f.Count / d)) (Z6L (f := Form.mk (f.Period / (f.Count / d)) d (f.Core.take d.toNat) []) (show d ≠ 0 by omega)) hg.turn (by omega) (fun i i0 i1 => ?_)
  rw [Z4K i0 (show i < d by omega), Z4K i0 (by omega)]
  show (f.Core.take d.toNat).getD i.toNat [] = _
  rw [YS, YS, List.getElem?_take_of_lt (by omega)]
theorem Z1Q.shape {f c : Form} (hs : Shape f) (h : Z1Q f c) : Shape c := by
 rcases h with ⟨hb, rfl⟩ | ⟨hb, h0, d, hg, _, rfl⟩
 ·exact ⟨rfl, by simp, by simp, by simp, by simp, fun j k a b _ h => by simp at h⟩
 ·have hd := hg.pos
  have hdn : d ≤ f.Count := Int.le_of_dvd h0 hg.dvd
  have hcnt := hs.count
  have hm : 0 < f.Count / d := Y0P h0 (by omega) hg.dvd
  have hp : 0 < f.Period := by
   have := hs.per; have := hs.zero
   rcases Int.lt_or_le 0 f.Period with h | h
   ·exact h
   ·have : f.Period = 0 := by omega
    have := hs.zero.2 this
    omega
  have hq : 0 < f.Period / (f.Count / d) := Y0P hp (by omega) (Int.dvd_of_emod_eq_zero hg.rest)
  have hq2 : f.Period / (f.Count / d) ≤ f.Period := Int.ediv_le_self _ (by omega)
  refine ⟨?_, ?_, ?_, ?_, by simp, fun j k a b _ h => by simp at h⟩
  ·simp only [YG]; omega
  ·simp only; omega
  ·simp only; have := hs.per; omega
  ·intro l hl'; exact hs.core l (Yb hl')
theorem Z1Q.lim {f c : Form} (hl : Lim f) (hs : Shape f) (h : Z1Q f c) : Lim c := by
 have hsc := h.shape hs
 have hn : c.Core.length ≤ f.Core.length ∧ ∀ l ∈ c.Core, l ∈ f.Core := by
  rcases h with ⟨hb, rfl⟩ | ⟨hb, h0, d, hg, _, rfl⟩
  ·exact ⟨Yd _, fun l hl' => by cases hl'⟩
  ·exact ⟨by simp only [YG]; omega, fun l hl' => Yb hl'⟩
 have hc := hl.core
 have h24 := YR 24 hn.1
 have hp := hsc.per
 have hcnt := hsc.count
 have hcl : (f.Core.length : Int) < 4611686018427387904 := Z0l (b := 23) hl.core
 exact ⟨by omega, fun l hl' => hl.sets l (hn.2 l hl'), by rw [h.odd]; simp [Z08], by rw [h.odd]; simp, by unfold In64; omega, by unfold In64; omega⟩
theorem Z1Q.ZT {f c : Form} (hs : Shape f) (h : Z1Q f c) (i : Int) : ZT c i = Go.Dn.csz f i := by
 rw [Z4Y (by rintro ⟨g, hg, _⟩; rw [h.odd] at hg; cases hg), h.csz hs]
theorem Z7a {f c : Form} (hl : Lim f) (hs : Shape f) (h : Z1Q f c) {g : Granule} (hg : g ∈ f.Odd) : ∃ r, Z2G c g = some r ∧ (r = true ↔ csz f g.Index = g.Ticks) := by
 obtain ⟨hr, ht⟩ := hs.odd g hg
 have hlc := h.lim hl hs
 have hsc := h.shape hs
 unfold Z2G
 rw [Z2y hlc hsc (Z1R ht)]
 by_cases hf : fits c g.Index
 ·rw [if_pos ⟨ht, hf⟩];obtain ⟨r, h1, h2⟩ := Z3L (a := Go.Dn.ZT c g.Index) (b := g.Ticks) (Z4W hlc hsc _)
  refine ⟨r, ?_, ?_⟩
  ·simp only [Y0];rw [beq_t rfl, cond_true, h1]; rfl
  ·rw [h2, h.ZT hs]
 ·rw [if_neg (fun h' => hf h'.2)]
  refine ⟨false, rfl, ⟨(fun h' => nomatch h'), fun e => absurd (fun s hs' => ?_) hf⟩⟩
  rw [h.ZT hs, e] at hs';obtain ⟨k, hk⟩ := YC hs'
  have := Z3g.1 hr k s hk
  exact ⟨this.1, this.2.1⟩
open Classical in
noncomputable def oddly (f : Form) (g : Granule) : Bool := decide (¬ csz f g.Index = g.Ticks)
noncomputable def Z27 (f c : Form) : Form := Form.mk c.Period c.Count c.Core (f.Odd.filter (oddly f))
theorem Z3F {f : Form} (hl : Lim f) (hs : Shape f) : ∃ c, Z1Q f c ∧ ZL f = some (Z27 f c) := by
 obtain ⟨c, h1, hc⟩ := canon_core_ok hl hs
 refine ⟨c, hc, ?_⟩
 unfold ZL
 rw [h1]
 simp only [Y0]
 have hol : (f.Odd.length : Int) < 4611686018427387904 := Z0l (b := 31) hl.odd
 have hr := Z08
 have hro := Z35
 have : loopO (ZL.s0 f c) (0, []) = some (f.Odd.filter (oddly f)) := by
  refine Z0f (I := fun s r => r = f.Odd.filter (oddly f) ∧ ∃ k : Nat, k ≤ f.Odd.length ∧ s = ((k : Int), (f.Odd.take k).filter (oddly f))) (fun s => f.Odd.length - s.1.toNat) ?_ ⟨rfl, 0, Yd _, rfl⟩
  rintro s r ⟨rfl, k, hk, rfl⟩;unfold ZL.s0
  by_cases hlt : k < f.Odd.length
  ·left
   have hmem := Yc hlt
   obtain ⟨r, p1, p2⟩ := Z7a hl hs hc hmem
   have htk : f.Odd.take (k + 1) = f.Odd.take k ++ [f.Odd[k]] := (Y08 hlt).symm
   have hlen := (hl.ticks _ hmem).2.1
   unfold Len at hlen;refine ⟨((k : Int) + 1, (f.Odd.take (k + 1)).filter (oddly f)), ?_, ⟨rfl, k + 1, hlt, by push_cast; rfl⟩, by simp; omega⟩
   rw [Zc (show (k : Int) < f.Odd.length by omega), cond_true, at?_nat hlt]
   simp only [Y0, p1];rw [ZS (show _ by omega), htk, List.filter_append]
   cases r with
   | true =>
    have : oddly f f.Odd[k] = false := by unfold oddly; rw [decide_eq_false_iff_not]; exact fun h => h (p2.1 rfl)
    simp only [Yx, cond_false, Y0, List.filter_cons, this, YA, if_false, List.filter_nil, YL]
   | false =>
    have : oddly f f.Odd[k] = true := by unfold oddly; rw [decide_eq_true_iff]; exact fun h => by have := p2.2 h; cases this
    have hcp : clone? 16 f.Odd[k].Ticks = some f.Odd[k].Ticks := by unfold clone?; rw [if_pos (by omega)]
    have hfl : ((f.Odd.take k).filter (oddly f)).length ≤ k := by
     have := Y0I (oddly f) (f.Odd.take k)
     simp only [YG] at this;omega
    have hap : app? 32 ((f.Odd.take k).filter (oddly f)) [Granule.mk f.Odd[k].Index f.Odd[k].Ticks] = some ((f.Odd.take k).filter (oddly f) ++ [f.Odd[k]]) := by
     rw [app?_ok (by simp only [YH, YN]; have h3 := hl.odd; have := YR 32 (show ((f.Odd.take k).filter (oddly f)).length + 1 ≤ f.Odd.length by omega); omega)]
    simp only [Y0D, cond_true, Y0, hcp, hap, List.filter_cons, this, if_true, List.filter_nil]
  ·right
   have : k = f.Odd.length := by omega
   subst this;rw [Zt (show ¬ ((f.Odd.length : Int) < f.Odd.length) by omega), cond_false, Yw]
 rw [this]
 rfl
end Go.Dn

namespace Go.Dn
open Go
theorem ext_of {α : Type} {a b : List α} (hl : a.length = b.length) (h : ∀ (k : Nat) x y, a[k]? = some x → b[k]? = some y → x = y) : a = b := by
 apply List.ext_getElem hl
 intro k h1 h2
 exact h k _ _ (Y2 h1) (Y2 h2)
theorem sameSets_eq {x y : List (List Span)} (hc : x.length * 24 ≤ reachBytes) (hs : ∀ l ∈ x, Len l) : ∃ r, Z9 x y (fun z0 z1 => Z0C z0 z1) = some r ∧ (r = true ↔ x = y) := by
 have hl : (x.length : Int) < 4611686018427387904 := Z0l (b := 23) hc
 unfold Z9
 by_cases hlen : x.length = y.length
 ·rw [Z3R (by omega), cond_false]
  rcases Z3S (a := x) (b := y) (step := Z9.s0 x y (fun z0 z1 => Z0C z0 z1)) (eq := fun z0 z1 => Z0C z0 z1) (fun p q => p = q) (by omega) hlen (fun k p q hp hq => Z3L (hs p (Y7 hp))) (fun s => rfl) with ⟨h1, h2⟩ | ⟨h1, h2⟩
  ·rw [h1]; exact ⟨true, rfl, ⟨fun _ => ext_of hlen h2, fun _ => rfl⟩⟩
  ·rw [h1]; exact ⟨false, rfl, ⟨(fun h => nomatch h), fun e => absurd (fun k p q hp hq => by rw [e, hq] at hp; exact (Option.some.inj hp).symm) h2⟩⟩
 ·rw [bne_t (by omega), cond_true]
  exact ⟨false, rfl, ⟨(fun h => nomatch h), fun e => absurd (congrArg List.length e) hlen⟩⟩
theorem Z6b {x y : Granule} : x = y ↔ x.Index = y.Index ∧ x.Ticks = y.Ticks := by
 obtain ⟨a, b⟩ := x
 obtain ⟨c, d⟩ := y
 simp
theorem Z5w {x y : Granule} (h : Len x.Ticks) : ∃ r, Z0V x y = some r ∧ (r = true ↔ x = y) := by
 unfold Z0V
 rw [Z6b]
 by_cases hi : x.Index = y.Index
 ·rw [beq_t hi, cond_true];obtain ⟨r, h1, h2⟩ := Z3L (b := y.Ticks) h
  rw [h1];exact ⟨r, rfl, by rw [h2]; exact ⟨fun e => ⟨hi, e⟩, fun e => e.2⟩⟩
 ·rw [beq_f hi, cond_false];exact ⟨false, rfl, ⟨(fun h => nomatch h), fun e => absurd e.1 hi⟩⟩
theorem sameOdd_eq {x y : List Granule} (hc : x.length * 32 ≤ reachBytes) (hs : ∀ g ∈ x, Len g.Ticks) : ∃ r, Z1 x y (fun z0 z1 => Z0V z0 z1) = some r ∧ (r = true ↔ x = y) := by
 have hl : (x.length : Int) < 4611686018427387904 := Z0l (b := 31) hc
 unfold Z1
 by_cases hlen : x.length = y.length
 ·rw [Z3R (by omega), cond_false]
  rcases Z3S (a := x) (b := y) (step := Z1.s0 x y (fun z0 z1 => Z0V z0 z1)) (eq := fun z0 z1 => Z0V z0 z1) (fun p q => p = q) (by omega) hlen (fun k p q hp hq => Z5w (hs p (Y7 hp))) (fun s => rfl) with ⟨h1, h2⟩ | ⟨h1, h2⟩
  ·rw [h1]; exact ⟨true, rfl, ⟨fun _ => ext_of hlen h2, fun _ => rfl⟩⟩
  ·rw [h1]; exact ⟨false, rfl, ⟨(fun h => nomatch h), fun e => absurd (fun k p q hp hq => by rw [e, hq] at hp; exact (Option.some.inj hp).symm) h2⟩⟩
 ·rw [bne_t (by omega), cond_true]
  exact ⟨false, rfl, ⟨(fun h => nomatch h), fun e => absurd (congrArg List.length e) hlen⟩⟩
theorem form_ext {a b : Form} : a = b ↔ a.Period = b.Period ∧ a.Count = b.Count ∧ a.Core = b.Core ∧ a.Odd = b.Odd := by
 obtain ⟨a1, a2, a3, a4⟩ := a
 obtain ⟨b1, b2, b3, b4⟩ := b
 simp
theorem Z2t {a b : Form} (hl : Lim a) : ∃ r, Z1n a b = some r ∧ (r = true ↔ a = b) := by
 unfold Z1n
 rw [form_ext]
 by_cases hp : a.Period = b.Period ∧ a.Count = b.Count
 ·rw [beq_t hp.1, beq_t hp.2];simp only [Y07, cond_true];obtain ⟨r, h1, h2⟩ := sameSets_eq (y := b.Core) hl.core (fun l h => (hl.sets l h).1)
  rw [h1];simp only [Y0];cases r with
  | true =>
   obtain ⟨r', h3, h4⟩ := sameOdd_eq (y := b.Odd) hl.odd (fun g h => (hl.ticks g h).2.1)
   rw [cond_true, h3];exact ⟨r', rfl, by rw [h4]; exact ⟨fun e => ⟨hp.1, hp.2, h2.1 rfl, e⟩, fun e => e.2.2.2⟩⟩
  | false =>
   exact ⟨false, rfl, ⟨(fun h => nomatch h), fun e => by have := h2.2 e.2.2.1; cases this⟩⟩
 ·have : ((a.Period == b.Period) && (a.Count == b.Count)) = false := by
   rw [Y0G]
   by_cases h : a.Period = b.Period
   ·exact .inr (beq_f fun h' => hp ⟨h, h'⟩)
   ·exact .inl (beq_f h)
  rw [this];exact ⟨false, rfl, ⟨(fun h => nomatch h), fun e => absurd ⟨e.1, e.2.1⟩ hp⟩⟩
theorem alike_eq {a b : List Span} (ha : Len a) : ∃ r, Zb a b = some r ∧ (r = true ↔ a = b) := by
 have hl : (a.length : Int) < 9223372036854775807 := by have := Z08; unfold Len at ha; omega
 unfold Zb
 by_cases hlen : a.length = b.length
 ·rw [Z3R (by omega), cond_false]
  rcases Z3S (a := a) (b := b) (step := Zb.s0 a b) (eq := fun x y => some (decide (y = x))) (fun p q => p = q) hl hlen (fun k p q hp hq => ⟨_, rfl, by rw [decide_eq_true_iff]; exact ⟨Eq.symm, Eq.symm⟩⟩) (fun s => by
   unfold Zb.s0;simp only [span_beq]
   rfl) with ⟨h1, h2⟩ | ⟨h1, h2⟩
  ·rw [h1]; exact ⟨true, rfl, ⟨fun _ => ext_of hlen h2, fun _ => rfl⟩⟩
  ·rw [h1]; exact ⟨false, rfl, ⟨(fun h => nomatch h), fun e => absurd (fun k p q hp hq => by rw [e, hq] at hp; exact (Option.some.inj hp).symm) h2⟩⟩
 ·rw [bne_t (by omega), cond_true]
  exact ⟨false, rfl, ⟨(fun h => nomatch h), fun e => absurd (congrArg List.length e) hlen⟩⟩
theorem Z4s {a b : Form} (hl : Lim a) : ∃ r, Z5 a b = some r ∧ (r = true ↔ a = b) := by
 have hc : (a.Core.length : Int) < 4611686018427387904 := Z0l (b := 23) hl.core
 have ho : (a.Odd.length : Int) < 4611686018427387904 := Z0l (b := 31) hl.odd
 unfold Z5
 rw [form_ext]
 by_cases hp : a.Period = b.Period ∧ a.Count = b.Count ∧ a.Core.length = b.Core.length ∧ a.Odd.length = b.Odd.length
 ·obtain ⟨p1, p2, p3, p4⟩ := hp
  rw [Z3R p1, Z3R p2, Z3R (show (a.Core.length : Int) = b.Core.length by omega), Z3R (show (a.Odd.length : Int) = b.Odd.length by omega)]
  simp only [Bool.or_self, cond_false]
  rcases Z3S (a := a.Core) (b := b.Core) (step := Z5.s0 a b) (eq := Zb) (fun p q => p = q) (by omega) p3 (fun k p q hp hq => alike_eq (hl.sets p (Y7 hp)).1) (fun s => rfl) with ⟨h1, h2⟩ | ⟨h1, h2⟩
  ·rw [h1];simp only [Y0, Jx.elim];have ec := ext_of p3 h2
   rcases Z3S (a := a.Odd) (b := b.Odd) (step := Z5.s1 a b) (eq := fun x y => bif x.Index != y.Index then some false else Zb x.Ticks y.Ticks) (fun p q => p = q) (by omega) p4 (fun k p q hp hq => by
    rw [Z6b]
    by_cases hi : p.Index = q.Index
    ·rw [Z3R hi, cond_false];obtain ⟨r, q1, q2⟩ := alike_eq (b := q.Ticks) (hl.ticks p (Y7 hp)).2.1
     exact ⟨r, q1, by rw [q2]; exact ⟨fun e => ⟨hi, e⟩, fun e => e.2⟩⟩
    ·rw [bne_t hi, cond_true];exact ⟨false, rfl, ⟨(fun h => nomatch h), fun e => absurd e.1 hi⟩⟩) (fun s => by
    unfold Z5.s1
    rcases e1 : at? a.Odd s with _ | x
    ·rfl
    rcases e2 : at? b.Odd s with _ | y
    ·rfl
    simp only [Y0];cases x.Index != y.Index with
    | true => rfl
    | false =>
     simp only [cond_false]
     rcases Zb x.Ticks y.Ticks with _ | r
     ·rfl
     ·rfl) with ⟨h3, h4⟩ | ⟨h3, h4⟩
   ·rw [h3]; exact ⟨true, rfl, ⟨fun _ => ⟨p1, p2, ec, ext_of p4 h4⟩, fun _ => rfl⟩⟩
   ·rw [h3]; exact ⟨false, rfl, ⟨(fun h => nomatch h), fun e => absurd (fun k p q hp hq => by rw [e.2.2.2, hq] at hp; exact (Option.some.inj hp).symm) h4⟩⟩
  ·rw [h1]; exact ⟨false, rfl, ⟨(fun h => nomatch h), fun e => absurd (fun k p q hp hq => by rw [e.2.2.1, hq] at hp; exact (Option.some.inj hp).symm) h2⟩⟩
 ·refine ⟨false, ?_, ⟨(fun h => nomatch h), fun e => absurd ⟨e.1, e.2.1, by rw [e.2.2.1], by rw [e.2.2.2]⟩ hp⟩⟩
  have : ((((a.Period != b.Period) || (a.Count != b.Count)) || ((a.Core.length : Int) != (b.Core.length : Int))) || ((a.Odd.length : Int) != (b.Odd.length : Int))) = true := by
   simp only [Ym, bne_iff_ne, ne_eq];apply Classical.byContradiction;intro hn;apply hp;refine ⟨?_, ?_, ?_, ?_⟩ <;> apply Classical.byContradiction <;> intro h <;> apply hn
   ·exact .inl (.inl (.inl h))
   ·exact .inl (.inl (.inr h))
   ·exact .inl (.inr (by omega))
   ·exact .inr (by omega)
  rw [this]; rfl
end Go.Dn

namespace Go.Dn
open Go
theorem Z5d {l : List Granule} : Inc l ↔ l.Pairwise (fun a b => a.Index < b.Index) := by
 rw [Ys]
 constructor
 ·intro h i j hi hj hij;exact h i j _ _ hij (Y2 hi) (Y2 hj)
 ·intro h j k a b hjk ha hb;obtain ⟨h1, rfl⟩ := List.getElem?_eq_some_iff.1 ha
  obtain ⟨h2, rfl⟩ := List.getElem?_eq_some_iff.1 hb
  exact h j k h1 h2 hjk
theorem Inc.filter {l : List Granule} (h : Inc l) (p : Granule → Bool) : Inc (l.filter p) := Z5d.2 ((Z5d.1 h).filter p)
theorem Z7M {f c : Form} (hs : Shape f) (h : Z1Q f c) : csz (Z27 f c) = csz f := by
 rw [← h.csz hs]; rfl
theorem oddly_iff {f : Form} {g : Granule} : oddly f g = true ↔ ¬ csz f g.Index = g.Ticks := by unfold oddly; rw [decide_eq_true_iff]
theorem Z3r {f c : Form} {g : Granule} : g ∈ (Z27 f c).Odd ↔ g ∈ f.Odd ∧ oddly f g = true := List.mem_filter
theorem Z5Y {f c : Form} (hs : Shape f) (h : Z1Q f c) : ZT (Z27 f c) = ZT f := by
 funext i
 by_cases ho : Z1p f i
 ·obtain ⟨g, hg, rfl⟩ := ho
  rw [Z0Y hs.inc hg]
  by_cases hod : oddly f g = true
  ·exact Z0Y (hs.inc.filter _) (Z3r.2 ⟨hg, hod⟩)
  ·have he : csz f g.Index = g.Ticks := Classical.byContradiction fun hn => hod (oddly_iff.2 hn)
   rw [Z4Y (f := Z27 f c), Z7M hs h, he]
   rintro ⟨g', hg', e⟩;obtain ⟨m1, m2⟩ := Z3r.1 hg'
   have := hs.inc.uniq m1 hg e
   subst this;exact hod m2
 ·rw [Z4Y ho, Z4Y (f := Z27 f c), Z7M hs h]
  rintro ⟨g', hg', e⟩;exact ho ⟨g', (Z3r.1 hg').1, e⟩
theorem Z7e {f c : Form} (hl : Lim f) (hs : Shape f) (h : Z1Q f c) : Lim (Z27 f c) := by
 have := h.lim hl hs
 refine ⟨this.core, this.sets, ?_, fun g hg => hl.ticks g (Z3r.1 hg).1, this.count, this.period⟩
 have h1 : (Z27 f c).Odd.length ≤ f.Odd.length := Y0I _ _
 have := hl.odd
 have := YR 32 h1
 omega
end Go.Dn

namespace Go.Dn
open Go
theorem Z4f {f : Form} (hl : Lim f) : ∃ b, Zs f = some b ∧ (b = true ↔ SmallF f ∧ RightF f) := by
 unfold Zs
 obtain ⟨b, hb, hbs⟩ := Z4b hl
 rw [hb]
 simp only [Y0]
 cases b with
 | false => exact ⟨false, rfl, fun h => (by cases h), fun h => by have := hbs.2 h.1; cases this⟩
 | true =>
  have hsm := hbs.1 rfl
  have hnl : ¬ LongF f := by unfold LongF; have := hsm.1; have := hsm.2.1; have := hsm.2.2; omega
  rw [cond_true]
  rcases Z4i hl with ⟨h, _⟩ | ⟨_, h1, h2⟩ | ⟨_, h1, h2⟩
  ·exact absurd h hnl
  ·rw [h2]; exact ⟨true, rfl, fun _ => ⟨hsm, h1⟩, fun _ => rfl⟩
  ·rw [h2]; exact ⟨false, rfl, fun h => (by cases h), fun h => absurd h.2 h1⟩
end Go.Dn

namespace Go.Dn
open Go
theorem shift_ne {l : List Span} (hn : l ≠ []) {a b : Int} (h : l.map (Ze a) = l.map (Ze b)) : a = b := by
 cases l with
 | nil => exact absurd rfl hn
 | cons s l =>
  simp only [List.map_cons, List.cons.injEq, Ze, Span.mk.injEq] at h;omega
theorem Turn.uniq {h : Int → List Span} {d q q' : Int} (t : Turn h d q) (t' : Turn h d q') {i : Int} (hn : h i ≠ []) : q = q' := shift_ne hn ((t i).symm.trans (t' i))
def NearF (f : Form) (m : Int) : Prop := ∀ g ∈ f.Odd, -m ≤ g.Index ∧ g.Index ≤ m
end Go.Dn

namespace Go.Dn
open Go
end Go.Dn

namespace Go.Dn
open Go
theorem anew_eq {l : List Span} (hl : Len l) : Z18 l = some l := by
 unfold Z18 new?
 have hr := Z08
 have hro := Z35
 unfold Len at hl
 rw [if_pos ⟨by omega, by omega⟩]
 simp only [Y0, Y5]
 unfold cpy
 simp
theorem anewForm_eq {f : Form} (hl : Lim f) : ZJ f = some f := by
 have hr := Z08
 have hro := Z35
 have hcl : (f.Core.length : Int) < 4611686018427387904 := Z0l (b := 23) hl.core
 have hol : (f.Odd.length : Int) < 4611686018427387904 := Z0l (b := 31) hl.odd
 have h1 : loopO (ZJ.s0 f) (0, []) = some f.Core := by
  refine Z0f (I := fun s r => r = f.Core ∧ ∃ k : Nat, k ≤ f.Core.length ∧ s = ((k : Int), f.Core.take k)) (fun s => f.Core.length - s.1.toNat) ?_ ⟨rfl, 0, Yd _, rfl⟩
  rintro s r ⟨rfl, k, hk, rfl⟩;unfold ZJ.s0
  by_cases hlt : k < f.Core.length
  ·left
   have htk : f.Core.take (k + 1) = f.Core.take k ++ [f.Core[k]] := (Y08 hlt).symm
   refine ⟨((k : Int) + 1, f.Core.take (k + 1)), ?_, ⟨rfl, k + 1, hlt, by push_cast; rfl⟩, by simp; omega⟩
   have hc := hl.core
   rw [Zc (show (k : Int) < f.Core.length by omega), cond_true, at?_nat hlt]
   simp only [Y0, anew_eq (hl.sets _ (Yc hlt)).1];rw [app?_ok (by simp only [YG, YH, YN]; omega), ZS (show _ by omega), htk]
   rfl
  ·right
   have : k = f.Core.length := by omega
   subst this;rw [Zt (by omega), cond_false, Yw]
 have h2 : loopO (ZJ.s1 f) (0, []) = some f.Odd := by
  refine Z0f (I := fun s r => r = f.Odd ∧ ∃ k : Nat, k ≤ f.Odd.length ∧ s = ((k : Int), f.Odd.take k)) (fun s => f.Odd.length - s.1.toNat) ?_ ⟨rfl, 0, Yd _, rfl⟩
  rintro s r ⟨rfl, k, hk, rfl⟩;unfold ZJ.s1
  by_cases hlt : k < f.Odd.length
  ·left
   have htk : f.Odd.take (k + 1) = f.Odd.take k ++ [f.Odd[k]] := (Y08 hlt).symm
   refine ⟨((k : Int) + 1, f.Odd.take (k + 1)), ?_, ⟨rfl, k + 1, hlt, by push_cast; rfl⟩, by simp; omega⟩
   have hc := hl.odd
   rw [Zc (show (k : Int) < f.Odd.length by omega), cond_true, at?_nat hlt]
   simp only [Y0, anew_eq (hl.ticks _ (Yc hlt)).2.1];rw [app?_ok (by simp only [YG, YH, YN]; omega), ZS (show _ by omega), htk]
   rfl
  ·right
   have : k = f.Odd.length := by omega
   subst this;rw [Zt (by omega), cond_false, Yw]
 unfold ZJ
 rw [h1, h2]
 rfl
end Go.Dn

namespace Go.Dn
open Go
def Mid (x : Int) : Prop := -1000000000000000000 ≤ x ∧ x ≤ 1000000000000000000
end Go.Dn

namespace Go.Dn
open Go
end Go.Dn

namespace Go.Dn
open Go
def repC (f : Form) : Nat → List (List Span)
 | 0 => []
 | k + 1 => repC f k ++ f.Core.map (fun l => l.map (Ze (k * f.Period)))
def FitK (f : Form) (k : Nat) : Prop := ∀ l ∈ f.Core, ∀ s ∈ l, ZF (s.From + k * f.Period) ∧ ZF (s.To + k * f.Period)
end Go.Dn

namespace Go.Dn
open Go
theorem weeks_lim : Lim ZB := by
 have hr := Z08
 unfold ZB
 refine ⟨by simp only [YH, YN]; omega, ?_, by simp, by simp, by unfold In64; simp, by unfold In64; simp⟩
 intro l hl
 simp only [YQ] at hl
 subst hl
 refine ⟨by unfold Len; simp only [YH, YN]; omega, fun s hs => ?_⟩
 simp only [YQ] at hs
 subst hs
 exact ⟨by unfold In64; simp, by unfold In64; simp⟩
theorem weeks_shape : Shape ZB := by
 unfold ZB
 refine ⟨rfl, by simp, by simp, ?_, by simp, by intro j k a b hjk ha; simp at ha⟩
 intro l hl
 simp only [YQ] at hl
 subst hl
 refine ⟨fun i s hs => ?_, fun i s t hs ht => ?_⟩
 ·cases i with
  | zero => cases hs; exact ⟨by unfold ZF; simp, by unfold ZF; simp, by simp⟩
  | succ i => simp at hs
 ·simp at ht
theorem weeks_canon : ZL ZB = some ZB := by
 obtain ⟨c, c1, c2⟩ := Z3F weeks_lim weeks_shape
 rw [c2]
 have hc : c = ZB := by
  rcases c1 with ⟨h, _⟩ | ⟨_, _, d, hg, hm, rfl⟩
  ·have := h [⟨0, 4⟩] (by unfold ZB; simp)
   cases this
  ·have hd := hg.dvd
   have h1 : (ZB).Count = 1 := rfl
   rw [h1] at hd;have hd1 : d = 1 := by
    have := hg.pos
    have := Int.le_of_dvd (by omega) hd
    omega
   subst hd1
   rfl
 subst hc
 rfl
structure Unl (f : Form) (g : Granule) (y : List Granule) : Prop where
 has : g ∈ y
 len : y.length ≤ 10
 of : ∀ x ∈ y, x ∈ f.Odd ∨ x = g
theorem Z6a {f : Form} (ho : f.Odd.length ≤ 8) {at' : Int} (hat : In64 at') (l : List Span) :
  ∃ r, loopO (Z6.s0 at' l f) (false, 0, []) = some r ∧ r.2.length ≤ 9 ∧ (∀ x ∈ r.2, x ∈ f.Odd ∨ x = ⟨at', l⟩) ∧ (r.1 = true → (⟨at', l⟩ : Granule) ∈ r.2) := by
 have hr := Z35
 obtain ⟨r, q1, q2⟩ := Z1o (step := Z6.s0 at' l f)
  (fun s => ∃ (k : Nat) (p : Bool) (acc : List Granule), k ≤ f.Odd.length ∧ s = (p, (k : Int), acc) ∧ acc.length ≤ k + (if p then 1 else 0) ∧ (∀ x ∈ acc, x ∈ f.Odd ∨ x = ⟨at', l⟩) ∧ (p = true → (⟨at', l⟩ : Granule) ∈ acc))
  (fun s => f.Odd.length - s.2.1.toNat)
  (fun r => r.2.length ≤ 9 ∧ (∀ x ∈ r.2, x ∈ f.Odd ∨ x = ⟨at', l⟩) ∧ (r.1 = true → (⟨at', l⟩ : Granule) ∈ r.2)) (by
   rintro s ⟨k, p, acc, hk, rfl, ha, ham, hp⟩;unfold Z6.s0;rw [ZS (x := at') hat]
   have ha9 : acc.length ≤ k + 1 := by split at ha <;> omega
   by_cases hlt : k < f.Odd.length
   ·left
    rw [Zc (show (k : Int) < f.Odd.length by omega), cond_true, at?_nat hlt]
    have hm := Yc hlt
    simp only [Y0];obtain ⟨q, a2, e1, hq, hqm, hqp⟩ : ∃ (q : Bool) (a2 : List Granule), (bif ((!p) && (decide (f.Odd[k].Index ≥ at'))) then (app? 32 acc [(Granule.mk at' l)]).bind fun x10 => some (true, x10) else some (p, acc)) = some (q, a2) ∧
      a2.length ≤ k + (if q then 1 else 0) ∧ (∀ x ∈ a2, x ∈ f.Odd ∨ x = ⟨at', l⟩) ∧ (q = true → (⟨at', l⟩ : Granule) ∈ a2) := by
     cases hc : ((!p) && (decide (f.Odd[k].Index ≥ at'))) with
     | true =>
      rw [Y9] at hc;have hpf : p = false := by simpa using hc.1
      subst hpf;rw [cond_true, app?_ok (by simp only [YH, YN]; omega)]
      refine ⟨true, _, rfl, by simp at ha ⊢; omega, fun x hx => ?_, fun _ => by simp⟩
      rcases List.mem_append.1 hx with h | h
      ·exact ham x h
      ·exact .inr (List.mem_singleton.1 h)
     | false => exact ⟨p, acc, rfl, ha, ham, hp⟩
    rw [e1];simp only [Y0];have hq9 : a2.length ≤ k + 1 := by split at hq <;> omega
    by_cases he : f.Odd[k].Index = at'
    ·rw [Z3R he, cond_false];simp only [Y0];rw [ZS (by omega)]
     exact ⟨_, rfl, ⟨k + 1, q, a2, hlt, by push_cast; rfl, by split at hq <;> simp_all <;> omega, hqm, hqp⟩, by simp only; omega⟩
    ·rw [bne_t he, cond_true, app?_ok (by simp only [YH, YN]; omega)]
     simp only [Y0];rw [ZS (by omega)]
     refine ⟨_, rfl, ⟨k + 1, q, a2 ++ [f.Odd[k]], hlt, by push_cast; rfl, by simp only [YX, YH, YN]; omega, fun x hx => ?_, fun h => Yn _ (hqp h)⟩, by simp only; omega⟩
     rcases List.mem_append.1 hx with h | h
     ·exact hqm x h
     ·rw [YQ] at h; subst h; exact .inl hm
   ·right
    obtain rfl : k = f.Odd.length := by omega
    rw [Zt (by simp only; omega), cond_false]
    exact ⟨_, rfl, by simp only; omega, ham, hp⟩) (false, 0, []) ⟨0, false, [], Yd _, rfl, by simp, by simp, nofun⟩
 exact ⟨r, q1, q2⟩
theorem unlike_loop1 {f : Form} (at' : Int) (l : List Span) : loopO (Z6.s1 at' f) (false, 0, [], l) = (loopO (Z6.s0 at' l f) (false, 0, [])).map fun r => (r.1, r.2, l) := by
 have key : ∀ k (p : Bool) (i : Int) (acc : List Granule), Z1q (Z6.s1 at' f) k (p, i, acc, l) = (Z1q (Z6.s0 at' l f) k (p, i, acc)).map fun r => (r.1, r.2, l) := by
  intro k
  induction k with
  | zero => intro p i acc; rfl
  | succ k ih =>
   intro p i acc;simp only [Z1q];unfold Z6.s0 Z6.s1;simp only;cases decide (i < (f.Odd.length : Int)) with
   | false => rfl
   | true =>
    simp only [cond_true];cases at? f.Odd i with
    | none => rfl
    | some x =>
     simp only [Y0];cases ((!p) && (decide (x.Index ≥ (w64 at')))) with
     | true =>
      simp only [cond_true];cases app? 32 acc [(Granule.mk (w64 at') l)] with
      | none => rfl
      | some a =>
       simp only [Y0];cases x.Index != w64 at' with
       | false => simp only [cond_false, Y0]; exact ih _ _ _
       | true =>
        simp only [cond_true];cases app? 32 a [x] with
        | none => rfl
        | some b => simp only [Y0]; exact ih _ _ _
     | false =>
      simp only [cond_false, Y0];cases x.Index != w64 at' with
      | false => simp only [cond_false, Y0]; exact ih _ _ _
      | true =>
       simp only [cond_true];cases app? 32 acc [x] with
       | none => rfl
       | some b => simp only [Y0]; exact ih _ _ _
 cases hl : loopO (Z6.s0 at' l f) (false, 0, []) with
 | some r =>
  obtain ⟨k, hk⟩ := ZI.1 hl
  exact ZI.2 ⟨k, by rw [key, hk]; rfl⟩
 | none =>
  cases hl' : loopO (Z6.s1 at' f) (false, 0, [], l) with
  | none => rfl
  | some r' =>
   obtain ⟨k, hk⟩ := ZI.1 hl'
   rw [key, Y1] at hk;obtain ⟨r, hr, _⟩ := hk
   rw [ZI.2 ⟨k, hr⟩] at hl;cases hl
theorem Z70 {f : Form} (hl : Lim f) (sf : SmallF f) (hs : Shape f) {at' : Int} (hat : In64 at') {l : List Span} (l1 : Len l) (l2 : Sp64 l) (hne : l ≠ ZT f at') {y : List Granule} (hy : Unl f ⟨at', l⟩ y) :
  ((Zk (Form.mk f.Period f.Count f.Core y)).bind fun x13 =>
    (bif (x13 != 0) then
     some ZE
    else
     (Zi f (Form.mk f.Period f.Count f.Core y)).bind fun x14 =>
     (
      (bif (!x14) then
       (ZL f).bind fun x15 =>
       (ZL (Form.mk f.Period f.Count f.Core y)).bind fun x16 =>
       (Z5 x15 x16).bind fun x17 =>
       some (!x17)
      else
       some false)).bind fun (y6 : Bool) =>
     (
      (bif y6 then
       (Zi (Form.mk f.Period f.Count f.Core y) (Form.mk f.Period f.Count f.Core y)).bind fun x18 =>
       some x18
      else
       some false)).bind fun (y7 : Bool) =>
     (
      (bif y7 then
       (Zi (Form.mk f.Period f.Count f.Core y) ZB).bind fun x19 =>
       (ZL (Form.mk f.Period f.Count f.Core y)).bind fun x20 =>
       (Z5 x20 ZB).bind fun x21 =>
       some ((!x19) == (!x21))
      else
       some false)).bind fun (y8 : Bool) =>
     some (y8 && ZE))) = some true := by
 have hrb := Z08
 have s1 := sf.1
 have s2 := sf.2.1
 have y2 := hy.len
 have limg : Lim (Form.mk f.Period f.Count f.Core y) := ⟨hl.core, hl.sets, by simp only; omega, fun g hg => by
  rcases hy.of g hg with h | rfl
  ·exact hl.ticks g h
  ·exact ⟨hat, l1, l2⟩, hl.count, hl.period⟩
 rcases Z4i limg with ⟨_, h⟩ | ⟨_, rg, h⟩ | ⟨_, _, h⟩
 ·rw [h]; rfl
 ·rw [h];simp only [Y0, bne_self_eq_false, cond_false];generalize hgd : Form.mk f.Period f.Count f.Core y = g at *
  have hgo : g.Odd = y := by rw [← hgd]
  obtain ⟨c, c1, c2⟩ := Z3F hl hs
  obtain ⟨c', d1, d2⟩ := Z3F limg rg.shape
  have lc := Z7e hl hs c1
  have lc' := Z7e limg rg.shape d1
  have hdiff : Z27 f c ≠ Z27 g c' := fun h => by
   have e1 := Z5Y hs c1
   have e2 := Z5Y rg.shape d1
   rw [h, e2] at e1;have e3 := congrFun e1 at'
   have e4 := Z0Y rg.shape.inc (g := ⟨at', l⟩) (hgo ▸ hy.has)
   exact hne (e4.symm.trans e3)
  obtain ⟨r1, a1, a2⟩ := Z2t (b := Z27 g c') lc
  obtain ⟨r2, a3, a4⟩ := Z4s (b := Z27 g c') lc
  obtain ⟨r3, a5, a6⟩ := Z2t (b := Z27 g c') lc'
  obtain ⟨r4, a7, a8⟩ := Z2t (b := ZB) lc'
  obtain ⟨r5, a9, a0⟩ := Z4s (b := ZB) lc'
  have h1 : r1 = false := by cases r1 with | false => rfl | true => exact absurd (a2.1 rfl) hdiff
  have h2 : r2 = false := by cases r2 with | false => rfl | true => exact absurd (a4.1 rfl) hdiff
  have h3 : r3 = true := a6.2 rfl
  have h4 : r4 = r5 := by
   rw [Bool.eq_iff_iff, a8, a0]
  subst h1 h2 h3 h4;have e1 : Zi f g = some false := by unfold Zi; rw [c2, d2]; simp only [Y0, a1]
  have e2 : Zi g g = some true := by unfold Zi; rw [d2]; simp only [Y0, a5]
  have e3 : Zi g ZB = some r4 := by unfold Zi; rw [d2, weeks_canon]; simp only [Y0, a7]
  rw [e1];simp only [Y0, Y0D, cond_true, c2, d2, a3, e2, e3, a9];simp only [beq_self_eq_true, Bool.true_and]
  rfl
 ·rw [h]; rfl
theorem Z66 (f : Form) (at' : Int) (hf : f.ok) (ha : okI .i8 at') : Z6 f at' = some true := by
 have hl := Form.lim hf
 have hr := Z35
 have hrb := Z08
 rw [okI_i8] at ha
 have hat : In64 at' := by unfold In64; omega
 unfold Z6
 obtain ⟨b1, e1, i1⟩ := Z4f hl
 rw [e1]
 cases b1 with
 | false => rfl
 | true =>
 obtain ⟨sf, rf⟩ := i1.1 rfl
 have hs := rf.shape
 simp only [Y0, Yx, cond_false]
 rw [ZS (x := at') hat, Z2y hl hs hat]
 simp only [Y0]
 by_cases hfit : ZF at' ∧ fits f at'
 ·rw [if_pos hfit];simp only [bne_self_eq_false, Y0V];have hL := Z4J hs hfit.2
  have hln := Z4W hl hs at'
  generalize hlx : ZT f at' = lx at *
  cases hz : ((((lx.length : Int) == 0) || ((f.Odd.length : Int) == 8)) : Bool) with
  | true => rfl
  | false =>
  rw [Bool.or_eq_false_iff] at hz;have hn0 : lx.length ≠ 0 := by have := hz.1; simp at this; intro h; exact this (List.length_eq_zero_iff.1 h)
  rw [cond_false];have hlen64 := hln
  unfold Len at hlen64;have hw : w64 ((lx.length : Int) - 1) = ((lx.length - 1 : Nat) : Int) := by rw [ZS (by omega)]; omega
  rw [hw];have hlt : lx.length - 1 < lx.length := by omega
  rw [at?_nat hlt];simp only [Y0, Int.toNat_natCast];have hsp := hL.ok (lx.length - 1) lx[lx.length - 1] (Y2 hlt)
  have hwt : w64 (lx[lx.length - 1].To - 1) = lx[lx.length - 1].To - 1 := ZS (by have := hsp.2.1; unfold ZF at this; omega)
  rw [hwt];generalize hs2 : Span.mk lx[lx.length - 1].From (lx[lx.length - 1].To - 1) = s2;have hs2n : s2 ≠ lx[lx.length - 1] := by
   rw [← hs2];intro h;have := congrArg Span.To h
   simp only at this;omega
  have hlt2 : lx.length - 1 < (lx.set (lx.length - 1) s2).length := by rw [Y01]; omega
  rw [at?_nat hlt2];simp only [Y0];have hsp64 : Sp64 (lx.set (lx.length - 1) s2) := fun s hsm => by
   rcases List.mem_or_eq_of_mem_set hsm with h | rfl
   ·exact hL.sp64 s h
   ·rw [← hs2];have h1 := hsp.1
    have h2 := hsp.2.1
    unfold ZF at h1 h2;exact ⟨by unfold In64; simp only; omega, by unfold In64; simp only; omega⟩
  have hy : ∀ (l : List Span) (r : Bool × List Granule), r.2.length ≤ 9 → (∀ x ∈ r.2, x ∈ f.Odd ∨ x = ⟨at', l⟩) → (r.1 = true → (⟨at', l⟩ : Granule) ∈ r.2) → ∃ y, (bif (!r.1) then (app? 32 r.2 [(Granule.mk at' l)]).bind fun x12 => some x12 else some r.2) = some y ∧ Unl f ⟨at', l⟩ y := fun l r h1 h2 h3 => by
   cases hr1 : r.1 with
   | true => exact ⟨r.2, rfl, h3 hr1, by omega, h2⟩
   | false =>
    refine ⟨r.2 ++ [⟨at', l⟩], ?_, by simp, by simp only [YX, YH, YN]; omega, fun x hx => ?_⟩
    ·simp only [Y0D, cond_true];rw [app?_ok (by simp only [YH, YN]; omega)]; rfl
    ·rcases List.mem_append.1 hx with h | h
     ·exact h2 x h
     ·exact .inr (List.mem_singleton.1 h)
  rw [anewForm_eq hl];simp only [Y0];cases hgt : decide (((lx.set (lx.length - 1) s2)[lx.length - 1]).From > ((lx.set (lx.length - 1) s2)[lx.length - 1]).To) with
  | true =>
   rw [cond_true];have hcut : cut? (lx.set (lx.length - 1) s2) 0 ((lx.length - 1 : Nat) : Int) = some ((lx.set (lx.length - 1) s2).take (lx.length - 1)) := by
    unfold cut?;rw [if_pos ⟨by omega, by omega, by rw [Y01]; omega⟩]
    simp
   rw [hcut];simp only [Y0];obtain ⟨r, l1, l2, l3, l4⟩ := Z6a sf.2.1 hat ((lx.set (lx.length - 1) s2).take (lx.length - 1))
   rw [l1];simp only [Y0];obtain ⟨y, y1, y2⟩ := hy _ r l2 l3 l4
   rw [y1];simp only [Y0];refine Z70 hl sf hs hat ?_ (fun s hsm => hsp64 s (Yb hsm)) ?_ y2
   ·unfold Len; rw [YG, Y01]; omega
   ·rw [hlx];intro h;have := congrArg List.length h
    rw [YG, Y01] at this;omega
  | false =>
   rw [cond_false];rw [unlike_loop1];obtain ⟨r, l1, l2, l3, l4⟩ := Z6a sf.2.1 hat (lx.set (lx.length - 1) s2)
   rw [l1];simp only [Y8, Y0];obtain ⟨y, y1, y2⟩ := hy _ r l2 l3 l4
   rw [y1];simp only [Y0];refine Z70 hl sf hs hat ?_ hsp64 ?_ y2
   ·unfold Len; rw [Y01]; omega
   ·rw [hlx];intro h;have h1 : (lx.set (lx.length - 1) s2)[lx.length - 1]? = lx[lx.length - 1]? := by rw [h]
    rw [List.getElem?_set_self hlt, Y2 hlt] at h1;exact hs2n (Option.some.inj h1)
 ·rw [if_neg hfit]; rfl
end Go.Dn
