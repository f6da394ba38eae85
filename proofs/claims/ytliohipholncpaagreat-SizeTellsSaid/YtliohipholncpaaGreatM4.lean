/- Part 4 of what the row stands on. -/
import Derived.Test.YtliohipholncpaaGreatM3
set_option linter.unusedVariables false
set_option linter.unusedSimpArgs false
namespace Go.Dn
open Go Go.Proofs
set_option maxRecDepth 100000
set_option maxHeartbeats 4000000
theorem Z67 {f:size_form} {k:Int} {tell:size_place→size_place→Option (Int × Int)} {C:List Res} {cv0:PV} (hs0:cv0.one = true) (hp0:cv0.pure = true→C = []) (hf0:∀ z0 z1 y,tell z0 z1 = some y→CloH CX cv0 [(.agg (vs (size_place.cs z0))),(.agg (vs (size_place.cs z1)))] (.tup [(vi y.1),(vi y.2)]) C) {r:Int × Bool × Int} (h:Z7 f k tell = some r):FnH CX 28 [(.agg (vs (size_form.cs f))),(vi k),cv0] (.tup [(vi r.1),(vb r.2.1),(vi r.2.2)]) C:=by
 refine FnH.of Tryz.func28 V V V V (Z49 V (Z49 V (Z49 (Z4G hs0) all_nil))) V (fun h => hp0 (Z3A h 2 V)) ?_;intro σ L hC H;unfold Z7 at h;refine .tR 6 V H fun b1 σ H => (.boxH (cs:=(vG f)) H (by omega) (by omega) V V V fun σ H => (.boxH (cs:=[(vi k)]) H (by omega) (by omega) V V V fun σ H => (.boxH (cs:=[cv0]) H (by omega) (by omega) V (one_cells hs0) V fun σ H => (.aV V (.aV V (.aV V (.nila H fun H => (.tR 1 V H fun b2 σ H => ?_))))))));refine .Za (cs:=[(vi 0),(vb false)]) H (by omega) (by omega) V V fun σ H => (.nila H fun H => (.tR 2 V H fun b3 σ H => (.Z3U (fs:=[]) (cs:=[(.ptr (b1 + 1) 1 0),(.ptr (b1 + 2) 1 0),(.ptr (b2 + 0) 2 0)]) V V V V (.a1 (.clo 47 [] [(.ptr (b1 + 1) 1 0),(.ptr (b1 + 2) 1 0),(.ptr (b2 + 0) 2 0)]) V V (.nila H fun H => (.then (.tR 4 V H fun b4 σ H => (.fV H 3 V ?_))))))));refine .fV H 3 V (.lV H 3 V (.mV V (.nila H fun H => (.inBlock ?_))));obtain ⟨y1,hj1,h⟩:=bs h;obtain ⟨n1,hj1⟩:=ZM.1 hj1;refine .mono (Runs.loopO hj1 (fun s1 e σ => Z6 e [(3,(.ptr (b1 + 0) 5 0)),(4,(.ptr (b1 + 1) 1 0)),(9,(.ptr (b2 + 0) 2 0)),(10,(.clo 47 [] [(.ptr (b1 + 1) 1 0),(.ptr (b1 + 2) 1 0),(.ptr (b2 + 0) 2 0)])),(17,(vi f.Form.Count)),(18,(vi s1.1))]∧Hs σ (.blk (b2 + 0) 91 [(vi s1.2.1),(vb s1.2.2)] :: .blk (b1 + 2) 89 [cv0] :: .blk (b1 + 1) 3 [(vi k)] :: .blk (b1 + 0) 65 (vG f) :: L)) (fun y1 x e σ => (∃ a1,y1 = (.go a1)∧x = .exit 0∧Z6 e [(3,(.ptr (b1 + 0) 5 0)),(4,(.ptr (b1 + 1) 1 0)),(9,(.ptr (b2 + 0) 2 0)),(10,(.clo 47 [] [(.ptr (b1 + 1) 1 0),(.ptr (b1 + 2) 1 0),(.ptr (b2 + 0) 2 0)]))]∧Hs σ (.blk (b2 + 0) 91 [(vi a1.1),(vb a1.2)] :: .blk (b1 + 2) 89 [cv0] :: .blk (b1 + 1) 3 [(vi k)] :: .blk (b1 + 0) 65 (vG f) :: L))∨(∃ r',y1 = (.ret r')∧x = .ret∧EndsH CX Tryz.f28.results.toList (.tup [(vi r'.1),(vb r'.2.1),(vi r'.2.2)]) L x e σ)) ⟨EI V,H⟩ ?_) ?_
 ·intro s1 e σ hI z h;obtain ⟨he,H⟩:=hI;obtain ⟨e,rfl⟩:=he.ex;unfold Z7.s0 at h;refine .tR 1 V H fun b5 σ H => (.iV V (.nila H fun H => (.then ?_)));refine .wh h V ?_ ?_ <;> intro h
  ·refine .skip (.then (.inBlock (.tR 2 V H fun b6 σ H => (.mV V (.aV V (.nila H fun H => (.tR 6 V H fun b7 σ H => (.m1 (.clo 47 [] [(.ptr (b1 + 1) 1 0),(.ptr (b1 + 2) 1 0),(.ptr (b2 + 0) 2 0)]) V V ?_))))))));refine .LV (vG f) H 3 V (.Z3U (fs:=[(.agg (vG f))]) (cs:=[]) V V V V (.mV V ?_));obtain ⟨y2,hj2,h⟩:=bs h;refine .Z6N (PostA:=fun r A => r = (vi y2.1)∧A = [.blk (b2 + 0) 91 [(vi y2.2.1),(vb y2.2.2)],.blk (b1 + 2) 89 [cv0],.blk (b1 + 1) 3 [(vi k)],.blk (b1 + 0) 65 (vG f)]) (cv:=(.clo 47 [] [(.ptr (b1 + 1) 1 0),(.ptr (b1 + 2) 1 0),(.ptr (b2 + 0) 2 0)])) (ys:=[(.clo 49 [(.agg (vG f))] []),(vi s1.1)]) (L:=L) [.blk (b2 + 0) 91 [(vi s1.2.1),(vb s1.2.2)],.blk (b1 + 2) 89 [cv0],.blk (b1 + 1) 3 [(vi k)],.blk (b1 + 0) 65 (vG f)] H V V (fun T1 hT H => Z2e Tryz.func47 V (fun _ => V) V V V V ?_) nofun V ?_
   ·replace h:=hj2;have hC:=hT _ hC;refine .tR 1 V H fun b8 σ H => (.aV V (.nila H fun H => (.tR 11 V H fun b9 σ H => (.m1 (.clo 49 [(.agg (vG f))] []) V V (.mV V ?_)))));obtain ⟨x1,q1,h⟩:=bs h;refine .callV (cv:=(.clo 49 [(.agg (vG f))] [])) (ys:=[(vi s1.1)]) (r:=(.tup [(.agg [(vi x1.1.first),(vi x1.1.last)]),(vb x1.2.1),(vi x1.2.2)])) H V V (CloH.clo (Fn.toH (Z3j q1) [])) .nil nofun V fun σ H => (.m1 (.tup [(.agg [(vi x1.1.first),(vi x1.1.last)]),(vb x1.2.1),(vi x1.2.2)]) V V (.xV V (.xV V (.xV V (.Za (cs:=[(vi 0),(vi 0)]) H (by omega) (by omega) V V fun σ H => (.sV [(vi x1.1.first),(vi x1.1.last)] H 0 V fun σ H => (.aV V (.aV V ?_))))))));refine .nila H fun H => (.then (.tR 6 V H fun b10 σ H => (.mV V (.iV V (.mV V ?_)))));refine .md H 3 [(25,(vb ((x1.2.2 != 0) || (!x1.2.1)))),(0,(.clo 49 [(.agg (vG f))] [])),(1,(vi s1.1)),(2,(.ptr (b1 + 1) 1 0)),(3,(.ptr (b1 + 2) 1 0)),(4,(.ptr (b2 + 0) 2 0)),(8,(.ptr (b9 + 7) 2 0)),(10,(vi x1.2.2))] (.blk (b9 + 7) 69 [(vi x1.1.first),(vi x1.1.last)] :: .blk (b2 + 0) 91 [(vi s1.2.1),(vb s1.2.2)] :: .blk (b1 + 2) 89 [cv0] :: .blk (b1 + 1) 3 [(vi k)] :: .blk (b1 + 0) 65 (vG f) :: T1) rfl ?_ fun e σ H => ?_
    ·refine .split V V ?_ ?_ <;> intro hc2
     ·refine .ps 2 V (.kT V (.nil ?_));exact ⟨⟨or_T hc2,V,V,V,V,V,V,V,U⟩,H.wk (by omega)⟩
     ·refine .mV V (.tV V (.kF V (.nil ?_)));exact ⟨⟨or_F hc2,V,V,V,V,V,V,V,U⟩,H.wk (by omega)⟩
    refine .nila H fun H => ?_;refine .wh h V ?_ ?_ <;> intro h
    ·refine .tR 2 V H fun b11 σ H => (.mV V (.aV V (.nila H fun H => (.ret ?_))));obtain rfl:=sj h;exact ⟨.inr V,_,Z0Y H (.tmp (v:=(vi x1.2.2)) V .nil),_,⟨V,V⟩,(H.erase 0)⟩
    refine .skip (.tR 13 V H fun b12 σ H => (.m1 (.clo 49 [(.agg (vG f))] []) V V (.mV V (.lV H 3 V (.iV V ?_)))));obtain ⟨x2,q2,h⟩:=bs h;refine .callV (cv:=(.clo 49 [(.agg (vG f))] [])) (ys:=[(vi (w64 (s1.1 + k)))]) (r:=(.tup [(.agg [(vi x2.1.first),(vi x2.1.last)]),(vb x2.2.1),(vi x2.2.2)])) H V V (CloH.clo (Fn.toH (Z3j q2) [])) .nil nofun V fun σ H => (.m1 (.tup [(.agg [(vi x2.1.first),(vi x2.1.last)]),(vb x2.2.1),(vi x2.2.2)]) V V (.xV V (.xV V (.xV V (.Za (cs:=[(vi 0),(vi 0)]) H (by omega) (by omega) V V fun σ H => (.sV [(vi x2.1.first),(vi x2.1.last)] H 0 V fun σ H => (.aV V (.aV V ?_))))))));refine .nila H fun H => (.then (.tR 6 V H fun b13 σ H => (.mV V (.iV V (.mV V ?_)))));refine .md H 3 [(41,(vb ((x2.2.2 != 0) || (!x2.2.1)))),(3,(.ptr (b1 + 2) 1 0)),(4,(.ptr (b2 + 0) 2 0)),(8,(.ptr (b9 + 7) 2 0)),(10,(vi x2.2.2)),(11,(.ptr (b12 + 9) 2 0))] (.blk (b12 + 9) 69 [(vi x2.1.first),(vi x2.1.last)] :: .blk (b9 + 7) 69 [(vi x1.1.first),(vi x1.1.last)] :: .blk (b2 + 0) 91 [(vi s1.2.1),(vb s1.2.2)] :: .blk (b1 + 2) 89 [cv0] :: .blk (b1 + 1) 3 [(vi k)] :: .blk (b1 + 0) 65 (vG f) :: T1) rfl ?_ fun e σ H => ?_
    ·refine .split V V ?_ ?_ <;> intro hc4
     ·refine .ps 2 V (.kT V (.nil ?_));exact ⟨⟨or_T hc4,V,V,V,V,V,U⟩,H.wk (by omega)⟩
     ·refine .mV V (.tV V (.kF V (.nil ?_)));exact ⟨⟨or_F hc4,V,V,V,V,V,U⟩,H.wk (by omega)⟩
    refine .nila H fun H => ?_;refine .wh h V ?_ ?_ <;> intro h
    ·refine .tR 2 V H fun b14 σ H => (.mV V (.aV V (.nila H fun H => (.ret ?_))));obtain rfl:=sj h;exact ⟨.inr V,_,Z0Y H (.tmp (v:=(vi x2.2.2)) V .nil),_,⟨V,V⟩,((H.erase 1).erase 0)⟩
    refine .skip (.tR 9 V H fun b15 σ H => (.lV H 3 V (.LV [(vi x1.1.first),(vi x1.1.last)] H 1 V (.LV [(vi x2.1.first),(vi x2.1.last)] H 0 V ?_))));obtain ⟨x3,q3,h⟩:=bs h;refine .callV (cv:=cv0) (ys:=[(.agg (vs (size_place.cs x1.1))),(.agg (vs (size_place.cs x2.1)))]) (r:=(.tup [(vi x3.1),(vi x3.2)])) H V V (hf0 x1.1 x2.1 _ q3) hC.push.push.push.push.push.push nofun V fun σ H => (.m1 (.tup [(vi x3.1),(vi x3.2)]) V V (.xV V (.xV V (.aV V (.aV V (.nila H fun H => (.then ?_)))))));refine .jn h .normal (fun y3 => [(10,(vi x3.2))]) (fun y3 => (.blk (b2 + 0) 91 [(vi y3.1),(vb y3.2)] :: .blk (b1 + 2) 89 [cv0] :: .blk (b1 + 1) 3 [(vi k)] :: .blk (b1 + 0) 65 (vG f) :: T1)) (fun y3 h => ?_) fun y3 e σ H h => ?_
    ·refine .tR 2 V H fun b16 σ H => (.mV V (.iV V (.nila H fun H => ?_)));refine .wh h V ?_ ?_ <;> intro h
     ·refine .Z4 3 V H fun b17 σ H => (.mV V (.Z0p (sz:=1) ([x3.1].map (cI .i64)) H (by omega) (by omega) V V V V V V V V V fun σ H => ?_));obtain ⟨y4,hj4,h⟩:=bs h;refine .Z6N (PostA:=fun r A => r = (.tup [])∧A = [.sl (.buf (b17 + 1) 1 1) 3 1 ([x3.1].map (cI .i64)) true,.blk (b12 + 9) 69 [(vi x2.1.first),(vi x2.1.last)],.blk (b9 + 7) 69 [(vi x1.1.first),(vi x1.1.last)],.blk (b2 + 0) 91 [(vi y4.1),(vb y4.2)],.blk (b1 + 2) 89 [cv0],.blk (b1 + 1) 3 [(vi k)],.blk (b1 + 0) 65 (vG f)]) (cv:=(.v (.fn 48))) (ys:=[(.ptr (b2 + 0) 2 0),(.buf (b17 + 1) 1 1)]) (L:=T1) [.sl (.buf (b17 + 1) 1 1) 3 1 ([x3.1].map (cI .i64)) true,.blk (b12 + 9) 69 [(vi x2.1.first),(vi x2.1.last)],.blk (b9 + 7) 69 [(vi x1.1.first),(vi x1.1.last)],.blk (b2 + 0) 91 [(vi s1.2.1),(vb s1.2.2)],.blk (b1 + 2) 89 [cv0],.blk (b1 + 1) 3 [(vi k)],.blk (b1 + 0) 65 (vG f)] H V V (fun T2 hT H => Z2e Tryz.func48 V (fun _ => V) V V V V ?_) nofun V ?_
      ·replace h:=hj4;have hC:=hT _ hC;refine .tR 3 V H fun b18 σ H => (.mB V (.Z48 (c:=(cI .i64)) (xs:=[x3.1]) H 0 V V V nofun V (.mV V (.nila H fun H => (.inBlock ?_)))));refine .lp h (fun s2 => [(0,(.ptr (b2 + 0) 2 0)),(6,(.buf (b17 + 1) 1 1)),(7,(vi ([x3.1].length:Int))),(8,(vi s2.1))]) (fun s2 => (.sl (.buf (b17 + 1) 1 1) 3 1 ([x3.1].map (cI .i64)) true :: .blk (b12 + 9) 69 [(vi x2.1.first),(vi x2.1.last)] :: .blk (b9 + 7) 69 [(vi x1.1.first),(vi x1.1.last)] :: .blk (b2 + 0) 91 [(vi s2.2.1),(vb s2.2.2)] :: .blk (b1 + 2) 89 [cv0] :: .blk (b1 + 1) 3 [(vi k)] :: .blk (b1 + 0) 65 (vG f) :: T2)) (.exit 0) (fun y5 => []) (fun y5 => (.sl (.buf (b17 + 1) 1 1) 3 1 ([x3.1].map (cI .i64)) true :: .blk (b12 + 9) 69 [(vi x2.1.first),(vi x2.1.last)] :: .blk (b9 + 7) 69 [(vi x1.1.first),(vi x1.1.last)] :: .blk (b2 + 0) 91 [(vi y5.1),(vb y5.2)] :: .blk (b1 + 2) 89 [cv0] :: .blk (b1 + 1) 3 [(vi k)] :: .blk (b1 + 0) 65 (vG f) :: T2)) (EI V) H (fun s2 e σ H z h => ?_) fun y5 e σ H h => ?_
       ·unfold Z7.s1 at h;refine .tR 1 V H fun b19 σ H => (.iV V (.nila H fun H => (.then ?_)));refine .wh h V ?_ ?_ <;> intro h
        ·refine .skip (.then ?_);refine .jn h .normal (fun y6 => [(0,(.ptr (b2 + 0) 2 0)),(6,(.buf (b17 + 1) 1 1)),(7,(vi ([x3.1].length:Int))),(8,(vi s2.1))]) (fun y6 => (.sl (.buf (b17 + 1) 1 1) 3 1 ([x3.1].map (cI .i64)) true :: .blk (b12 + 9) 69 [(vi x2.1.first),(vi x2.1.last)] :: .blk (b9 + 7) 69 [(vi x1.1.first),(vi x1.1.last)] :: .blk (b2 + 0) 91 [(vi y6.1),(vb y6.2)] :: .blk (b1 + 2) 89 [cv0] :: .blk (b1 + 1) 3 [(vi k)] :: .blk (b1 + 0) 65 (vG f) :: T2)) (fun y6 h => ?_) fun y6 e σ H h => ?_
         ·refine .inBlock ?_;refine .jn h .normal (fun y7 => [(0,(.ptr (b2 + 0) 2 0)),(6,(.buf (b17 + 1) 1 1)),(7,(vi ([x3.1].length:Int))),(8,(vi s2.1))]) (fun y7 => (.sl (.buf (b17 + 1) 1 1) 3 1 ([x3.1].map (cI .i64)) true :: .blk (b12 + 9) 69 [(vi x2.1.first),(vi x2.1.last)] :: .blk (b9 + 7) 69 [(vi x1.1.first),(vi x1.1.last)] :: .blk (b2 + 0) 91 [(vi y7.1),(vb y7.2)] :: .blk (b1 + 2) 89 [cv0] :: .blk (b1 + 1) 3 [(vi k)] :: .blk (b1 + 0) 65 (vG f) :: T2)) (fun y7 h => ?_) fun y7 e σ H h => ?_
          ·refine .tR 3 V H fun b20 σ H => ?_;obtain ⟨x4,q4,h⟩:=bs h;refine .Z3h H 0 V V V (at?_map q4) V V nofun V ?_;intro id1 hv1;refine .Z6j (id:=id1) (j:=0) (w:=(.int .i64 x4)) H 0 V hv1 (by simp) (at?_map q4) V (by simp) V V V nofun V ?_;refine .aV V (.nila H fun H => (.tR 13 V H fun b21 σ H => (.mP V (.Zh H 3 V V V nofun V (.fV H 3 V (.lV H 3 V (.tV V (.mV V ?_))))))));refine .md H 7 [(24,(vb ((!s2.2.2) || (decide (x4 > s2.2.1))))),(0,(.ptr (b2 + 0) 2 0)),(5,(vi x4)),(6,(.buf (b17 + 1) 1 1)),(7,(vi ([x3.1].length:Int))),(8,(vi s2.1))] (.sl (.buf (b17 + 1) 1 1) 3 1 ([x3.1].map (cI .i64)) true :: .blk (b12 + 9) 69 [(vi x2.1.first),(vi x2.1.last)] :: .blk (b9 + 7) 69 [(vi x1.1.first),(vi x1.1.last)] :: .blk (b2 + 0) 91 [(vi s2.2.1),(vb s2.2.2)] :: .blk (b1 + 2) 89 [cv0] :: .blk (b1 + 1) 3 [(vi k)] :: .blk (b1 + 0) 65 (vG f) :: T2) rfl ?_ fun e σ H => ?_
           ·refine .split V V ?_ ?_ <;> intro hc8
            ·refine .ps 6 V (.kT V (.nil ?_));exact ⟨⟨or_T hc8,V,V,V,V,V,U⟩,H.wk (by omega)⟩
            ·refine .mV V (.mP V (.wt V V (.Zh H 3 V V V nofun V (.fV H 3 V (.lV H 3 V (.iV V (.kF V (.nil ?_))))))));exact ⟨⟨or_F hc8,V,V,V,V,V,U⟩,H.wk (by omega)⟩
           refine .nila H fun H => ?_;refine .wh h V ?_ ?_ <;> intro h
           ·refine .Z4 9 V H fun b22 σ H => (.mP V (.mP V (.mV V (.Zh H 3 V V V nofun V (.fV H 3 V (.sV [(vi x4),(vb s2.2.2)] H 3 V fun σ H => (.Zh H 3 V V V nofun V (.fV H 3 V ?_))))))));refine .sV [(vi x4),(vb true)] H 3 V fun σ H => (.nila H fun H => ?_);obtain rfl:=sj h;exact ⟨V,EI V,H⟩
           refine .skip ?_;obtain rfl:=sj h;exact ⟨V,EI V,H⟩
          obtain rfl:=sj h;exact ⟨V,EI V,H⟩
         refine .Z4 2 V H fun b23 σ H => (.iV V (.mV V (.nila H fun H => ?_)));obtain rfl:=sj h;exact ⟨V,EI V,H⟩
        refine .exit ?_;obtain rfl:=sj h;exact ⟨nofun,⟨V,U,H⟩⟩
       obtain rfl:=sj h;exact ⟨.inl V,_,Z0Y H .nil,_,⟨V,V⟩,H⟩
      ·rintro _ _ σ ⟨rfl,rfl⟩ H;refine .nila H fun H => ?_;obtain rfl:=sj h;exact ⟨V,EI V,(((H.erase 2).erase 1).erase 0)⟩
     refine .skip ?_;obtain rfl:=sj h;exact ⟨V,EI V,((H.erase 1).erase 0)⟩
    refine .tR 2 V H fun b24 σ H => (.mV V (.aV V (.nila H fun H => (.ret ?_))));obtain rfl:=sj h;exact ⟨.inr V,_,Z0Y H (.tmp (v:=(vi x3.2)) V .nil),_,⟨V,V⟩,H⟩
   ·rintro _ _ σ ⟨rfl,rfl⟩ H;refine .iV V (.nila H fun H => ?_);refine .wh h V ?_ ?_ <;> intro h
    ·refine .tR 3 V H fun b25 σ H => (.aV V (.aV V (.aV V (.nila H fun H => (.ret ?_)))));obtain rfl:=sj h;exact ⟨nofun,(.inr ⟨_,V,V,(EndsH.H (xs:=[(vi 0),(vb false),(vi 10)]) (.inr V) H (.tmp (v:=(vi 0)) V (.tmp (v:=(vb false)) V (.tmp (v:=(vi 10)) V .nil))) (.two (.cons (.c (.v _)) (.cons (.c (.v _)) (.cons (.c (.v _)) .nil)))) 4 V)⟩)⟩
    refine .skip (.Z4 2 V H fun b26 σ H => (.iV V (.mV V (.nila H fun H => ?_))));obtain rfl:=sj h;exact ⟨V,EI V,H⟩
  refine .exit ?_;obtain rfl:=sj h;exact ⟨nofun,(.inl ⟨_,V,V,EI V,H⟩)⟩
 ·rintro x e σ (⟨a2,rfl,rfl,he,H⟩ | ⟨r',rfl,rfl,hE⟩)
  ·replace h:=jgo h;obtain ⟨e,rfl⟩:=he.ex;refine .then (.tR 5 V H fun b27 σ H => (.fV H 3 V (.fV H 3 V (.lV H 3 V (.nV V (.mV V (.nila H fun H => (.inBlock ?_))))))));obtain ⟨y8,hj8,h⟩:=bs h;obtain ⟨n3,hj8⟩:=ZM.1 hj8;refine .mono (Runs.loopO hj8 (fun s3 e σ => Z6 e [(3,(.ptr (b1 + 0) 5 0)),(4,(.ptr (b1 + 1) 1 0)),(9,(.ptr (b2 + 0) 2 0)),(10,(.clo 47 [] [(.ptr (b1 + 1) 1 0),(.ptr (b1 + 2) 1 0),(.ptr (b2 + 0) 2 0)])),(30,(vl Granule.cs f.Form.Odd)),(31,(vi (f.Form.Odd.length:Int))),(32,(vi s3.1))]∧Hs σ (.blk (b2 + 0) 91 [(vi s3.2.1),(vb s3.2.2)] :: .blk (b1 + 2) 89 [cv0] :: .blk (b1 + 1) 3 [(vi k)] :: .blk (b1 + 0) 65 (vG f) :: L)) (fun y8 x e σ => (∃ a3,y8 = (.go a3)∧x = .exit 2∧Z6 e [(9,(.ptr (b2 + 0) 2 0))]∧Hs σ (.blk (b2 + 0) 91 [(vi a3.1),(vb a3.2)] :: L))∨(∃ r',y8 = (.ret r')∧x = .ret∧EndsH CX Tryz.f28.results.toList (.tup [(vi r'.1),(vb r'.2.1),(vi r'.2.2)]) L x e σ)) ⟨EI V,H⟩ ?_) ?_
   ·intro s3 e σ hI z h;obtain ⟨he,H⟩:=hI;obtain ⟨e,rfl⟩:=he.ex;unfold Z7.s2 at h;refine .tR 1 V H fun b28 σ H => (.iV V (.nila H fun H => (.then ?_)));refine .wh h V ?_ ?_ <;> intro h
    ·refine .skip (.then ?_);obtain ⟨y9,hj9,h⟩:=bs h;refine .mono (Q:=fun x e σ => (∃ a4,y9 = (.go a4)∧x = .normal∧Z6 e [(3,(.ptr (b1 + 0) 5 0)),(4,(.ptr (b1 + 1) 1 0)),(9,(.ptr (b2 + 0) 2 0)),(10,(.clo 47 [] [(.ptr (b1 + 1) 1 0),(.ptr (b1 + 2) 1 0),(.ptr (b2 + 0) 2 0)])),(30,(vl Granule.cs f.Form.Odd)),(31,(vi (f.Form.Odd.length:Int))),(32,(vi s3.1))]∧Hs σ (.blk (b2 + 0) 91 [(vi a4.1),(vb a4.2)] :: .blk (b1 + 2) 89 [cv0] :: .blk (b1 + 1) 3 [(vi k)] :: .blk (b1 + 0) 65 (vG f) :: L))∨(∃ r',y9 = (.ret r')∧x = .ret∧EndsH CX Tryz.f28.results.toList (.tup [(vi r'.1),(vb r'.2.1),(vi r'.2.2)]) L x e σ)) ?_ ?_
     ·replace h:=hj9;refine .inBlock (.tR 4 V H fun b29 σ H => ?_);obtain ⟨x5,q5,h⟩:=bs h;refine .jV q5 V (.qV [(.int .i64 x5.Index),(.sl (x5.Ticks.map Span.cs))] V (.Za (cs:=[(vi 0),.nils]) H (by omega) (by omega) V V fun σ H => (.sV [(vi x5.Index),(vl Span.cs x5.Ticks)] H 0 V fun σ H => (.nila H fun H => (.then (.tR 4 V H fun b30 σ H => (.fV H 0 V (.lV H 0 V ?_))))))));refine .nV V (.iV V (.nila H fun H => ?_));refine .wh h V ?_ ?_ <;> intro h
      ·refine .exit ?_;obtain rfl:=sj h;exact (.inl ⟨_,V,V,EI V,(H.erase 0)⟩)
      refine .skip (.tR 18 V H fun b31 σ H => (.m1 (.clo 47 [] [(.ptr (b1 + 1) 1 0),(.ptr (b1 + 2) 1 0),(.ptr (b2 + 0) 2 0)]) V V (.LV (vG f) H 4 V (.Z3U (fs:=[(.agg (vG f))]) (cs:=[]) V V V V (.fV H 0 V (.lV H 0 V ?_))))));obtain ⟨y10,hj10,h⟩:=bs h;refine .Z6N (PostA:=fun r A => r = (vi y10.1)∧A = [.blk (b29 + 2) 50 [(vi x5.Index),(vl Span.cs x5.Ticks)],.blk (b2 + 0) 91 [(vi y10.2.1),(vb y10.2.2)],.blk (b1 + 2) 89 [cv0],.blk (b1 + 1) 3 [(vi k)],.blk (b1 + 0) 65 (vG f)]) (cv:=(.clo 47 [] [(.ptr (b1 + 1) 1 0),(.ptr (b1 + 2) 1 0),(.ptr (b2 + 0) 2 0)])) (ys:=[(.clo 50 [(.agg (vG f))] []),(vi x5.Index)]) (L:=L) [.blk (b29 + 2) 50 [(vi x5.Index),(vl Span.cs x5.Ticks)],.blk (b2 + 0) 91 [(vi s3.2.1),(vb s3.2.2)],.blk (b1 + 2) 89 [cv0],.blk (b1 + 1) 3 [(vi k)],.blk (b1 + 0) 65 (vG f)] H V V (fun T3 hT H => Z2e Tryz.func47 V (fun _ => V) V V V V ?_) nofun V ?_
      ·replace h:=hj10;have hC:=hT _ hC;refine .tR 1 V H fun b32 σ H => (.aV V (.nila H fun H => (.tR 11 V H fun b33 σ H => (.m1 (.clo 50 [(.agg (vG f))] []) V V (.mV V ?_)))));obtain ⟨x6,q6,h⟩:=bs h;refine .callV (cv:=(.clo 50 [(.agg (vG f))] [])) (ys:=[(vi x5.Index)]) (r:=(.tup [(.agg [(vi x6.1.first),(vi x6.1.last)]),(vb x6.2.1),(vi x6.2.2)])) H V V (CloH.clo (Fn.toH (Z3b q6) [])) .nil nofun V fun σ H => (.m1 (.tup [(.agg [(vi x6.1.first),(vi x6.1.last)]),(vb x6.2.1),(vi x6.2.2)]) V V (.xV V (.xV V (.xV V (.Za (cs:=[(vi 0),(vi 0)]) H (by omega) (by omega) V V fun σ H => (.sV [(vi x6.1.first),(vi x6.1.last)] H 0 V fun σ H => (.aV V (.aV V ?_))))))));refine .nila H fun H => (.then (.tR 6 V H fun b34 σ H => (.mV V (.iV V (.mV V ?_)))));refine .md H 3 [(25,(vb ((x6.2.2 != 0) || (!x6.2.1)))),(0,(.clo 50 [(.agg (vG f))] [])),(1,(vi x5.Index)),(2,(.ptr (b1 + 1) 1 0)),(3,(.ptr (b1 + 2) 1 0)),(4,(.ptr (b2 + 0) 2 0)),(8,(.ptr (b33 + 7) 2 0)),(10,(vi x6.2.2))] (.blk (b33 + 7) 69 [(vi x6.1.first),(vi x6.1.last)] :: .blk (b29 + 2) 50 [(vi x5.Index),(vl Span.cs x5.Ticks)] :: .blk (b2 + 0) 91 [(vi s3.2.1),(vb s3.2.2)] :: .blk (b1 + 2) 89 [cv0] :: .blk (b1 + 1) 3 [(vi k)] :: .blk (b1 + 0) 65 (vG f) :: T3) rfl ?_ fun e σ H => ?_
       ·refine .split V V ?_ ?_ <;> intro hc13
        ·refine .ps 2 V (.kT V (.nil ?_));exact ⟨⟨or_T hc13,V,V,V,V,V,V,V,U⟩,H.wk (by omega)⟩
        ·refine .mV V (.tV V (.kF V (.nil ?_)));exact ⟨⟨or_F hc13,V,V,V,V,V,V,V,U⟩,H.wk (by omega)⟩
       refine .nila H fun H => ?_;refine .wh h V ?_ ?_ <;> intro h
       ·refine .tR 2 V H fun b35 σ H => (.mV V (.aV V (.nila H fun H => (.ret ?_))));obtain rfl:=sj h;exact ⟨.inr V,_,Z0Y H (.tmp (v:=(vi x6.2.2)) V .nil),_,⟨V,V⟩,(H.erase 0)⟩
       refine .skip (.tR 13 V H fun b36 σ H => (.m1 (.clo 50 [(.agg (vG f))] []) V V (.mV V (.lV H 4 V (.iV V ?_)))));obtain ⟨x7,q7,h⟩:=bs h;refine .callV (cv:=(.clo 50 [(.agg (vG f))] [])) (ys:=[(vi (w64 (x5.Index + k)))]) (r:=(.tup [(.agg [(vi x7.1.first),(vi x7.1.last)]),(vb x7.2.1),(vi x7.2.2)])) H V V (CloH.clo (Fn.toH (Z3b q7) [])) .nil nofun V fun σ H => (.m1 (.tup [(.agg [(vi x7.1.first),(vi x7.1.last)]),(vb x7.2.1),(vi x7.2.2)]) V V (.xV V (.xV V (.xV V (.Za (cs:=[(vi 0),(vi 0)]) H (by omega) (by omega) V V fun σ H => (.sV [(vi x7.1.first),(vi x7.1.last)] H 0 V fun σ H => (.aV V (.aV V ?_))))))));refine .nila H fun H => (.then (.tR 6 V H fun b37 σ H => (.mV V (.iV V (.mV V ?_)))));refine .md H 3 [(41,(vb ((x7.2.2 != 0) || (!x7.2.1)))),(3,(.ptr (b1 + 2) 1 0)),(4,(.ptr (b2 + 0) 2 0)),(8,(.ptr (b33 + 7) 2 0)),(10,(vi x7.2.2)),(11,(.ptr (b36 + 9) 2 0))] (.blk (b36 + 9) 69 [(vi x7.1.first),(vi x7.1.last)] :: .blk (b33 + 7) 69 [(vi x6.1.first),(vi x6.1.last)] :: .blk (b29 + 2) 50 [(vi x5.Index),(vl Span.cs x5.Ticks)] :: .blk (b2 + 0) 91 [(vi s3.2.1),(vb s3.2.2)] :: .blk (b1 + 2) 89 [cv0] :: .blk (b1 + 1) 3 [(vi k)] :: .blk (b1 + 0) 65 (vG f) :: T3) rfl ?_ fun e σ H => ?_
       ·refine .split V V ?_ ?_ <;> intro hc15
        ·refine .ps 2 V (.kT V (.nil ?_));exact ⟨⟨or_T hc15,V,V,V,V,V,U⟩,H.wk (by omega)⟩
        ·refine .mV V (.tV V (.kF V (.nil ?_)));exact ⟨⟨or_F hc15,V,V,V,V,V,U⟩,H.wk (by omega)⟩
       refine .nila H fun H => ?_;refine .wh h V ?_ ?_ <;> intro h
       ·refine .tR 2 V H fun b38 σ H => (.mV V (.aV V (.nila H fun H => (.ret ?_))));obtain rfl:=sj h;exact ⟨.inr V,_,Z0Y H (.tmp (v:=(vi x7.2.2)) V .nil),_,⟨V,V⟩,((H.erase 1).erase 0)⟩
       refine .skip (.tR 9 V H fun b39 σ H => (.lV H 4 V (.LV [(vi x6.1.first),(vi x6.1.last)] H 1 V (.LV [(vi x7.1.first),(vi x7.1.last)] H 0 V ?_))));obtain ⟨x8,q8,h⟩:=bs h;refine .callV (cv:=cv0) (ys:=[(.agg (vs (size_place.cs x6.1))),(.agg (vs (size_place.cs x7.1)))]) (r:=(.tup [(vi x8.1),(vi x8.2)])) H V V (hf0 x6.1 x7.1 _ q8) hC.push.push.push.push.push.push.push nofun V fun σ H => (.m1 (.tup [(vi x8.1),(vi x8.2)]) V V (.xV V (.xV V (.aV V (.aV V (.nila H fun H => (.then ?_)))))));refine .jn h .normal (fun y11 => [(10,(vi x8.2))]) (fun y11 => (.blk (b29 + 2) 50 [(vi x5.Index),(vl Span.cs x5.Ticks)] :: .blk (b2 + 0) 91 [(vi y11.1),(vb y11.2)] :: .blk (b1 + 2) 89 [cv0] :: .blk (b1 + 1) 3 [(vi k)] :: .blk (b1 + 0) 65 (vG f) :: T3)) (fun y11 h => ?_) fun y11 e σ H h => ?_
       ·refine .tR 2 V H fun b40 σ H => (.mV V (.iV V (.nila H fun H => ?_)));refine .wh h V ?_ ?_ <;> intro h
        ·refine .Z4 3 V H fun b41 σ H => (.mV V (.Z0p (sz:=1) ([x8.1].map (cI .i64)) H (by omega) (by omega) V V V V V V V V V fun σ H => ?_));obtain ⟨y12,hj12,h⟩:=bs h;refine .Z6N (PostA:=fun r A => r = (.tup [])∧A = [.sl (.buf (b41 + 1) 1 1) 3 1 ([x8.1].map (cI .i64)) true,.blk (b36 + 9) 69 [(vi x7.1.first),(vi x7.1.last)],.blk (b33 + 7) 69 [(vi x6.1.first),(vi x6.1.last)],.blk (b29 + 2) 50 [(vi x5.Index),(vl Span.cs x5.Ticks)],.blk (b2 + 0) 91 [(vi y12.1),(vb y12.2)],.blk (b1 + 2) 89 [cv0],.blk (b1 + 1) 3 [(vi k)],.blk (b1 + 0) 65 (vG f)]) (cv:=(.v (.fn 48))) (ys:=[(.ptr (b2 + 0) 2 0),(.buf (b41 + 1) 1 1)]) (L:=T3) [.sl (.buf (b41 + 1) 1 1) 3 1 ([x8.1].map (cI .i64)) true,.blk (b36 + 9) 69 [(vi x7.1.first),(vi x7.1.last)],.blk (b33 + 7) 69 [(vi x6.1.first),(vi x6.1.last)],.blk (b29 + 2) 50 [(vi x5.Index),(vl Span.cs x5.Ticks)],.blk (b2 + 0) 91 [(vi s3.2.1),(vb s3.2.2)],.blk (b1 + 2) 89 [cv0],.blk (b1 + 1) 3 [(vi k)],.blk (b1 + 0) 65 (vG f)] H V V (fun T4 hT H => Z2e Tryz.func48 V (fun _ => V) V V V V ?_) nofun V ?_
         ·replace h:=hj12;have hC:=hT _ hC;refine .tR 3 V H fun b42 σ H => (.mB V (.Z48 (c:=(cI .i64)) (xs:=[x8.1]) H 0 V V V nofun V (.mV V (.nila H fun H => (.inBlock ?_)))));refine .lp h (fun s4 => [(0,(.ptr (b2 + 0) 2 0)),(6,(.buf (b41 + 1) 1 1)),(7,(vi ([x8.1].length:Int))),(8,(vi s4.1))]) (fun s4 => (.sl (.buf (b41 + 1) 1 1) 3 1 ([x8.1].map (cI .i64)) true :: .blk (b36 + 9) 69 [(vi x7.1.first),(vi x7.1.last)] :: .blk (b33 + 7) 69 [(vi x6.1.first),(vi x6.1.last)] :: .blk (b29 + 2) 50 [(vi x5.Index),(vl Span.cs x5.Ticks)] :: .blk (b2 + 0) 91 [(vi s4.2.1),(vb s4.2.2)] :: .blk (b1 + 2) 89 [cv0] :: .blk (b1 + 1) 3 [(vi k)] :: .blk (b1 + 0) 65 (vG f) :: T4)) (.exit 0) (fun y13 => []) (fun y13 => (.sl (.buf (b41 + 1) 1 1) 3 1 ([x8.1].map (cI .i64)) true :: .blk (b36 + 9) 69 [(vi x7.1.first),(vi x7.1.last)] :: .blk (b33 + 7) 69 [(vi x6.1.first),(vi x6.1.last)] :: .blk (b29 + 2) 50 [(vi x5.Index),(vl Span.cs x5.Ticks)] :: .blk (b2 + 0) 91 [(vi y13.1),(vb y13.2)] :: .blk (b1 + 2) 89 [cv0] :: .blk (b1 + 1) 3 [(vi k)] :: .blk (b1 + 0) 65 (vG f) :: T4)) (EI V) H (fun s4 e σ H z h => ?_) fun y13 e σ H h => ?_
          ·unfold Z7.s3 at h;refine .tR 1 V H fun b43 σ H => (.iV V (.nila H fun H => (.then ?_)));refine .wh h V ?_ ?_ <;> intro h
           ·refine .skip (.then ?_);refine .jn h .normal (fun y14 => [(0,(.ptr (b2 + 0) 2 0)),(6,(.buf (b41 + 1) 1 1)),(7,(vi ([x8.1].length:Int))),(8,(vi s4.1))]) (fun y14 => (.sl (.buf (b41 + 1) 1 1) 3 1 ([x8.1].map (cI .i64)) true :: .blk (b36 + 9) 69 [(vi x7.1.first),(vi x7.1.last)] :: .blk (b33 + 7) 69 [(vi x6.1.first),(vi x6.1.last)] :: .blk (b29 + 2) 50 [(vi x5.Index),(vl Span.cs x5.Ticks)] :: .blk (b2 + 0) 91 [(vi y14.1),(vb y14.2)] :: .blk (b1 + 2) 89 [cv0] :: .blk (b1 + 1) 3 [(vi k)] :: .blk (b1 + 0) 65 (vG f) :: T4)) (fun y14 h => ?_) fun y14 e σ H h => ?_
            ·refine .inBlock ?_;refine .jn h .normal (fun y15 => [(0,(.ptr (b2 + 0) 2 0)),(6,(.buf (b41 + 1) 1 1)),(7,(vi ([x8.1].length:Int))),(8,(vi s4.1))]) (fun y15 => (.sl (.buf (b41 + 1) 1 1) 3 1 ([x8.1].map (cI .i64)) true :: .blk (b36 + 9) 69 [(vi x7.1.first),(vi x7.1.last)] :: .blk (b33 + 7) 69 [(vi x6.1.first),(vi x6.1.last)] :: .blk (b29 + 2) 50 [(vi x5.Index),(vl Span.cs x5.Ticks)] :: .blk (b2 + 0) 91 [(vi y15.1),(vb y15.2)] :: .blk (b1 + 2) 89 [cv0] :: .blk (b1 + 1) 3 [(vi k)] :: .blk (b1 + 0) 65 (vG f) :: T4)) (fun y15 h => ?_) fun y15 e σ H h => ?_
             ·refine .tR 3 V H fun b44 σ H => ?_;obtain ⟨x9,q9,h⟩:=bs h;refine .Z3h H 0 V V V (at?_map q9) V V nofun V ?_;intro id2 hv2;refine .Z6j (id:=id2) (j:=0) (w:=(.int .i64 x9)) H 0 V hv2 (by simp) (at?_map q9) V (by simp) V V V nofun V ?_;refine .aV V (.nila H fun H => (.tR 13 V H fun b45 σ H => (.mP V (.Zh H 4 V V V nofun V (.fV H 4 V (.lV H 4 V (.tV V (.mV V ?_))))))));refine .md H 7 [(24,(vb ((!s4.2.2) || (decide (x9 > s4.2.1))))),(0,(.ptr (b2 + 0) 2 0)),(5,(vi x9)),(6,(.buf (b41 + 1) 1 1)),(7,(vi ([x8.1].length:Int))),(8,(vi s4.1))] (.sl (.buf (b41 + 1) 1 1) 3 1 ([x8.1].map (cI .i64)) true :: .blk (b36 + 9) 69 [(vi x7.1.first),(vi x7.1.last)] :: .blk (b33 + 7) 69 [(vi x6.1.first),(vi x6.1.last)] :: .blk (b29 + 2) 50 [(vi x5.Index),(vl Span.cs x5.Ticks)] :: .blk (b2 + 0) 91 [(vi s4.2.1),(vb s4.2.2)] :: .blk (b1 + 2) 89 [cv0] :: .blk (b1 + 1) 3 [(vi k)] :: .blk (b1 + 0) 65 (vG f) :: T4) rfl ?_ fun e σ H => ?_
              ·refine .split V V ?_ ?_ <;> intro hc19
               ·refine .ps 6 V (.kT V (.nil ?_));exact ⟨⟨or_T hc19,V,V,V,V,V,U⟩,H.wk (by omega)⟩
               ·refine .mV V (.mP V (.wt V V (.Zh H 4 V V V nofun V (.fV H 4 V (.lV H 4 V (.iV V (.kF V (.nil ?_))))))));exact ⟨⟨or_F hc19,V,V,V,V,V,U⟩,H.wk (by omega)⟩
              refine .nila H fun H => ?_;refine .wh h V ?_ ?_ <;> intro h
              ·refine .Z4 9 V H fun b46 σ H => (.mP V (.mP V (.mV V (.Zh H 4 V V V nofun V (.fV H 4 V (.sV [(vi x9),(vb s4.2.2)] H 4 V fun σ H => (.Zh H 4 V V V nofun V (.fV H 4 V ?_))))))));refine .sV [(vi x9),(vb true)] H 4 V fun σ H => (.nila H fun H => ?_);obtain rfl:=sj h;exact ⟨V,EI V,H⟩
              refine .skip ?_;obtain rfl:=sj h;exact ⟨V,EI V,H⟩
             obtain rfl:=sj h;exact ⟨V,EI V,H⟩
            refine .Z4 2 V H fun b47 σ H => (.iV V (.mV V (.nila H fun H => ?_)));obtain rfl:=sj h;exact ⟨V,EI V,H⟩
           refine .exit ?_;obtain rfl:=sj h;exact ⟨nofun,⟨V,U,H⟩⟩
          obtain rfl:=sj h;exact ⟨.inl V,_,Z0Y H .nil,_,⟨V,V⟩,H⟩
         ·rintro _ _ σ ⟨rfl,rfl⟩ H;refine .nila H fun H => ?_;obtain rfl:=sj h;exact ⟨V,EI V,(((H.erase 2).erase 1).erase 0)⟩
        refine .skip ?_;obtain rfl:=sj h;exact ⟨V,EI V,((H.erase 1).erase 0)⟩
       refine .tR 2 V H fun b48 σ H => (.mV V (.aV V (.nila H fun H => (.ret ?_))));obtain rfl:=sj h;exact ⟨.inr V,_,Z0Y H (.tmp (v:=(vi x8.2)) V .nil),_,⟨V,V⟩,H⟩
      ·rintro _ _ σ ⟨rfl,rfl⟩ H;refine .iV V (.mV V ?_);obtain ⟨y16,hj16,h⟩:=bs h;refine .md H 10 [(57,(vb y16.1)),(3,(.ptr (b1 + 0) 5 0)),(4,(.ptr (b1 + 1) 1 0)),(9,(.ptr (b2 + 0) 2 0)),(10,(.clo 47 [] [(.ptr (b1 + 1) 1 0),(.ptr (b1 + 2) 1 0),(.ptr (b2 + 0) 2 0)])),(30,(vl Granule.cs f.Form.Odd)),(31,(vi (f.Form.Odd.length:Int))),(32,(vi s3.1))] (.blk (b2 + 0) 91 [(vi y16.2.1),(vb y16.2.2)] :: .blk (b1 + 2) 89 [cv0] :: .blk (b1 + 1) 3 [(vi k)] :: .blk (b1 + 0) 65 (vG f) :: L) V ?_ fun e σ H => ?_
       ·refine .sp hj16 V ?_ ?_ <;> intro h
        ·refine .ps 9 V (.kT V (.nil ?_));obtain rfl:=sj h;exact ⟨EI V,(H.erase 0).wk (by omega)⟩
        refine .m1 (.clo 47 [] [(.ptr (b1 + 1) 1 0),(.ptr (b1 + 2) 1 0),(.ptr (b2 + 0) 2 0)]) V V (.LV (vG f) H 4 V (.wt V V (.Z3U (fs:=[(.agg (vG f))]) (cs:=[]) V V V V (.fV H 0 V (.lV H 0 V (.lV H 3 V (.iV V (.wt V V ?_))))))));obtain ⟨y17,hj17,h⟩:=bs h;refine .Z6N (PostA:=fun r A => r = (vi y17.1)∧A = [.blk (b29 + 2) 50 [(vi x5.Index),(vl Span.cs x5.Ticks)],.blk (b2 + 0) 91 [(vi y17.2.1),(vb y17.2.2)],.blk (b1 + 2) 89 [cv0],.blk (b1 + 1) 3 [(vi k)],.blk (b1 + 0) 65 (vG f)]) (cv:=(.clo 47 [] [(.ptr (b1 + 1) 1 0),(.ptr (b1 + 2) 1 0),(.ptr (b2 + 0) 2 0)])) (ys:=[(.clo 50 [(.agg (vG f))] []),(vi (w64 (x5.Index - k)))]) (L:=L) [.blk (b29 + 2) 50 [(vi x5.Index),(vl Span.cs x5.Ticks)],.blk (b2 + 0) 91 [(vi y10.2.1),(vb y10.2.2)],.blk (b1 + 2) 89 [cv0],.blk (b1 + 1) 3 [(vi k)],.blk (b1 + 0) 65 (vG f)] H V V (fun T5 hT H => Z2e Tryz.func47 V (fun _ => V) V V V V ?_) nofun V ?_
        ·replace h:=hj17;have hC:=hT _ hC;refine .tR 1 V H fun b49 σ H => (.aV V (.nila H fun H => (.tR 11 V H fun b50 σ H => (.m1 (.clo 50 [(.agg (vG f))] []) V V (.mV V ?_)))));obtain ⟨x10,q10,h⟩:=bs h;refine .callV (cv:=(.clo 50 [(.agg (vG f))] [])) (ys:=[(vi (w64 (x5.Index - k)))]) (r:=(.tup [(.agg [(vi x10.1.first),(vi x10.1.last)]),(vb x10.2.1),(vi x10.2.2)])) H V V (CloH.clo (Fn.toH (Z3b q10) [])) .nil nofun V fun σ H => (.m1 (.tup [(.agg [(vi x10.1.first),(vi x10.1.last)]),(vb x10.2.1),(vi x10.2.2)]) V V (.xV V (.xV V (.xV V (.Za (cs:=[(vi 0),(vi 0)]) H (by omega) (by omega) V V fun σ H => (.sV [(vi x10.1.first),(vi x10.1.last)] H 0 V fun σ H => (.aV V (.aV V ?_))))))));refine .nila H fun H => (.then (.tR 6 V H fun b51 σ H => (.mV V (.iV V (.mV V ?_)))));refine .md H 3 [(25,(vb ((x10.2.2 != 0) || (!x10.2.1)))),(0,(.clo 50 [(.agg (vG f))] [])),(1,(vi (w64 (x5.Index - k)))),(2,(.ptr (b1 + 1) 1 0)),(3,(.ptr (b1 + 2) 1 0)),(4,(.ptr (b2 + 0) 2 0)),(8,(.ptr (b50 + 7) 2 0)),(10,(vi x10.2.2))] (.blk (b50 + 7) 69 [(vi x10.1.first),(vi x10.1.last)] :: .blk (b29 + 2) 50 [(vi x5.Index),(vl Span.cs x5.Ticks)] :: .blk (b2 + 0) 91 [(vi y10.2.1),(vb y10.2.2)] :: .blk (b1 + 2) 89 [cv0] :: .blk (b1 + 1) 3 [(vi k)] :: .blk (b1 + 0) 65 (vG f) :: T5) rfl ?_ fun e σ H => ?_
         ·refine .split V V ?_ ?_ <;> intro hc22
          ·refine .ps 2 V (.kT V (.nil ?_));exact ⟨⟨or_T hc22,V,V,V,V,V,V,V,U⟩,H.wk (by omega)⟩
          ·refine .mV V (.tV V (.kF V (.nil ?_)));exact ⟨⟨or_F hc22,V,V,V,V,V,V,V,U⟩,H.wk (by omega)⟩
         refine .nila H fun H => ?_;refine .wh h V ?_ ?_ <;> intro h
         ·refine .tR 2 V H fun b52 σ H => (.mV V (.aV V (.nila H fun H => (.ret ?_))));obtain rfl:=sj h;exact ⟨.inr V,_,Z0Y H (.tmp (v:=(vi x10.2.2)) V .nil),_,⟨V,V⟩,(H.erase 0)⟩
         refine .skip (.tR 13 V H fun b53 σ H => (.m1 (.clo 50 [(.agg (vG f))] []) V V (.mV V (.lV H 4 V (.iV V ?_)))));obtain ⟨x11,q11,h⟩:=bs h;refine .callV (cv:=(.clo 50 [(.agg (vG f))] [])) (ys:=[(vi (w64 ((w64 (x5.Index - k)) + k)))]) (r:=(.tup [(.agg [(vi x11.1.first),(vi x11.1.last)]),(vb x11.2.1),(vi x11.2.2)])) H V V (CloH.clo (Fn.toH (Z3b q11) [])) .nil nofun V fun σ H => (.m1 (.tup [(.agg [(vi x11.1.first),(vi x11.1.last)]),(vb x11.2.1),(vi x11.2.2)]) V V (.xV V (.xV V (.xV V (.Za (cs:=[(vi 0),(vi 0)]) H (by omega) (by omega) V V fun σ H => (.sV [(vi x11.1.first),(vi x11.1.last)] H 0 V fun σ H => (.aV V (.aV V ?_))))))));refine .nila H fun H => (.then (.tR 6 V H fun b54 σ H => (.mV V (.iV V (.mV V ?_)))));refine .md H 3 [(41,(vb ((x11.2.2 != 0) || (!x11.2.1)))),(3,(.ptr (b1 + 2) 1 0)),(4,(.ptr (b2 + 0) 2 0)),(8,(.ptr (b50 + 7) 2 0)),(10,(vi x11.2.2)),(11,(.ptr (b53 + 9) 2 0))] (.blk (b53 + 9) 69 [(vi x11.1.first),(vi x11.1.last)] :: .blk (b50 + 7) 69 [(vi x10.1.first),(vi x10.1.last)] :: .blk (b29 + 2) 50 [(vi x5.Index),(vl Span.cs x5.Ticks)] :: .blk (b2 + 0) 91 [(vi y10.2.1),(vb y10.2.2)] :: .blk (b1 + 2) 89 [cv0] :: .blk (b1 + 1) 3 [(vi k)] :: .blk (b1 + 0) 65 (vG f) :: T5) rfl ?_ fun e σ H => ?_
         ·refine .split V V ?_ ?_ <;> intro hc24
          ·refine .ps 2 V (.kT V (.nil ?_));exact ⟨⟨or_T hc24,V,V,V,V,V,U⟩,H.wk (by omega)⟩
          ·refine .mV V (.tV V (.kF V (.nil ?_)));exact ⟨⟨or_F hc24,V,V,V,V,V,U⟩,H.wk (by omega)⟩
         refine .nila H fun H => ?_;refine .wh h V ?_ ?_ <;> intro h
         ·refine .tR 2 V H fun b55 σ H => (.mV V (.aV V (.nila H fun H => (.ret ?_))));obtain rfl:=sj h;exact ⟨.inr V,_,Z0Y H (.tmp (v:=(vi x11.2.2)) V .nil),_,⟨V,V⟩,((H.erase 1).erase 0)⟩
         refine .skip (.tR 9 V H fun b56 σ H => (.lV H 4 V (.LV [(vi x10.1.first),(vi x10.1.last)] H 1 V (.LV [(vi x11.1.first),(vi x11.1.last)] H 0 V ?_))));obtain ⟨x12,q12,h⟩:=bs h;refine .callV (cv:=cv0) (ys:=[(.agg (vs (size_place.cs x10.1))),(.agg (vs (size_place.cs x11.1)))]) (r:=(.tup [(vi x12.1),(vi x12.2)])) H V V (hf0 x10.1 x11.1 _ q12) hC.push.push.push.push.push.push.push nofun V fun σ H => (.m1 (.tup [(vi x12.1),(vi x12.2)]) V V (.xV V (.xV V (.aV V (.aV V (.nila H fun H => (.then ?_)))))));refine .jn h .normal (fun y18 => [(10,(vi x12.2))]) (fun y18 => (.blk (b29 + 2) 50 [(vi x5.Index),(vl Span.cs x5.Ticks)] :: .blk (b2 + 0) 91 [(vi y18.1),(vb y18.2)] :: .blk (b1 + 2) 89 [cv0] :: .blk (b1 + 1) 3 [(vi k)] :: .blk (b1 + 0) 65 (vG f) :: T5)) (fun y18 h => ?_) fun y18 e σ H h => ?_
         ·refine .tR 2 V H fun b57 σ H => (.mV V (.iV V (.nila H fun H => ?_)));refine .wh h V ?_ ?_ <;> intro h
          ·refine .Z4 3 V H fun b58 σ H => (.mV V (.Z0p (sz:=1) ([x12.1].map (cI .i64)) H (by omega) (by omega) V V V V V V V V V fun σ H => ?_));obtain ⟨y19,hj19,h⟩:=bs h;refine .Z6N (PostA:=fun r A => r = (.tup [])∧A = [.sl (.buf (b58 + 1) 1 1) 3 1 ([x12.1].map (cI .i64)) true,.blk (b53 + 9) 69 [(vi x11.1.first),(vi x11.1.last)],.blk (b50 + 7) 69 [(vi x10.1.first),(vi x10.1.last)],.blk (b29 + 2) 50 [(vi x5.Index),(vl Span.cs x5.Ticks)],.blk (b2 + 0) 91 [(vi y19.1),(vb y19.2)],.blk (b1 + 2) 89 [cv0],.blk (b1 + 1) 3 [(vi k)],.blk (b1 + 0) 65 (vG f)]) (cv:=(.v (.fn 48))) (ys:=[(.ptr (b2 + 0) 2 0),(.buf (b58 + 1) 1 1)]) (L:=T5) [.sl (.buf (b58 + 1) 1 1) 3 1 ([x12.1].map (cI .i64)) true,.blk (b53 + 9) 69 [(vi x11.1.first),(vi x11.1.last)],.blk (b50 + 7) 69 [(vi x10.1.first),(vi x10.1.last)],.blk (b29 + 2) 50 [(vi x5.Index),(vl Span.cs x5.Ticks)],.blk (b2 + 0) 91 [(vi y10.2.1),(vb y10.2.2)],.blk (b1 + 2) 89 [cv0],.blk (b1 + 1) 3 [(vi k)],.blk (b1 + 0) 65 (vG f)] H V V (fun T6 hT H => Z2e Tryz.func48 V (fun _ => V) V V V V ?_) nofun V ?_
           ·replace h:=hj19;have hC:=hT _ hC;refine .tR 3 V H fun b59 σ H => (.mB V (.Z48 (c:=(cI .i64)) (xs:=[x12.1]) H 0 V V V nofun V (.mV V (.nila H fun H => (.inBlock ?_)))));refine .lp h (fun s5 => [(0,(.ptr (b2 + 0) 2 0)),(6,(.buf (b58 + 1) 1 1)),(7,(vi ([x12.1].length:Int))),(8,(vi s5.1))]) (fun s5 => (.sl (.buf (b58 + 1) 1 1) 3 1 ([x12.1].map (cI .i64)) true :: .blk (b53 + 9) 69 [(vi x11.1.first),(vi x11.1.last)] :: .blk (b50 + 7) 69 [(vi x10.1.first),(vi x10.1.last)] :: .blk (b29 + 2) 50 [(vi x5.Index),(vl Span.cs x5.Ticks)] :: .blk (b2 + 0) 91 [(vi s5.2.1),(vb s5.2.2)] :: .blk (b1 + 2) 89 [cv0] :: .blk (b1 + 1) 3 [(vi k)] :: .blk (b1 + 0) 65 (vG f) :: T6)) (.exit 0) (fun y20 => []) (fun y20 => (.sl (.buf (b58 + 1) 1 1) 3 1 ([x12.1].map (cI .i64)) true :: .blk (b53 + 9) 69 [(vi x11.1.first),(vi x11.1.last)] :: .blk (b50 + 7) 69 [(vi x10.1.first),(vi x10.1.last)] :: .blk (b29 + 2) 50 [(vi x5.Index),(vl Span.cs x5.Ticks)] :: .blk (b2 + 0) 91 [(vi y20.1),(vb y20.2)] :: .blk (b1 + 2) 89 [cv0] :: .blk (b1 + 1) 3 [(vi k)] :: .blk (b1 + 0) 65 (vG f) :: T6)) (EI V) H (fun s5 e σ H z h => ?_) fun y20 e σ H h => ?_
            ·unfold Z7.s4 at h;refine .tR 1 V H fun b60 σ H => (.iV V (.nila H fun H => (.then ?_)));refine .wh h V ?_ ?_ <;> intro h
             ·refine .skip (.then ?_);refine .jn h .normal (fun y21 => [(0,(.ptr (b2 + 0) 2 0)),(6,(.buf (b58 + 1) 1 1)),(7,(vi ([x12.1].length:Int))),(8,(vi s5.1))]) (fun y21 => (.sl (.buf (b58 + 1) 1 1) 3 1 ([x12.1].map (cI .i64)) true :: .blk (b53 + 9) 69 [(vi x11.1.first),(vi x11.1.last)] :: .blk (b50 + 7) 69 [(vi x10.1.first),(vi x10.1.last)] :: .blk (b29 + 2) 50 [(vi x5.Index),(vl Span.cs x5.Ticks)] :: .blk (b2 + 0) 91 [(vi y21.1),(vb y21.2)] :: .blk (b1 + 2) 89 [cv0] :: .blk (b1 + 1) 3 [(vi k)] :: .blk (b1 + 0) 65 (vG f) :: T6)) (fun y21 h => ?_) fun y21 e σ H h => ?_
              ·refine .inBlock ?_;refine .jn h .normal (fun y22 => [(0,(.ptr (b2 + 0) 2 0)),(6,(.buf (b58 + 1) 1 1)),(7,(vi ([x12.1].length:Int))),(8,(vi s5.1))]) (fun y22 => (.sl (.buf (b58 + 1) 1 1) 3 1 ([x12.1].map (cI .i64)) true :: .blk (b53 + 9) 69 [(vi x11.1.first),(vi x11.1.last)] :: .blk (b50 + 7) 69 [(vi x10.1.first),(vi x10.1.last)] :: .blk (b29 + 2) 50 [(vi x5.Index),(vl Span.cs x5.Ticks)] :: .blk (b2 + 0) 91 [(vi y22.1),(vb y22.2)] :: .blk (b1 + 2) 89 [cv0] :: .blk (b1 + 1) 3 [(vi k)] :: .blk (b1 + 0) 65 (vG f) :: T6)) (fun y22 h => ?_) fun y22 e σ H h => ?_
               ·refine .tR 3 V H fun b61 σ H => ?_;obtain ⟨x13,q13,h⟩:=bs h;refine .Z3h H 0 V V V (at?_map q13) V V nofun V ?_;intro id3 hv3;refine .Z6j (id:=id3) (j:=0) (w:=(.int .i64 x13)) H 0 V hv3 (by simp) (at?_map q13) V (by simp) V V V nofun V ?_;refine .aV V (.nila H fun H => (.tR 13 V H fun b62 σ H => (.mP V (.Zh H 4 V V V nofun V (.fV H 4 V (.lV H 4 V (.tV V (.mV V ?_))))))));refine .md H 7 [(24,(vb ((!s5.2.2) || (decide (x13 > s5.2.1))))),(0,(.ptr (b2 + 0) 2 0)),(5,(vi x13)),(6,(.buf (b58 + 1) 1 1)),(7,(vi ([x12.1].length:Int))),(8,(vi s5.1))] (.sl (.buf (b58 + 1) 1 1) 3 1 ([x12.1].map (cI .i64)) true :: .blk (b53 + 9) 69 [(vi x11.1.first),(vi x11.1.last)] :: .blk (b50 + 7) 69 [(vi x10.1.first),(vi x10.1.last)] :: .blk (b29 + 2) 50 [(vi x5.Index),(vl Span.cs x5.Ticks)] :: .blk (b2 + 0) 91 [(vi s5.2.1),(vb s5.2.2)] :: .blk (b1 + 2) 89 [cv0] :: .blk (b1 + 1) 3 [(vi k)] :: .blk (b1 + 0) 65 (vG f) :: T6) rfl ?_ fun e σ H => ?_
                ·refine .split V V ?_ ?_ <;> intro hc28
                 ·refine .ps 6 V (.kT V (.nil ?_));exact ⟨⟨or_T hc28,V,V,V,V,V,U⟩,H.wk (by omega)⟩
                 ·refine .mV V (.mP V (.wt V V (.Zh H 4 V V V nofun V (.fV H 4 V (.lV H 4 V (.iV V (.kF V (.nil ?_))))))));exact ⟨⟨or_F hc28,V,V,V,V,V,U⟩,H.wk (by omega)⟩
                refine .nila H fun H => ?_;refine .wh h V ?_ ?_ <;> intro h
                ·refine .Z4 9 V H fun b63 σ H => (.mP V (.mP V (.mV V (.Zh H 4 V V V nofun V (.fV H 4 V (.sV [(vi x13),(vb s5.2.2)] H 4 V fun σ H => (.Zh H 4 V V V nofun V (.fV H 4 V ?_))))))));refine .sV [(vi x13),(vb true)] H 4 V fun σ H => (.nila H fun H => ?_);obtain rfl:=sj h;exact ⟨V,EI V,H⟩
                refine .skip ?_;obtain rfl:=sj h;exact ⟨V,EI V,H⟩
               obtain rfl:=sj h;exact ⟨V,EI V,H⟩
              refine .Z4 2 V H fun b64 σ H => (.iV V (.mV V (.nila H fun H => ?_)));obtain rfl:=sj h;exact ⟨V,EI V,H⟩
             refine .exit ?_;obtain rfl:=sj h;exact ⟨nofun,⟨V,U,H⟩⟩
            obtain rfl:=sj h;exact ⟨.inl V,_,Z0Y H .nil,_,⟨V,V⟩,H⟩
           ·rintro _ _ σ ⟨rfl,rfl⟩ H;refine .nila H fun H => ?_;obtain rfl:=sj h;exact ⟨V,EI V,(((H.erase 2).erase 1).erase 0)⟩
          refine .skip ?_;obtain rfl:=sj h;exact ⟨V,EI V,((H.erase 1).erase 0)⟩
         refine .tR 2 V H fun b65 σ H => (.mV V (.aV V (.nila H fun H => (.ret ?_))));obtain rfl:=sj h;exact ⟨.inr V,_,Z0Y H (.tmp (v:=(vi x12.2)) V .nil),_,⟨V,V⟩,H⟩
        ·rintro _ _ σ ⟨rfl,rfl⟩ H;refine .iV V (.kF V (.nil ?_));obtain rfl:=sj h;exact ⟨EI V,(H.erase 0).wk (by omega)⟩
       refine .nila H fun H => ?_;refine .wh h V ?_ ?_ <;> intro h
       ·refine .tR 3 V H fun b66 σ H => (.aV V (.aV V (.aV V (.nila H fun H => (.ret ?_)))));obtain rfl:=sj h;exact (.inr ⟨_,V,V,(EndsH.H (xs:=[(vi 0),(vb false),(vi 10)]) (.inr V) H (.tmp (v:=(vi 0)) V (.tmp (v:=(vb false)) V (.tmp (v:=(vi 10)) V .nil))) (.two (.cons (.c (.v _)) (.cons (.c (.v _)) (.cons (.c (.v _)) .nil)))) 4 V)⟩)
       refine .skip ?_;obtain rfl:=sj h;exact (.inl ⟨_,V,V,EI V,H⟩)
     ·rintro x e σ (⟨a5,rfl,rfl,he,H⟩ | ⟨r',rfl,rfl,hE⟩)
      ·replace h:=jgo h;obtain ⟨e,rfl⟩:=he.ex;refine .Z4 2 V H fun b67 σ H => (.iV V (.mV V (.nila H fun H => ?_)));obtain rfl:=sj h;exact ⟨V,EI V,H⟩
      ·replace h:=jret h;obtain rfl:=sj h;exact ⟨nofun,(.inr ⟨_,V,V,hE⟩)⟩
    refine .exit ?_;obtain rfl:=sj h;exact ⟨nofun,(.inl ⟨_,V,V,EI V,(((H.erase 3).erase 2).erase 1)⟩)⟩
   ·rintro x e σ (⟨a6,rfl,rfl,he,H⟩ | ⟨r',rfl,rfl,hE⟩)
    ·replace h:=jgo h;obtain ⟨e,rfl⟩:=he.ex;refine .then (.Zr 7 V (by kernel_rfl) H fun b68 σ H B68 => (.ZA H 0 V V V V V (fun _ => .inl ⟨B68 0 _ V _ V,nofun,(fun _ => by kernel_rfl)⟩) V (.ld (vi a6.1) H 0 V V V V V (fun _ => .inl ⟨B68 0 _ V _ V,nofun,(fun _ => by kernel_rfl)⟩) V (.ZA H 0 V V V V V (fun _ => .inl ⟨B68 0 _ V _ V,nofun,(fun _ => by kernel_rfl)⟩) V (.ld (vb a6.2) H 0 V V V V V (fun _ => .inl ⟨B68 0 _ V _ V,nofun,(fun _ => by kernel_rfl)⟩) V (.aV V (.aV V (.aV V ?_))))))));refine .nila H fun H => (.ret ?_);obtain rfl:=sj h;exact (EndsH.H (xs:=[(vi a6.1),(vb a6.2),(vi 0)]) (.inr V) H (.tmp (v:=(vi a6.1)) V (.tmp (v:=(vb a6.2)) V (.tmp (v:=(vi 0)) V .nil))) (.two (.cons (.c (.v _)) (.cons (.c (.v _)) (.cons (.c (.v _)) .nil)))) 1 V)
    ·replace h:=jret h;obtain rfl:=sj h;exact hE
  ·replace h:=jret h;obtain rfl:=sj h;exact hE
theorem ZBT {a:Int} {b:Int} {r:Int × Int} (h:Z2r a b = r):Fn CX 30 [(vi a),(vi b)] (.tup [(vi r.1),(vi r.2)]):=by
 refine Fn.go Tryz.func30 V fun σ H => ?_;unfold Z2r at h;refine .tR 2 V H fun b1 σ H => (.aV V (.aV V (.nila H fun H => (.tR 4 V H fun b2 σ H => (.mV V (.mV V (.iV V (.aV V ?_))))))));refine .nila H fun H => (.then (.tR 10 V H fun b3 σ H => (.mV V (.mV V (.iV V (.mV V (.iV V (.neB (b:=(decide ((w64 (a - b)) < a))) (b':=(decide (b > 0))) V V V V ?_))))))));refine .mV V ?_;refine .md H 3 [(19,(vb (((decide ((w64 (a - b)) < a)) != (decide (b > 0))) && (b != 0)))),(6,(vi (w64 (a - b))))] [] V ?_ fun e σ H => ?_
 ·refine .split V V ?_ ?_ <;> intro hc1
  ·refine .mV V (.iV V (.kT V (.nil ?_)));exact ⟨⟨Z2V hc1,V,U⟩,H.wk (by omega)⟩
  ·refine .ps 2 V (.kF V (.nil ?_));exact ⟨⟨Z2S hc1,V,U⟩,H.wk (by omega)⟩
 refine .nila H fun H => ?_;refine .wh h V ?_ ?_ <;> intro h
 ·refine .tR 2 V H fun b4 σ H => (.aV V (.aV V (.nila H fun H => (.ret ?_))));subst h;exact Ends.eR V
 refine .skip (.tR 3 V H fun b5 σ H => (.mV V (.aV V (.aV V (.nila H fun H => (.ret ?_))))));subst h;exact Ends.eR V
theorem ZBc {a:size_place} {b:size_place} {r:Int × Int} (h:Z2b a b = r):Fn CX 29 [(.agg (vs (size_place.cs a))),(.agg (vs (size_place.cs b)))] (.tup [(vi r.1),(vi r.2)]):=by
 refine Fn.go Tryz.func29 V fun σ H => ?_;unfold Z2b at h;refine .tR 4 V H fun b1 σ H => (.boxH (cs:=[(vi a.first),(vi a.last)]) H (by omega) (by omega) V V V fun σ H => (.boxH (cs:=[(vi b.first),(vi b.last)]) H (by omega) (by omega) V V V fun σ H => (.aV V (.aV V (.nila H fun H => (.tR 9 V H fun b2 σ H => (.fV H 1 V (.lV H 1 V ?_))))))));refine .fV H 0 V (.lV H 0 V (.cV (ZBT V) V (.xV V (.xV V (.aV V (.aV V (.nila H fun H => (.ret ?_))))))));subst h;exact Ends.eR V
theorem Z3P {f:Form} {k:Int} {r:Int × Bool × Int} (h:Z1b f k = some r):Fn CX 10 [(.agg (vs (Form.cs f))),(vi k)] (.tup [(vi r.1),(vb r.2.1),(vi r.2.2)]):=by
 refine Fn.go Tryz.func10 V fun σ H => ?_;unfold Z1b at h;refine .tR 4 V H fun b1 σ H => (.boxH (cs:=(vF f)) H (by omega) (by omega) V V V fun σ H => (.aV V (.aV V (.aV V (.nila H fun H => (.then (.tR 3 V H fun b2 σ H => (.mV V ?_))))))));refine .cV (Z4r V) V (.tV V (.nila H fun H => ?_));refine .wh h V ?_ ?_ <;> intro h
 ·refine .tR 3 V H fun b3 σ H => (.aV V (.aV V (.aV V (.nila H fun H => (.ret ?_)))));obtain rfl:=sj h;exact Ends.eR V
 refine .skip (.tR 11 V H fun b4 σ H => (.LV (vF f) H 0 V ?_));obtain ⟨x1,q1,h⟩:=bs h;refine .cV (Z74 q1) V (.mV V ?_);obtain ⟨x2,q2,h⟩:=bs h;refine .Z7Q (ys:=[(.agg (vs (size_form.cs x1))),(vi k),(.v (.fn 29))]) (r:=(.tup [(vi x2.1),(vb x2.2.1),(vi x2.2.2)])) H V (Z67 (C:=[]) V (fun _ => V) (fun z0 z1 y hz => (CloH.fn (Fn.toH (ZBc (Option.some.inj hz)) _))) q2) .nil nofun V fun σ H => (.m1 (.tup [(vi x2.1),(vb x2.2.1),(vi x2.2.2)]) V V (.xV V (.xV V (.xV V (.aV V (.aV V (.aV V (.nila H fun H => ?_))))))));refine .tR 7 V H fun b5 σ H => (.mV V (.neg (m:=x2.1) V V (.mV V (.mV V (.aV V (.aV V (.aV V (.nila H fun H => ?_))))))));refine .ret ?_;obtain rfl:=sj h;exact Ends.eR V
theorem Ze {want:Int} {ok:Bool} {σ:Heap} {lo hi:Nat} {L:List Res} (H:Has σ lo hi L):∃ r σ',Z0M CX (.fn 9) [(vi want),(vb ok)] σ = some (r,σ')∧∃ i0' i1':Nat,r = (.clo 25 [] [(.ptr i1' 1 0),(.ptr i0' 1 0)])∧Hs σ' (.blk i0' 4 [(vb ok)] :: .blk i1' 3 [(vi want)] :: L):=by
 refine callO_of (Post:=fun r σ' => ∃ i0' i1':Nat,r = (.clo 25 [] [(.ptr i1' 1 0),(.ptr i0' 1 0)])∧Hs σ' (.blk i0' 4 [(vb ok)] :: .blk i1' 3 [(vi want)] :: L)) Tryz.func9 V V V V V V ?_;replace H:=H.all;refine .tR 3 V H fun b1 σ H => (.boxH (cs:=[(vi want)]) H (by omega) (by omega) V V V fun σ H => (.boxH (cs:=[(vb ok)]) H (by omega) (by omega) V V V fun σ H => (.aV V (.nila H fun H => (.tR 2 V H fun b2 σ H => (.Z3U (fs:=[]) (cs:=[(.ptr (b1 + 0) 1 0),(.ptr (b1 + 1) 1 0)]) V V V V (.a1 (.clo 25 [] [(.ptr (b1 + 0) 1 0),(.ptr (b1 + 1) 1 0)]) V V (.nila H fun H => ?_))))))));refine .ret ?_;exact ⟨.inr V,[(.clo 25 [] [(.ptr (b1 + 0) 1 0),(.ptr (b1 + 1) 1 0)])],Z0Y H (.tmp (v:=(.clo 25 [] [(.ptr (b1 + 0) 1 0),(.ptr (b1 + 1) 1 0)])) V .nil),(b1 + 1),(b1 + 0),V,H.all⟩
theorem ZW {n:Int} {some:Bool} {e':Int} {p3':Int} {p4':Bool} {id0':Nat} {id1':Nat} {r:Bool} (h:Z3 n some e' p3' p4' = r):FnH CX 25 [(vi n),(vb some),(vi e'),(.ptr id0' 1 0),(.ptr id1' 1 0)] (vb r) [.blk id0' 3 [(vi p3')],.blk id1' 4 [(vb p4')]]:=by
 refine FnH.of Tryz.func25 V V V V V V (fun h => by have:=Z3A h 3 V;cases this) ?_;intro σ L hC H;have hC0:=hC;obtain ⟨k0',hk0',hC⟩:=hC.inv;obtain ⟨k1',hk1',hC⟩:=hC.inv;unfold Z3 at h;refine .tR 1 V H fun b1 σ H => (.aV V (.nila H fun H => (.tR 13 V H fun b2 σ H => (.mV V (.ld (vi p3') H k0' hk0' V V V V nofun V (.iV V (.mV V ?_)))))));refine .md H 4 [(16,(vb ((n == p3') && (some == p4')))),(2,(vi e'))] (L) V ?_ fun e σ H => ?_
 ·refine .split V V ?_ ?_ <;> intro hc1
  ·refine .mV V (.wt V V (.ld (vb p4') H k1' hk1' V V V V nofun V (.wt V V (.eqB (b:=some) (b':=p4') V V V V (.kT V (.nil ?_))))));exact ⟨⟨Z2V hc1,V,U⟩,H.wk (by omega)⟩
  ·refine .ps 3 V (.kF V (.nil ?_));exact ⟨⟨Z2S hc1,V,U⟩,H.wk (by omega)⟩
 refine .mV V ?_;refine .md H 3 [(20,(vb (((n == p3') && (some == p4')) && (e' == 0))))] (L) V ?_ fun e σ H => ?_
 ·refine .split V V ?_ ?_ <;> intro hc2
  ·refine .mV V (.iV V (.kT V (.nil ?_)));exact ⟨⟨Z2V hc2,U⟩,H.wk (by omega)⟩
  ·refine .ps 2 V (.kF V (.nil ?_));exact ⟨⟨Z2S hc2,U⟩,H.wk (by omega)⟩
 refine .aV V (.nila H fun H => (.ret ?_));subst h;exact (EndsH.H (xs:=[(vb (((n == p3') && (some == p4')) && (e' == 0)))]) (.inr V) H (.tmp (v:=(vb (((n == p3') && (some == p4')) && (e' == 0)))) V .nil) (.one (.c (.v _))) 0 V)
theorem ZCR {a:size_place} {b:size_place} {r:Int × Int} (h:Z2p a b = r):Fn CX 31 [(.agg (vs (size_place.cs a))),(.agg (vs (size_place.cs b)))] (.tup [(vi r.1),(vi r.2)]):=by
 refine Fn.go Tryz.func31 V fun σ H => ?_;unfold Z2p at h;refine .tR 4 V H fun b1 σ H => (.boxH (cs:=[(vi a.first),(vi a.last)]) H (by omega) (by omega) V V V fun σ H => (.boxH (cs:=[(vi b.first),(vi b.last)]) H (by omega) (by omega) V V V fun σ H => (.aV V (.aV V (.nila H fun H => (.tR 9 V H fun b2 σ H => (.fV H 0 V (.lV H 0 V ?_))))))));refine .fV H 1 V (.lV H 1 V (.cV (ZBT V) V (.xV V (.xV V (.aV V (.aV V (.nila H fun H => (.ret ?_))))))));subst h;exact Ends.eR V
theorem Z78 {f:Form} {k:Int} {r:Int × Bool × Int} (h:Z2j f k = some r):Fn CX 11 [(.agg (vs (Form.cs f))),(vi k)] (.tup [(vi r.1),(vb r.2.1),(vi r.2.2)]):=by
 refine Fn.go Tryz.func11 V fun σ H => ?_;unfold Z2j at h;refine .tR 4 V H fun b1 σ H => (.boxH (cs:=(vF f)) H (by omega) (by omega) V V V fun σ H => (.aV V (.aV V (.aV V (.nila H fun H => (.then (.tR 3 V H fun b2 σ H => (.mV V ?_))))))));refine .cV (Z4r V) V (.tV V (.nila H fun H => ?_));refine .wh h V ?_ ?_ <;> intro h
 ·refine .tR 3 V H fun b3 σ H => (.aV V (.aV V (.aV V (.nila H fun H => (.ret ?_)))));obtain rfl:=sj h;exact Ends.eR V
 refine .skip (.tR 10 V H fun b4 σ H => (.LV (vF f) H 0 V ?_));obtain ⟨x1,q1,h⟩:=bs h;refine .cV (Z74 q1) V (.mV V ?_);obtain ⟨x2,q2,h⟩:=bs h;refine .Z7Q (ys:=[(.agg (vs (size_form.cs x1))),(vi k),(.v (.fn 31))]) (r:=(.tup [(vi x2.1),(vb x2.2.1),(vi x2.2.2)])) H V (Z67 (C:=[]) V (fun _ => V) (fun z0 z1 y hz => (CloH.fn (Fn.toH (ZCR (Option.some.inj hz)) _))) q2) .nil nofun V fun σ H => (.xV V (.xV V (.xV V (.aV V (.aV V (.aV V (.nila H fun H => (.ret ?_))))))));obtain rfl:=sj h;exact Ends.eR V
theorem Z7b {n:Int} {f:Int→Option Bool} {C:List Res} {cv0:PV} (hs0:cv0.one = true) (hp0:cv0.pure = true→C = []) (hf0:∀ z0 y,f z0 = some y→CloH CX cv0 [(vi z0)] (vb y) C) {r:Int} (h:Z0V n f = some r):FnH CX 69 [(vi n),cv0] (vi r) C:=by
 refine FnH.of Tryz.func69 V V V V (Z49 V (Z49 (Z4G hs0) all_nil)) V (fun h => hp0 (Z3A h 1 V)) ?_;intro σ L hC H;unfold Z0V at h;refine .tR 1 V H fun b1 σ H => (.aV V (.nila H fun H => (.tR 3 V H fun b2 σ H => (.mV V (.aV V (.aV V (.nila H fun H => (.then ?_))))))));refine .inBlock ?_;refine .lp h (fun s1 => [(1,cv0),(5,(vi s1.1)),(6,(vi s1.2))]) (fun s1 => (L)) (.exit 0) (fun y1 => [(5,(vi y1))]) (fun y1 => (L)) (EI V) H (fun s1 e σ H z h => ?_) fun y1 e σ H h => ?_
 ·unfold Z0V.s0 at h;refine .then (.tR 3 V H fun b3 σ H => (.mV V (.mV V (.iV V (.nila H fun H => ?_)))));refine .wh h V ?_ ?_ <;> intro h
  ·refine .skip (.inBlock ?_);refine .jn h .normal (fun y2 => [(1,cv0),(5,(vi y2.1)),(6,(vi y2.2))]) (fun y2 => (L)) (fun y2 h => ?_) fun y2 e σ H h => ?_
   ·refine .tR 7 V H fun b4 σ H => (.mV V (.mV V (.iV V (.conv (m:=(w64 (s1.1 + s1.2))) V V V V (.shr (m:=(IntKind.u64.wrap (w64 (s1.1 + s1.2)))) (m':=1) V V (by decide) V (.conv (m:=((IntKind.u64.wrap (w64 (s1.1 + s1.2))).fdiv (2 ^ 1))) V V V V (.aV V (.nila H fun H => ?_))))))));refine .tR 4 V H fun b5 σ H => (.m1 cv0 V V (.mV V ?_));obtain ⟨x1,q1,h⟩:=bs h;refine .callV (cv:=cv0) (ys:=[(vi (w64 ((IntKind.u64.wrap (w64 (s1.1 + s1.2))).fdiv (2 ^ 1))))]) (r:=(vb x1)) H V V (hf0 (w64 ((IntKind.u64.wrap (w64 (s1.1 + s1.2))).fdiv (2 ^ 1))) _ q1) hC nofun V fun σ H => (.tV V (.nila H fun H => ?_));refine .wh h V ?_ ?_ <;> intro h
    ·refine .Z4 3 V H fun b6 σ H => (.mV V (.iV V (.aV V (.nila H fun H => ?_))));obtain rfl:=sj h;exact ⟨V,EI V,H⟩
    refine .Z4 2 V H fun b7 σ H => (.mV V (.aV V (.nila H fun H => ?_)));obtain rfl:=sj h;exact ⟨V,EI V,H⟩
   obtain rfl:=sj h;exact ⟨V,EI V,H⟩
  refine .exit ?_;obtain rfl:=sj h;exact ⟨nofun,⟨V,EI V,H⟩⟩
 refine .tR 2 V H fun b8 σ H => (.mV V (.aV V (.nila H fun H => (.ret ?_))));obtain rfl:=sj h;exact (EndsH.H (xs:=[(vi y1)]) (.inr V) H (.tmp (v:=(vi y1)) V .nil) (.one (.c (.v _))) 0 V)
theorem Z8T {n:Int} {p1':size_form} {p2':Int} {p3':Int} {id0':Nat} {id1':Nat} {id2':Nat} {r:Bool} (h:Z1p n p1' p2' p3' = some r):FnH CX 70 [(vi n),(.ptr id0' 5 0),(.ptr id1' 1 0),(.ptr id2' 1 0)] (vb r) [.blk id0' 65 (vG p1'),.blk id1' 3 [(vi p2')],.blk id2' 3 [(vi p3')]]:=by
 refine FnH.of Tryz.func70 V V V V V V (fun h => by have:=Z3A h 1 V;cases this) ?_;intro σ L hC H;have hC0:=hC;obtain ⟨k0',hk0',hC⟩:=hC.inv;obtain ⟨k1',hk1',hC⟩:=hC.inv;obtain ⟨k2',hk2',hC⟩:=hC.inv;unfold Z1p at h;refine .tR 1 V H fun b1 σ H => (.aV V (.nila H fun H => (.then (.Zr 16 V (by kernel_rfl) H fun b2 σ H B2 => (.ZA H k0' hk0' V V V V (fun _ => .inl ⟨B2 (k0' + 0) _ hk0' _ V,nofun,(fun _ => by kernel_rfl)⟩) V (.ld (vl size_spot.cs p1'.spots) H k0' hk0' V V V V (fun _ => .inl ⟨B2 (k0' + 0) _ hk0' _ V,nofun,(fun _ => by kernel_rfl)⟩) V (.mV V ?_)))))));obtain ⟨x1,q1,h⟩:=bs h;refine .jV q1 V (.Z8 V V V V (.Z8 V V V V (.pV V (.ld (vi p2') H k1' hk1' V V V V (fun _ => .inl ⟨B2 (k1' + 0) _ hk1' _ V,nofun,(fun _ => by kernel_rfl)⟩) V (.ZA H k0' hk0' V V V V (fun _ => .inl ⟨B2 (k0' + 0) _ hk0' _ V,nofun,(fun _ => by kernel_rfl)⟩) V (.ZA H k0' hk0' V V V V (fun _ => .inl ⟨B2 (k0' + 0) _ hk0' _ V,nofun,(fun _ => by kernel_rfl)⟩) V (.ld (vi p1'.Form.Period) H k0' hk0' V V V V (fun _ => .inl ⟨B2 (k0' + 0) _ hk0' _ V,nofun,(fun _ => by kernel_rfl)⟩) V (.iV V ?_))))))));refine .iV V (.ld (vi p3') H k2' hk2' V V V V (fun _ => .inl ⟨B2 (k2' + 0) _ hk2' _ V,nofun,(fun _ => by kernel_rfl)⟩) V (.iV V (.aV V (.nila H fun H => (.ret ?_)))));obtain rfl:=sj h;exact (EndsH.H (xs:=[(vb (decide ((w64 (x1.place.last - (w64 (p2' * p1'.Form.Period)))) ≥ p3')))]) (.inr V) H (.tmp (v:=(vb (decide ((w64 (x1.place.last - (w64 (p2' * p1'.Form.Period)))) ≥ p3')))) V .nil) (.one (.c (.v _))) 0 V)
end Go.Dn

namespace Go.Dn
open Go Go.Proofs
set_option maxRecDepth 100000
set_option maxHeartbeats 4000000
theorem Z8O {n:Int} {p1':size_form} {p2':Int} {p3':Int} {id0':Nat} {id1':Nat} {id2':Nat} {r:Bool} (h:Z1o n p1' p2' p3' = some r):FnH CX 71 [(vi n),(.ptr id0' 5 0),(.ptr id1' 1 0),(.ptr id2' 1 0)] (vb r) [.blk id0' 65 (vG p1'),.blk id1' 3 [(vi p2')],.blk id2' 3 [(vi p3')]]:=by
 refine FnH.of Tryz.func71 V V V V V V (fun h => by have:=Z3A h 1 V;cases this) ?_;intro σ L hC H;have hC0:=hC;obtain ⟨k0',hk0',hC⟩:=hC.inv;obtain ⟨k1',hk1',hC⟩:=hC.inv;obtain ⟨k2',hk2',hC⟩:=hC.inv;unfold Z1o at h;refine .tR 1 V H fun b1 σ H => (.aV V (.nila H fun H => (.then (.Zr 16 V (by kernel_rfl) H fun b2 σ H B2 => (.ZA H k0' hk0' V V V V (fun _ => .inl ⟨B2 (k0' + 0) _ hk0' _ V,nofun,(fun _ => by kernel_rfl)⟩) V (.ld (vl size_spot.cs p1'.spots) H k0' hk0' V V V V (fun _ => .inl ⟨B2 (k0' + 0) _ hk0' _ V,nofun,(fun _ => by kernel_rfl)⟩) V (.mV V ?_)))))));obtain ⟨x1,q1,h⟩:=bs h;refine .jV q1 V (.Z8 V V V V (.Z8 V V V V (.pV V (.ld (vi p2') H k1' hk1' V V V V (fun _ => .inl ⟨B2 (k1' + 0) _ hk1' _ V,nofun,(fun _ => by kernel_rfl)⟩) V (.ZA H k0' hk0' V V V V (fun _ => .inl ⟨B2 (k0' + 0) _ hk0' _ V,nofun,(fun _ => by kernel_rfl)⟩) V (.ZA H k0' hk0' V V V V (fun _ => .inl ⟨B2 (k0' + 0) _ hk0' _ V,nofun,(fun _ => by kernel_rfl)⟩) V (.ld (vi p1'.Form.Period) H k0' hk0' V V V V (fun _ => .inl ⟨B2 (k0' + 0) _ hk0' _ V,nofun,(fun _ => by kernel_rfl)⟩) V (.iV V ?_))))))));refine .iV V (.ld (vi p3') H k2' hk2' V V V V (fun _ => .inl ⟨B2 (k2' + 0) _ hk2' _ V,nofun,(fun _ => by kernel_rfl)⟩) V (.iV V (.aV V (.nila H fun H => (.ret ?_)))));obtain rfl:=sj h;exact (EndsH.H (xs:=[(vb (decide ((w64 (x1.place.first + (w64 (p2' * p1'.Form.Period)))) > p3')))]) (.inr V) H (.tmp (v:=(vb (decide ((w64 (x1.place.first + (w64 (p2' * p1'.Form.Period)))) > p3')))) V .nil) (.one (.c (.v _))) 0 V)
theorem Z5l {f:size_form} {t:Int} {up:Bool} {r:Int} (h:Z0I f t up = some r):Fn CX 51 [(.agg (vs (size_form.cs f))),(vi t),(vb up)] (vi r):=by
 refine Fn.go Tryz.func51 V fun σ H => ?_;unfold Z0I at h;refine .tR 3 V H fun b1 σ H => (.boxH (cs:=(vG f)) H (by omega) (by omega) V V V fun σ H => (.boxH (cs:=[(vi t)]) H (by omega) (by omega) V V V fun σ H => (.aV V (.nila H fun H => (.then (.tR 1 V H fun b2 σ H => (.mV V (.nila H fun H => ?_))))))));refine .wh h V ?_ ?_ <;> intro h
 ·refine .then (.Zr 24 V (by kernel_rfl) H fun b3 σ H B3 => (.ZA H 1 V V V V V (fun _ => .inl ⟨B3 1 _ V _ V,nofun,(fun _ => by kernel_rfl)⟩) V (.ld (vl size_spot.cs f.spots) H 1 V V V V V (fun _ => .inl ⟨B3 1 _ V _ V,nofun,(fun _ => by kernel_rfl)⟩) V (.ZA H 1 V V V V V (fun _ => .inl ⟨B3 1 _ V _ V,nofun,(fun _ => by kernel_rfl)⟩) V (.ld (vl size_spot.cs f.spots) H 1 V V V V V (fun _ => .inl ⟨B3 1 _ V _ V,nofun,(fun _ => by kernel_rfl)⟩) V (.nV V (.iV V ?_)))))));obtain ⟨x1,q1,h⟩:=bs h;refine .jV q1 V (.Z8 V V V V (.Z8 V V V V (.pV V (.ld (vi t) H 0 V V V V V (fun _ => .inl ⟨B3 0 _ V _ V,nofun,(fun _ => by kernel_rfl)⟩) V (.iV V (.ZA H 1 V V V V V (fun _ => .inl ⟨B3 1 _ V _ V,nofun,(fun _ => by kernel_rfl)⟩) V (.ZA H 1 V V V V V (fun _ => .inl ⟨B3 1 _ V _ V,nofun,(fun _ => by kernel_rfl)⟩) V (.ld (vi f.Form.Period) H 1 V V V V V (fun _ => .inl ⟨B3 1 _ V _ V,nofun,(fun _ => by kernel_rfl)⟩) V ?_))))))));obtain ⟨x2,q2,h⟩:=bs h;refine .cV (Z1m q2) V (.m1 (.tup [(vi x2.1),(vi x2.2.1),(vi x2.2.2)]) V V (.xV V (.xV V (.xV V (.Za (cs:=[(vi 0)]) H (by omega) (by omega) V V fun σ H => (.Z4N (cells':=[(vi x2.1)]) H 0 V V V V V V V V V (fun _ => .inr ⟨20,V,by kernel_rfl,by decide⟩) fun σ H => (.aV V (.aV V ?_))))))));refine .nila H fun H => (.tR 6 V H fun b4 σ H => (.fV H 2 V (.lV H 2 V (.nV V (.Z3U (fs:=[]) (cs:=[(.ptr (b1 + 0) 5 0),(.ptr (b3 + 20) 1 0),(.ptr (b1 + 1) 1 0)]) V V V V ?_)))))
  obtain ⟨x3,q3,h⟩:=bs h;refine .Z7Q (ys:=[(vi (f.spots.length:Int)),(.clo 70 [] [(.ptr (b1 + 0) 5 0),(.ptr (b3 + 20) 1 0),(.ptr (b1 + 1) 1 0)])]) (r:=(vi x3)) H V (Z7b (C:=[.blk (b1 + 0) 65 (vG f),.blk (b3 + 20) 3 [(vi x2.1)],.blk (b1 + 1) 3 [(vi t)]]) V (fun h => by simp [PV.pure] at h) (fun z0 y hz => (CloH.clo (Z8T hz))) q3) (.cons 2 V (.cons 0 V (.cons 1 V .nil))) nofun V fun σ H => (.aV V (.nila H fun H => (.then (.Zr 13 V (by kernel_rfl) H fun b5 σ H B5 => (.ZA H 2 V V V V V (fun _ => .inl ⟨B5 2 _ V _ V,nofun,(fun _ => by kernel_rfl)⟩) V (.ld (vl size_spot.cs f.spots) H 2 V V V V V (fun _ => .inl ⟨B5 2 _ V _ V,nofun,(fun _ => by kernel_rfl)⟩) V (.mV V ?_)))))));obtain ⟨x4,q4,h⟩:=bs h;refine .jV q4 V (.Z8 V V V V (.pV V (.ld (vi x2.1) H 0 V V V V V (fun _ => .inl ⟨B5 0 _ V _ V,nofun,(fun _ => by kernel_rfl)⟩) V (.ZA H 2 V V V V V (fun _ => .inl ⟨B5 2 _ V _ V,nofun,(fun _ => by kernel_rfl)⟩) V (.ZA H 2 V V V V V (fun _ => .inl ⟨B5 2 _ V _ V,nofun,(fun _ => by kernel_rfl)⟩) V (.ld (vi f.Form.Count) H 2 V V V V V (fun _ => .inl ⟨B5 2 _ V _ V,nofun,(fun _ => by kernel_rfl)⟩) V (.iV V (.iV V ?_))))))));refine .aV V (.nila H fun H => (.ret ?_));obtain rfl:=sj h;exact Ends.eR V
 refine .skip (.then (.Zr 20 V (by kernel_rfl) H fun b6 σ H B6 => (.ld (vi t) H 0 V V V V V (fun _ => .inl ⟨B6 0 _ V _ V,nofun,(fun _ => by kernel_rfl)⟩) V (.ZA H 1 V V V V V (fun _ => .inl ⟨B6 1 _ V _ V,nofun,(fun _ => by kernel_rfl)⟩) V (.ld (vl size_spot.cs f.spots) H 1 V V V V V (fun _ => .inl ⟨B6 1 _ V _ V,nofun,(fun _ => by kernel_rfl)⟩) V ?_)))));obtain ⟨x5,q5,h⟩:=bs h;refine .jV q5 V (.Z8 V V V V (.Z8 V V V V (.pV V (.iV V (.ZA H 1 V V V V V (fun _ => .inl ⟨B6 1 _ V _ V,nofun,(fun _ => by kernel_rfl)⟩) V (.ZA H 1 V V V V V (fun _ => .inl ⟨B6 1 _ V _ V,nofun,(fun _ => by kernel_rfl)⟩) V (.ld (vi f.Form.Period) H 1 V V V V V (fun _ => .inl ⟨B6 1 _ V _ V,nofun,(fun _ => by kernel_rfl)⟩) V ?_)))))));obtain ⟨x6,q6,h⟩:=bs h;refine .cV (Z1m q6) V (.m1 (.tup [(vi x6.1),(vi x6.2.1),(vi x6.2.2)]) V V (.xV V (.xV V (.xV V (.Za (cs:=[(vi 0)]) H (by omega) (by omega) V V fun σ H => (.Z4N (cells':=[(vi x6.1)]) H 0 V V V V V V V V V (fun _ => .inr ⟨16,V,by kernel_rfl,by decide⟩) fun σ H => (.aV V (.aV V ?_))))))));refine .nila H fun H => (.tR 6 V H fun b7 σ H => (.fV H 2 V (.lV H 2 V (.nV V (.Z3U (fs:=[]) (cs:=[(.ptr (b1 + 0) 5 0),(.ptr (b6 + 16) 1 0),(.ptr (b1 + 1) 1 0)]) V V V V ?_)))));obtain ⟨x7,q7,h⟩:=bs h;refine .Z7Q (ys:=[(vi (f.spots.length:Int)),(.clo 71 [] [(.ptr (b1 + 0) 5 0),(.ptr (b6 + 16) 1 0),(.ptr (b1 + 1) 1 0)])]) (r:=(vi x7)) H V (Z7b (C:=[.blk (b1 + 0) 65 (vG f),.blk (b6 + 16) 3 [(vi x6.1)],.blk (b1 + 1) 3 [(vi t)]]) V (fun h => by simp [PV.pure] at h) (fun z0 y hz => (CloH.clo (Z8O hz))) q7) (.cons 2 V (.cons 0 V (.cons 1 V .nil))) nofun V fun σ H => (.aV V (.nila H fun H => (.then (.Zr 14 V (by kernel_rfl) H fun b8 σ H B8 => (.ZA H 2 V V V V V (fun _ => .inl ⟨B8 2 _ V _ V,nofun,(fun _ => by kernel_rfl)⟩) V (.ld (vl size_spot.cs f.spots) H 2 V V V V V (fun _ => .inl ⟨B8 2 _ V _ V,nofun,(fun _ => by kernel_rfl)⟩) V (.mV V (.iV V ?_))))))))
 obtain ⟨x8,q8,h⟩:=bs h;refine .jV q8 V (.Z8 V V V V (.pV V (.ld (vi x6.1) H 0 V V V V V (fun _ => .inl ⟨B8 0 _ V _ V,nofun,(fun _ => by kernel_rfl)⟩) V (.ZA H 2 V V V V V (fun _ => .inl ⟨B8 2 _ V _ V,nofun,(fun _ => by kernel_rfl)⟩) V (.ZA H 2 V V V V V (fun _ => .inl ⟨B8 2 _ V _ V,nofun,(fun _ => by kernel_rfl)⟩) V (.ld (vi f.Form.Count) H 2 V V V V V (fun _ => .inl ⟨B8 2 _ V _ V,nofun,(fun _ => by kernel_rfl)⟩) V (.iV V (.iV V ?_))))))));refine .aV V (.nila H fun H => (.ret ?_));obtain rfl:=sj h;exact Ends.eR V
theorem ZAk {f:size_form} {i:Int} {r:Bool} (h:Z2h f i = some r):Fn CX 72 [(.agg (vs (size_form.cs f))),(vi i)] (vb r):=by
 refine Fn.go Tryz.func72 V fun σ H => ?_;unfold Z2h at h;refine .tR 2 V H fun b1 σ H => (.boxH (cs:=(vG f)) H (by omega) (by omega) V V V fun σ H => (.aV V (.nila H fun H => (.tR 12 V H fun b2 σ H => (.mV V (.fV H 0 V (.fV H 0 V (.lV H 0 V ?_))))))));obtain ⟨x1,q1,h⟩:=bs h;refine .cV (Z1m q1) V (.m1 (.tup [(vi x1.1),(vi x1.2.1),(vi x1.2.2)]) V V (.xV V (.xV V (.xV V (.aV V (.aV V (.aV V (.nila H fun H => ?_))))))));refine .tR 9 V H fun b3 σ H => (.fV H 0 V (.fV H 0 V (.lV H 0 V (.mV V ?_))));obtain ⟨x2,q2,h⟩:=bs h;refine .jV q2 V (.pV V (.nV V (.iV V (.aV V (.nila H fun H => (.ret ?_))))));obtain rfl:=sj h;exact Ends.eR V
theorem Z5K {f:size_form} {t:Int} {up:Bool} {r:Int × Bool} (h:Z5 f t up = some r):Fn CX 52 [(.agg (vs (size_form.cs f))),(vi t),(vb up)] (.tup [(vi r.1),(vb r.2)]):=by
 refine Fn.go Tryz.func52 V fun σ H => ?_;unfold Z5 at h;refine .tR 3 V H fun b1 σ H => (.boxH (cs:=(vG f)) H (by omega) (by omega) V V V fun σ H => (.aV V (.aV V (.nila H fun H => (.tR 1 V H fun b2 σ H => (.Za (cs:=[(vi 0),(vb false)]) H (by omega) (by omega) V V fun σ H => (.nila H fun H => (.tR 1 V H fun b3 σ H => ?_))))))));refine .aV V (.nila H fun H => (.then ?_));refine .jn h .normal (fun y1 => [(1,(vi t)),(2,(vb up)),(3,(.ptr (b1 + 0) 5 0)),(8,(.ptr (b2 + 0) 2 0)),(9,(vi y1))]) (fun y1 => [.blk (b2 + 0) 91 [(vi 0),(vb false)],.blk (b1 + 0) 65 (vG f)]) (fun y1 h => ?_) fun y1 e σ H h => ?_
 ·refine .tR 1 V H fun b4 σ H => (.mV V (.nila H fun H => ?_));refine .wh h V ?_ ?_ <;> intro h
  ·refine .Z4 1 V H fun b5 σ H => (.aV V (.nila H fun H => ?_));obtain rfl:=sj h;exact ⟨V,EI V,H⟩
  refine .skip ?_;obtain rfl:=sj h;exact ⟨V,EI V,H⟩
 refine .then ?_;refine .jn h .normal (fun y2 => [(1,(vi t)),(2,(vb up)),(3,(.ptr (b1 + 0) 5 0)),(8,(.ptr (b2 + 0) 2 0)),(9,(vi y1))]) (fun y2 => [.blk (b2 + 0) 91 [(vi y2.1),(vb y2.2)],.blk (b1 + 0) 65 (vG f)]) (fun y2 h => ?_) fun y2 e σ H h => ?_
 ·refine .tR 4 V H fun b6 σ H => (.fV H 1 V (.fV H 1 V (.lV H 1 V (.iV V (.nila H fun H => ?_)))));refine .wh h V ?_ ?_ <;> intro h
  ·refine .tR 5 V H fun b7 σ H => (.LV (vG f) H 1 V (.mV V (.mV V ?_)));obtain ⟨x1,q1,h⟩:=bs h;refine .cV (Z5l q1) V (.aV V (.nila H fun H => (.then (.inBlock ?_))));refine .lp h (fun s1 => [(1,(vi t)),(2,(vb up)),(3,(.ptr (b1 + 0) 5 0)),(8,(.ptr (b2 + 0) 2 0)),(9,(vi y1)),(10,(vi s1))]) (fun s1 => [.blk (b2 + 0) 91 [(vi 0),(vb false)],.blk (b1 + 0) 65 (vG f)]) (.exit 0) (fun y3 => [(1,(vi t)),(2,(vb up)),(3,(.ptr (b1 + 0) 5 0)),(8,(.ptr (b2 + 0) 2 0)),(9,(vi y1)),(10,(vi y3))]) (fun y3 => [.blk (b2 + 0) 91 [(vi 0),(vb false)],.blk (b1 + 0) 65 (vG f)]) (EI V) H (fun s1 e σ H z h => ?_) fun y3 e σ H h => ?_
   ·unfold Z5.s0 at h;refine .then (.tR 10 V H fun b8 σ H => (.LV (vG f) H 1 V (.mV V ?_)));obtain ⟨x2,q2,h⟩:=bs h;refine .cV (Z6O q2) V (.iV V (.mV V ?_));obtain ⟨y4,hj4,h⟩:=bs h;refine .md H 5 [(33,(vb y4)),(1,(vi t)),(2,(vb up)),(3,(.ptr (b1 + 0) 5 0)),(8,(.ptr (b2 + 0) 2 0)),(9,(vi y1)),(10,(vi s1))] [.blk (b2 + 0) 91 [(vi 0),(vb false)],.blk (b1 + 0) 65 (vG f)] V ?_ fun e σ H => ?_
    ·refine .sp hj4 V ?_ ?_ <;> intro h
     ·refine .ps 4 V (.kT V (.nil ?_));obtain rfl:=sj h;exact ⟨EI V,H.wk (by omega)⟩
     refine .LV (vG f) H 1 V (.mV V (.wt V V ?_));obtain ⟨x3,q3,h⟩:=bs h;refine .cV (ZAk q3) V (.tV V (.kF V (.nil ?_)));obtain rfl:=sj h;exact ⟨EI V,H.wk (by omega)⟩
    refine .nila H fun H => ?_;refine .wh h V ?_ ?_ <;> intro h
    ·refine .skip (.inBlock (.Z4 4 V H fun b9 σ H => (.mV V (.mV V (.iV V (.aV V (.nila H fun H => ?_)))))));obtain rfl:=sj h;exact ⟨V,EI V,H⟩
    refine .exit ?_;obtain rfl:=sj h;exact ⟨nofun,⟨V,EI V,H⟩⟩
   refine .Z4 6 V H fun b10 σ H => (.mV V (.neg (m:=y1) V V (.mV V (.iV V (.Z0p (sz:=1) ([(w64 ((w64 (0 - y1)) * y3))].map (cI .i64)) H (by omega) (by omega) V V V V V V V V V fun σ H => ?_)))));obtain ⟨y5,hj5,h⟩:=bs h;refine .Z6N (PostA:=fun r A => r = (.tup [])∧A = [.sl (.buf (b10 + 4) 1 1) 3 1 (y5.1.map (cI .i64)) true,.blk (b2 + 0) 91 [(vi y5.2.1),(vb y5.2.2)],.blk (b1 + 0) 65 (vG f)]) (cv:=(.v (.fn 48))) (ys:=[(.ptr (b2 + 0) 2 0),(.buf (b10 + 4) 1 1)]) (L:=[]) [.sl (.buf (b10 + 4) 1 1) 3 1 ([(w64 ((w64 (0 - y1)) * y3))].map (cI .i64)) true,.blk (b2 + 0) 91 [(vi 0),(vb false)],.blk (b1 + 0) 65 (vG f)] H V V (fun T1 hT H => Z2e Tryz.func48 V (fun _ => V) V V V V ?_) nofun V ?_
   ·replace h:=hj5;refine .tR 3 V H fun b11 σ H => (.mB V (.Z48 (c:=(cI .i64)) (xs:=[(w64 ((w64 (0 - y1)) * y3))]) H 0 V V V nofun V (.mV V (.nila H fun H => (.inBlock ?_)))));refine .lp h (fun s2 => [(0,(.ptr (b2 + 0) 2 0)),(6,(.buf (b10 + 4) 1 1)),(7,(vi s2.1)),(8,(vi s2.2.1))]) (fun s2 => (.sl (.buf (b10 + 4) 1 1) 3 1 (s2.2.2.1.map (cI .i64)) true :: .blk (b2 + 0) 91 [(vi s2.2.2.2.1),(vb s2.2.2.2.2)] :: .blk (b1 + 0) 65 (vG f) :: T1)) (.exit 0) (fun y6 => []) (fun y6 => (.sl (.buf (b10 + 4) 1 1) 3 1 (y6.1.map (cI .i64)) true :: .blk (b2 + 0) 91 [(vi y6.2.1),(vb y6.2.2)] :: .blk (b1 + 0) 65 (vG f) :: T1)) (EI V) H (fun s2 e σ H z h => ?_) fun y6 e σ H h => ?_
    ·unfold Z5.s1 at h;refine .tR 1 V H fun b12 σ H => (.iV V (.nila H fun H => (.then ?_)));refine .wh h V ?_ ?_ <;> intro h
     ·refine .skip (.then ?_);refine .jn h .normal (fun y7 => [(0,(.ptr (b2 + 0) 2 0)),(6,(.buf (b10 + 4) 1 1)),(7,(vi s2.1)),(8,(vi s2.2.1))]) (fun y7 => (.sl (.buf (b10 + 4) 1 1) 3 1 (s2.2.2.1.map (cI .i64)) true :: .blk (b2 + 0) 91 [(vi y7.1),(vb y7.2)] :: .blk (b1 + 0) 65 (vG f) :: T1)) (fun y7 h => ?_) fun y7 e σ H h => ?_
      ·refine .inBlock ?_;refine .jn h .normal (fun y8 => [(0,(.ptr (b2 + 0) 2 0)),(6,(.buf (b10 + 4) 1 1)),(7,(vi s2.1)),(8,(vi s2.2.1))]) (fun y8 => (.sl (.buf (b10 + 4) 1 1) 3 1 (s2.2.2.1.map (cI .i64)) true :: .blk (b2 + 0) 91 [(vi y8.1),(vb y8.2)] :: .blk (b1 + 0) 65 (vG f) :: T1)) (fun y8 h => ?_) fun y8 e σ H h => ?_
       ·refine .tR 3 V H fun b13 σ H => ?_;obtain ⟨x4,q4,h⟩:=bs h;refine .Z3h H 0 V V V (at?_map q4) V V nofun V ?_;intro id1 hv1;refine .Z6j (id:=id1) (j:=0) (w:=(.int .i64 x4)) H 0 V hv1 (by simp) (at?_map q4) V (by simp) V V V nofun V ?_;refine .aV V (.nila H fun H => (.tR 13 V H fun b14 σ H => (.mP V (.Zh H 1 V V V nofun V (.fV H 1 V (.lV H 1 V (.tV V (.mV V ?_))))))));refine .md H 7 [(24,(vb ((!s2.2.2.2.2) || (decide (x4 > s2.2.2.2.1))))),(0,(.ptr (b2 + 0) 2 0)),(5,(vi x4)),(6,(.buf (b10 + 4) 1 1)),(7,(vi s2.1)),(8,(vi s2.2.1))] (.sl (.buf (b10 + 4) 1 1) 3 1 (s2.2.2.1.map (cI .i64)) true :: .blk (b2 + 0) 91 [(vi s2.2.2.2.1),(vb s2.2.2.2.2)] :: .blk (b1 + 0) 65 (vG f) :: T1) rfl ?_ fun e σ H => ?_
        ·refine .split V V ?_ ?_ <;> intro hc6
         ·refine .ps 6 V (.kT V (.nil ?_));exact ⟨⟨or_T hc6,V,V,V,V,V,U⟩,H.wk (by omega)⟩
         ·refine .mV V (.mP V (.wt V V (.Zh H 1 V V V nofun V (.fV H 1 V (.lV H 1 V (.iV V (.kF V (.nil ?_))))))));exact ⟨⟨or_F hc6,V,V,V,V,V,U⟩,H.wk (by omega)⟩
        refine .nila H fun H => ?_;refine .wh h V ?_ ?_ <;> intro h
        ·refine .Z4 9 V H fun b15 σ H => (.mP V (.mP V (.mV V (.Zh H 1 V V V nofun V (.fV H 1 V (.sV [(vi x4),(vb s2.2.2.2.2)] H 1 V fun σ H => (.Zh H 1 V V V nofun V (.fV H 1 V ?_))))))));refine .sV [(vi x4),(vb true)] H 1 V fun σ H => (.nila H fun H => ?_);obtain rfl:=sj h;exact ⟨V,EI V,H⟩
        refine .skip ?_;obtain rfl:=sj h;exact ⟨V,EI V,H⟩
       obtain rfl:=sj h;exact ⟨V,EI V,H⟩
      refine .Z4 2 V H fun b16 σ H => (.iV V (.mV V (.nila H fun H => ?_)));obtain rfl:=sj h;exact ⟨V,EI V,H⟩
     refine .exit ?_;obtain rfl:=sj h;exact ⟨nofun,⟨V,U,H⟩⟩
    obtain rfl:=sj h;exact ⟨.inl V,_,Z0Y H .nil,_,⟨V,V⟩,H⟩
   ·rintro _ _ σ ⟨rfl,rfl⟩ H;refine .nila H fun H => ?_;obtain rfl:=sj h;exact ⟨V,EI V,(H.erase 0)⟩
  refine .skip ?_;obtain rfl:=sj h;exact ⟨V,EI V,H⟩
 refine .then (.tR 5 V H fun b17 σ H => (.fV H 1 V (.fV H 1 V (.lV H 1 V (.nV V (.mV V (.nila H fun H => (.inBlock ?_))))))));refine .lp h (fun s3 => [(1,(vi t)),(2,(vb up)),(8,(.ptr (b2 + 0) 2 0)),(9,(vi y1)),(45,(vl Granule.cs f.Form.Odd)),(46,(vi (f.Form.Odd.length:Int))),(47,(vi s3.1))]) (fun s3 => [.blk (b2 + 0) 91 [(vi s3.2.1),(vb s3.2.2)]]) (.exit 2) (fun y9 => [(8,(.ptr (b2 + 0) 2 0)),(9,(vi y1))]) (fun y9 => [.blk (b2 + 0) 91 [(vi y9.1),(vb y9.2)]]) (EI V) (H.erase 1) (fun s3 e σ H z h => ?_) fun y9 e σ H h => ?_
 ·unfold Z5.s2 at h;refine .tR 1 V H fun b18 σ H => (.iV V (.nila H fun H => (.then ?_)));refine .wh h V ?_ ?_ <;> intro h
  ·refine .skip (.then ?_);refine .jn h .normal (fun y10 => [(1,(vi t)),(2,(vb up)),(8,(.ptr (b2 + 0) 2 0)),(9,(vi y1)),(45,(vl Granule.cs f.Form.Odd)),(46,(vi (f.Form.Odd.length:Int))),(47,(vi s3.1))]) (fun y10 => [.blk (b2 + 0) 91 [(vi y10.1),(vb y10.2)]]) (fun y10 h => ?_) fun y10 e σ H h => ?_
   ·refine .inBlock ?_;refine .jn h .normal (fun y11 => [(1,(vi t)),(2,(vb up)),(8,(.ptr (b2 + 0) 2 0)),(9,(vi y1)),(45,(vl Granule.cs f.Form.Odd)),(46,(vi (f.Form.Odd.length:Int))),(47,(vi s3.1))]) (fun y11 => [.blk (b2 + 0) 91 [(vi y11.1),(vb y11.2)]]) (fun y11 h => ?_) fun y11 e σ H h => ?_
    ·refine .tR 4 V H fun b19 σ H => ?_;obtain ⟨x5,q5,h⟩:=bs h;refine .jV q5 V (.qV [(.int .i64 x5.Index),(.sl (x5.Ticks.map Span.cs))] V (.Za (cs:=[(vi 0),.nils]) H (by omega) (by omega) V V fun σ H => (.sV [(vi x5.Index),(vl Span.cs x5.Ticks)] H 0 V fun σ H => (.nila H fun H => (.tR 9 V H fun b20 σ H => (.fV H 0 V (.lV H 0 V ?_)))))));obtain ⟨x6,q6,h⟩:=bs h;refine .cV (Z1S q6) V (.m1 (.tup [(.agg [(vi x6.1.From),(vi x6.1.To)]),(vb x6.2)]) V V (.xV V (.xV V (.Za (cs:=[(vi 0),(vi 0)]) H (by omega) (by omega) V V fun σ H => (.sV [(vi x6.1.From),(vi x6.1.To)] H 0 V fun σ H => (.aV V (.nila H fun H => (.tR 20 V H fun b21 σ H => ?_))))))));refine .mV V (.mV V ?_);refine .md H 18 [(76,(vb (x6.2 && ((up && (decide (x6.1.To ≥ t))) || ((!up) && (decide (x6.1.From≤t))))))),(1,(vi t)),(2,(vb up)),(8,(.ptr (b2 + 0) 2 0)),(9,(vi y1)),(12,(.ptr (b19 + 2) 2 0)),(45,(vl Granule.cs f.Form.Odd)),(46,(vi (f.Form.Odd.length:Int))),(47,(vi s3.1))] [.blk (b19 + 2) 50 [(vi x5.Index),(vl Span.cs x5.Ticks)],.blk (b2 + 0) 91 [(vi s3.2.1),(vb s3.2.2)]] rfl ?_ fun e σ H => ?_
     ·refine .split V V ?_ ?_ <;> intro hc9
      ·refine .mV V (.mV V ?_);refine .md H 5 [(65,(vb (up && (decide (x6.1.To ≥ t))))),(1,(vi t)),(2,(vb up)),(8,(.ptr (b2 + 0) 2 0)),(9,(vi y1)),(12,(.ptr (b19 + 2) 2 0)),(13,(.ptr (b20 + 6) 2 0)),(45,(vl Granule.cs f.Form.Odd)),(46,(vi (f.Form.Odd.length:Int))),(47,(vi s3.1)),(58,(vb true))] [.blk (b20 + 6) 46 [(vi x6.1.From),(vi x6.1.To)],.blk (b19 + 2) 50 [(vi x5.Index),(vl Span.cs x5.Ticks)],.blk (b2 + 0) 91 [(vi s3.2.1),(vb s3.2.2)]] V ?_ fun e σ H => ?_
       ·refine .split V V ?_ ?_ <;> intro hc10
        ·refine .fV H 0 V (.lV H 0 V (.mV V (.iV V (.kT V (.nil ?_)))));exact ⟨⟨Z2V hc10,V,V,V,V,V,V,V,V,V,V,U⟩,H.wk (by omega)⟩
        ·refine .ps 4 V (.kF V (.nil ?_));exact ⟨⟨Z2S hc10,V,V,V,V,V,V,V,V,V,V,U⟩,H.wk (by omega)⟩
       refine .mV V ?_;refine .md H 9 [(75,(vb ((up && (decide (x6.1.To ≥ t))) || ((!up) && (decide (x6.1.From≤t)))))),(1,(vi t)),(2,(vb up)),(8,(.ptr (b2 + 0) 2 0)),(9,(vi y1)),(12,(.ptr (b19 + 2) 2 0)),(45,(vl Granule.cs f.Form.Odd)),(46,(vi (f.Form.Odd.length:Int))),(47,(vi s3.1)),(58,(vb true))] [.blk (b19 + 2) 50 [(vi x5.Index),(vl Span.cs x5.Ticks)],.blk (b2 + 0) 91 [(vi s3.2.1),(vb s3.2.2)]] rfl ?_ fun e σ H => ?_
       ·refine .split V V ?_ ?_ <;> intro hc11
        ·refine .ps 8 V (.kT V (.nil ?_));exact ⟨⟨or_T hc11,V,V,V,V,V,V,V,V,V,U⟩,(H.erase 0).wk (by omega)⟩
        ·refine .mV V (.tV V (.mV V ?_));refine .md H 5 [(74,(vb ((!up) && (decide (x6.1.From≤t))))),(1,(vi t)),(2,(vb up)),(8,(.ptr (b2 + 0) 2 0)),(9,(vi y1)),(12,(.ptr (b19 + 2) 2 0)),(45,(vl Granule.cs f.Form.Odd)),(46,(vi (f.Form.Odd.length:Int))),(47,(vi s3.1)),(58,(vb true)),(66,(vb false))] [.blk (b19 + 2) 50 [(vi x5.Index),(vl Span.cs x5.Ticks)],.blk (b2 + 0) 91 [(vi s3.2.1),(vb s3.2.2)]] V ?_ fun e σ H => ?_
         ·refine .split V V ?_ ?_ <;> intro hc12
          ·refine .fV H 0 V (.lV H 0 V (.mV V (.iV V (.kT V (.nil ?_)))));exact ⟨⟨Z2V hc12,V,V,V,V,V,V,V,V,V,V,U⟩,(H.erase 0).wk (by omega)⟩
          ·refine .ps 4 V (.kF V (.nil ?_));exact ⟨⟨Z2S hc12,V,V,V,V,V,V,V,V,V,V,U⟩,(H.erase 0).wk (by omega)⟩
         refine .kF V (.nil ?_);exact ⟨⟨or_F hc11,V,V,V,V,V,V,V,V,V,U⟩,H.wk (by omega)⟩
       refine .kT V (.nil ?_);exact ⟨⟨Z2V hc9,V,V,V,V,V,V,V,V,U⟩,H.wk (by omega)⟩
      ·refine .ps 17 V (.kF V (.nil ?_));exact ⟨⟨Z2S hc9,V,V,V,V,V,V,V,V,U⟩,(H.erase 0).wk (by omega)⟩
     refine .nila H fun H => ?_;refine .wh h V ?_ ?_ <;> intro h
     ·refine .Z4 7 V H fun b22 σ H => (.mV V (.neg (m:=y1) V V (.fV H 0 V (.lV H 0 V (.iV V (.Z0p (sz:=1) ([(w64 ((w64 (0 - y1)) * x5.Index))].map (cI .i64)) H (by omega) (by omega) V V V V V V V V V fun σ H => ?_))))));obtain ⟨y12,hj12,h⟩:=bs h;refine .Z6N (PostA:=fun r A => r = (.tup [])∧A = [.sl (.buf (b22 + 5) 1 1) 3 1 (y12.1.map (cI .i64)) true,.blk (b19 + 2) 50 [(vi x5.Index),(vl Span.cs x5.Ticks)],.blk (b2 + 0) 91 [(vi y12.2.1),(vb y12.2.2)]]) (cv:=(.v (.fn 48))) (ys:=[(.ptr (b2 + 0) 2 0),(.buf (b22 + 5) 1 1)]) (L:=[]) [.sl (.buf (b22 + 5) 1 1) 3 1 ([(w64 ((w64 (0 - y1)) * x5.Index))].map (cI .i64)) true,.blk (b19 + 2) 50 [(vi x5.Index),(vl Span.cs x5.Ticks)],.blk (b2 + 0) 91 [(vi s3.2.1),(vb s3.2.2)]] H V V (fun T2 hT H => Z2e Tryz.func48 V (fun _ => V) V V V V ?_) nofun V ?_
      ·replace h:=hj12;refine .tR 3 V H fun b23 σ H => (.mB V (.Z48 (c:=(cI .i64)) (xs:=[(w64 ((w64 (0 - y1)) * x5.Index))]) H 0 V V V nofun V (.mV V (.nila H fun H => (.inBlock ?_)))));refine .lp h (fun s4 => [(0,(.ptr (b2 + 0) 2 0)),(6,(.buf (b22 + 5) 1 1)),(7,(vi s4.1)),(8,(vi s4.2.1))]) (fun s4 => (.sl (.buf (b22 + 5) 1 1) 3 1 (s4.2.2.1.map (cI .i64)) true :: .blk (b19 + 2) 50 [(vi x5.Index),(vl Span.cs x5.Ticks)] :: .blk (b2 + 0) 91 [(vi s4.2.2.2.1),(vb s4.2.2.2.2)] :: T2)) (.exit 0) (fun y13 => []) (fun y13 => (.sl (.buf (b22 + 5) 1 1) 3 1 (y13.1.map (cI .i64)) true :: .blk (b19 + 2) 50 [(vi x5.Index),(vl Span.cs x5.Ticks)] :: .blk (b2 + 0) 91 [(vi y13.2.1),(vb y13.2.2)] :: T2)) (EI V) H (fun s4 e σ H z h => ?_) fun y13 e σ H h => ?_
       ·unfold Z5.s3 at h;refine .tR 1 V H fun b24 σ H => (.iV V (.nila H fun H => (.then ?_)));refine .wh h V ?_ ?_ <;> intro h
        ·refine .skip (.then ?_);refine .jn h .normal (fun y14 => [(0,(.ptr (b2 + 0) 2 0)),(6,(.buf (b22 + 5) 1 1)),(7,(vi s4.1)),(8,(vi s4.2.1))]) (fun y14 => (.sl (.buf (b22 + 5) 1 1) 3 1 (s4.2.2.1.map (cI .i64)) true :: .blk (b19 + 2) 50 [(vi x5.Index),(vl Span.cs x5.Ticks)] :: .blk (b2 + 0) 91 [(vi y14.1),(vb y14.2)] :: T2)) (fun y14 h => ?_) fun y14 e σ H h => ?_
         ·refine .inBlock ?_;refine .jn h .normal (fun y15 => [(0,(.ptr (b2 + 0) 2 0)),(6,(.buf (b22 + 5) 1 1)),(7,(vi s4.1)),(8,(vi s4.2.1))]) (fun y15 => (.sl (.buf (b22 + 5) 1 1) 3 1 (s4.2.2.1.map (cI .i64)) true :: .blk (b19 + 2) 50 [(vi x5.Index),(vl Span.cs x5.Ticks)] :: .blk (b2 + 0) 91 [(vi y15.1),(vb y15.2)] :: T2)) (fun y15 h => ?_) fun y15 e σ H h => ?_
          ·refine .tR 3 V H fun b25 σ H => ?_;obtain ⟨x7,q7,h⟩:=bs h;refine .Z3h H 0 V V V (at?_map q7) V V nofun V ?_;intro id2 hv2;refine .Z6j (id:=id2) (j:=0) (w:=(.int .i64 x7)) H 0 V hv2 (by simp) (at?_map q7) V (by simp) V V V nofun V ?_;refine .aV V (.nila H fun H => (.tR 13 V H fun b26 σ H => (.mP V (.Zh H 2 V V V nofun V (.fV H 2 V (.lV H 2 V (.tV V (.mV V ?_))))))));refine .md H 7 [(24,(vb ((!s4.2.2.2.2) || (decide (x7 > s4.2.2.2.1))))),(0,(.ptr (b2 + 0) 2 0)),(5,(vi x7)),(6,(.buf (b22 + 5) 1 1)),(7,(vi s4.1)),(8,(vi s4.2.1))] (.sl (.buf (b22 + 5) 1 1) 3 1 (s4.2.2.1.map (cI .i64)) true :: .blk (b19 + 2) 50 [(vi x5.Index),(vl Span.cs x5.Ticks)] :: .blk (b2 + 0) 91 [(vi s4.2.2.2.1),(vb s4.2.2.2.2)] :: T2) rfl ?_ fun e σ H => ?_
           ·refine .split V V ?_ ?_ <;> intro hc15
            ·refine .ps 6 V (.kT V (.nil ?_));exact ⟨⟨or_T hc15,V,V,V,V,V,U⟩,H.wk (by omega)⟩
            ·refine .mV V (.mP V (.wt V V (.Zh H 2 V V V nofun V (.fV H 2 V (.lV H 2 V (.iV V (.kF V (.nil ?_))))))));exact ⟨⟨or_F hc15,V,V,V,V,V,U⟩,H.wk (by omega)⟩
           refine .nila H fun H => ?_;refine .wh h V ?_ ?_ <;> intro h
           ·refine .Z4 9 V H fun b27 σ H => (.mP V (.mP V (.mV V (.Zh H 2 V V V nofun V (.fV H 2 V (.sV [(vi x7),(vb s4.2.2.2.2)] H 2 V fun σ H => (.Zh H 2 V V V nofun V (.fV H 2 V ?_))))))));refine .sV [(vi x7),(vb true)] H 2 V fun σ H => (.nila H fun H => ?_);obtain rfl:=sj h;exact ⟨V,EI V,H⟩
           refine .skip ?_;obtain rfl:=sj h;exact ⟨V,EI V,H⟩
          obtain rfl:=sj h;exact ⟨V,EI V,H⟩
         refine .Z4 2 V H fun b28 σ H => (.iV V (.mV V (.nila H fun H => ?_)));obtain rfl:=sj h;exact ⟨V,EI V,H⟩
        refine .exit ?_;obtain rfl:=sj h;exact ⟨nofun,⟨V,U,H⟩⟩
       obtain rfl:=sj h;exact ⟨.inl V,_,Z0Y H .nil,_,⟨V,V⟩,H⟩
      ·rintro _ _ σ ⟨rfl,rfl⟩ H;refine .nila H fun H => ?_;obtain rfl:=sj h;exact ⟨V,EI V,((H.erase 1).erase 0)⟩
     refine .skip ?_;obtain rfl:=sj h;exact ⟨V,EI V,(H.erase 0)⟩
    obtain rfl:=sj h;exact ⟨V,EI V,H⟩
   refine .Z4 2 V H fun b29 σ H => (.iV V (.mV V (.nila H fun H => ?_)));obtain rfl:=sj h;exact ⟨V,EI V,H⟩
  refine .exit ?_;obtain rfl:=sj h;exact ⟨nofun,⟨V,EI V,H⟩⟩
 refine .then (.Zr 9 V (by kernel_rfl) H fun b30 σ H B30 => (.mV V (.neg (m:=y1) V V (.ZA H 0 V V V V V (fun _ => .inl ⟨B30 0 _ V _ V,nofun,(fun _ => by kernel_rfl)⟩) V (.ld (vi y9.1) H 0 V V V V V (fun _ => .inl ⟨B30 0 _ V _ V,nofun,(fun _ => by kernel_rfl)⟩) V (.iV V (.ZA H 0 V V V V V (fun _ => .inl ⟨B30 0 _ V _ V,nofun,(fun _ => by kernel_rfl)⟩) V (.ld (vb y9.2) H 0 V V V V V (fun _ => .inl ⟨B30 0 _ V _ V,nofun,(fun _ => by kernel_rfl)⟩) V ?_))))))));refine .aV V (.aV V (.nila H fun H => (.ret ?_)));obtain rfl:=sj h;exact Ends.eR V
theorem ZBQ {g:Form} {d:Int} {up:Bool} {r:Int × Bool × Int} (h:ZQ g d up = some r):Fn CX 32 [(.agg (vs (Form.cs g))),(vi d),(vb up)] (.tup [(vi r.1),(vb r.2.1),(vi r.2.2)]):=by
 refine Fn.go Tryz.func32 V fun σ H => ?_;unfold ZQ at h;refine .tR 4 V H fun b1 σ H => (.boxH (cs:=(vF g)) H (by omega) (by omega) V V V fun σ H => (.aV V (.aV V (.aV V (.nila H fun H => (.then (.tR 3 V H fun b2 σ H => (.mV V ?_))))))));refine .cV (Z4r V) V (.tV V (.nila H fun H => ?_));refine .wh h V ?_ ?_ <;> intro h
 ·refine .tR 3 V H fun b3 σ H => (.aV V (.aV V (.aV V (.nila H fun H => (.ret ?_)))));obtain rfl:=sj h;exact Ends.eR V
 refine .skip (.tR 4 V H fun b4 σ H => (.LV (vF g) H 0 V ?_));obtain ⟨x1,q1,h⟩:=bs h;refine .cV (Z74 q1) V (.Za (cs:=[(vi 0),(vi 0),.nils,.nils,.nils]) H (by omega) (by omega) V V fun σ H => (.sV (vG x1) H 0 V fun σ H => (.nila H fun H => (.tR 1 V H fun b5 σ H => (.aV V (.nila H fun H => (.then ?_)))))));refine .jn h .normal (fun y1 => [(1,(vi d)),(2,(vb up)),(9,(.ptr (b4 + 2) 5 0)),(10,(vi y1))]) (fun y1 => [.blk (b4 + 2) 65 (vG x1)]) (fun y1 h => ?_) fun y1 e σ H h => ?_
 ·refine .tR 1 V H fun b6 σ H => (.mV V (.nila H fun H => ?_));refine .wh h V ?_ ?_ <;> intro h
  ·refine .Z4 1 V H fun b7 σ H => (.aV V (.nila H fun H => ?_));obtain rfl:=sj h;exact ⟨V,EI V,(H.erase 1)⟩
  refine .skip ?_;obtain rfl:=sj h;exact ⟨V,EI V,(H.erase 1)⟩
 refine .tR 1 V H fun b8 σ H => (.Za (cs:=[(vi 0),(vb false)]) H (by omega) (by omega) V V fun σ H => (.nila H fun H => (.then (.tR 4 V H fun b9 σ H => (.fV H 1 V (.lV H 1 V (.nV V (.mV V ?_))))))));refine .nila H fun H => (.inBlock ?_);refine .lp h (fun s1 => [(1,(vi d)),(2,(vb up)),(9,(.ptr (b4 + 2) 5 0)),(10,(vi y1)),(11,(.ptr (b8 + 0) 2 0)),(32,(vl size_spot.cs x1.spots)),(33,(vi (x1.spots.length:Int))),(34,(vi s1.1))]) (fun s1 => [.blk (b8 + 0) 91 [(vi s1.2.1),(vb s1.2.2)],.blk (b4 + 2) 65 (vG x1)]) (.exit 0) (fun y2 => [(1,(vi d)),(2,(vb up)),(9,(.ptr (b4 + 2) 5 0)),(10,(vi y1)),(11,(.ptr (b8 + 0) 2 0))]) (fun y2 => [.blk (b8 + 0) 91 [(vi y2.1),(vb y2.2)],.blk (b4 + 2) 65 (vG x1)]) (EI V) H (fun s1 e σ H z h => ?_) fun y2 e σ H h => ?_
 ·unfold ZQ.s0 at h;refine .tR 1 V H fun b10 σ H => (.iV V (.nila H fun H => (.then ?_)));refine .wh h V ?_ ?_ <;> intro h
  ·refine .skip (.then ?_);refine .jn h .normal (fun y3 => [(1,(vi d)),(2,(vb up)),(9,(.ptr (b4 + 2) 5 0)),(10,(vi y1)),(11,(.ptr (b8 + 0) 2 0)),(32,(vl size_spot.cs x1.spots)),(33,(vi (x1.spots.length:Int))),(34,(vi s1.1))]) (fun y3 => [.blk (b8 + 0) 91 [(vi y3.1),(vb y3.2)],.blk (b4 + 2) 65 (vG x1)]) (fun y3 h => ?_) fun y3 e σ H h => ?_
   ·refine .inBlock ?_;refine .jn h .normal (fun y4 => [(1,(vi d)),(2,(vb up)),(9,(.ptr (b4 + 2) 5 0)),(10,(vi y1)),(11,(.ptr (b8 + 0) 2 0)),(32,(vl size_spot.cs x1.spots)),(33,(vi (x1.spots.length:Int))),(34,(vi s1.1))]) (fun y4 => [.blk (b8 + 0) 91 [(vi y4.1),(vb y4.2)],.blk (b4 + 2) 65 (vG x1)]) (fun y4 h => ?_) fun y4 e σ H h => ?_
    ·refine .tR 4 V H fun b11 σ H => ?_;obtain ⟨x2,q2,h⟩:=bs h;refine .jV q2 V (.qV [(.int .i64 x2.index),(.int .i64 x2.place.first),(.int .i64 x2.place.last)] V (.Za (cs:=[(vi 0),(vi 0),(vi 0)]) H (by omega) (by omega) V V fun σ H => (.sV [(vi x2.index),(vi x2.place.first),(vi x2.place.last)] H 0 V fun σ H => (.nila H fun H => (.tR 4 V H fun b12 σ H => (.fV H 0 V (.fV H 0 V (.lV H 0 V ?_))))))));refine .aV V (.nila H fun H => (.then ?_));refine .jn h .normal (fun y5 => [(1,(vi d)),(2,(vb up)),(9,(.ptr (b4 + 2) 5 0)),(10,(vi y1)),(11,(.ptr (b8 + 0) 2 0)),(13,(.ptr (b11 + 2) 3 0)),(14,(vi y5)),(32,(vl size_spot.cs x1.spots)),(33,(vi (x1.spots.length:Int))),(34,(vi s1.1))]) (fun y5 => [.blk (b11 + 2) 88 [(vi x2.index),(vi x2.place.first),(vi x2.place.last)],.blk (b8 + 0) 91 [(vi s1.2.1),(vb s1.2.2)],.blk (b4 + 2) 65 (vG x1)]) (fun y5 h => ?_) fun y5 e σ H h => ?_
     ·refine .tR 1 V H fun b13 σ H => (.mV V (.nila H fun H => ?_));refine .wh h V ?_ ?_ <;> intro h
      ·refine .Z4 4 V H fun b14 σ H => (.fV H 0 V (.fV H 0 V (.lV H 0 V (.aV V (.nila H fun H => ?_)))));obtain rfl:=sj h;exact ⟨V,EI V,H⟩
      refine .skip ?_;obtain rfl:=sj h;exact ⟨V,EI V,H⟩
     refine .Zr 13 V (by kernel_rfl) H fun b15 σ H B15 => (.mV V (.Z1f (cs:=(vG x1)) H 2 V V V V V V V (fun _ => .inl ⟨B15 2 _ V _ V,nofun,(fun _ => by kernel_rfl)⟩) V (.mV V (.mV V (.iV V (.mV V ?_))))));obtain ⟨x3,q3,h⟩:=bs h;refine .cV (Z5l q3) V (.ZA H 0 V V V V V (fun _ => .inl ⟨B15 0 _ V _ V,nofun,(fun _ => by kernel_rfl)⟩) V (.ld (vi x2.index) H 0 V V V V V (fun _ => .inl ⟨B15 0 _ V _ V,nofun,(fun _ => by kernel_rfl)⟩) V (.iV V (.iV V (.Z0p (sz:=1) ([(w64 (y1 * (w64 (x3 - x2.index))))].map (cI .i64)) H (by omega) (by omega) V V V V V V V V V fun σ H => ?_)))));obtain ⟨y6,hj6,h⟩:=bs h;refine .Z6N (PostA:=fun r A => r = (.tup [])∧A = [.sl (.buf (b15 + 11) 1 1) 3 1 (y6.1.map (cI .i64)) true,.blk (b11 + 2) 88 [(vi x2.index),(vi x2.place.first),(vi x2.place.last)],.blk (b8 + 0) 91 [(vi y6.2.1),(vb y6.2.2)],.blk (b4 + 2) 65 (vG x1)]) (cv:=(.v (.fn 48))) (ys:=[(.ptr (b8 + 0) 2 0),(.buf (b15 + 11) 1 1)]) (L:=[]) [.sl (.buf (b15 + 11) 1 1) 3 1 ([(w64 (y1 * (w64 (x3 - x2.index))))].map (cI .i64)) true,.blk (b11 + 2) 88 [(vi x2.index),(vi x2.place.first),(vi x2.place.last)],.blk (b8 + 0) 91 [(vi s1.2.1),(vb s1.2.2)],.blk (b4 + 2) 65 (vG x1)] H V V (fun T1 hT H => Z2e Tryz.func48 V (fun _ => V) V V V V ?_) (fun _ => by kernel_rfl) V ?_
     ·replace h:=hj6;refine .tR 3 V H fun b16 σ H => (.mB V (.Z48 (c:=(cI .i64)) (xs:=[(w64 (y1 * (w64 (x3 - x2.index))))]) H 0 V V V nofun V (.mV V (.nila H fun H => (.inBlock ?_)))));refine .lp h (fun s2 => [(0,(.ptr (b8 + 0) 2 0)),(6,(.buf (b15 + 11) 1 1)),(7,(vi s2.1)),(8,(vi s2.2.1))]) (fun s2 => (.sl (.buf (b15 + 11) 1 1) 3 1 (s2.2.2.1.map (cI .i64)) true :: .blk (b11 + 2) 88 [(vi x2.index),(vi x2.place.first),(vi x2.place.last)] :: .blk (b8 + 0) 91 [(vi s2.2.2.2.1),(vb s2.2.2.2.2)] :: .blk (b4 + 2) 65 (vG x1) :: T1)) (.exit 0) (fun y7 => []) (fun y7 => (.sl (.buf (b15 + 11) 1 1) 3 1 (y7.1.map (cI .i64)) true :: .blk (b11 + 2) 88 [(vi x2.index),(vi x2.place.first),(vi x2.place.last)] :: .blk (b8 + 0) 91 [(vi y7.2.1),(vb y7.2.2)] :: .blk (b4 + 2) 65 (vG x1) :: T1)) (EI V) H (fun s2 e σ H z h => ?_) fun y7 e σ H h => ?_
      ·unfold ZQ.s1 at h;refine .tR 1 V H fun b17 σ H => (.iV V (.nila H fun H => (.then ?_)));refine .wh h V ?_ ?_ <;> intro h
       ·refine .skip (.then ?_);refine .jn h .normal (fun y8 => [(0,(.ptr (b8 + 0) 2 0)),(6,(.buf (b15 + 11) 1 1)),(7,(vi s2.1)),(8,(vi s2.2.1))]) (fun y8 => (.sl (.buf (b15 + 11) 1 1) 3 1 (s2.2.2.1.map (cI .i64)) true :: .blk (b11 + 2) 88 [(vi x2.index),(vi x2.place.first),(vi x2.place.last)] :: .blk (b8 + 0) 91 [(vi y8.1),(vb y8.2)] :: .blk (b4 + 2) 65 (vG x1) :: T1)) (fun y8 h => ?_) fun y8 e σ H h => ?_
        ·refine .inBlock ?_;refine .jn h .normal (fun y9 => [(0,(.ptr (b8 + 0) 2 0)),(6,(.buf (b15 + 11) 1 1)),(7,(vi s2.1)),(8,(vi s2.2.1))]) (fun y9 => (.sl (.buf (b15 + 11) 1 1) 3 1 (s2.2.2.1.map (cI .i64)) true :: .blk (b11 + 2) 88 [(vi x2.index),(vi x2.place.first),(vi x2.place.last)] :: .blk (b8 + 0) 91 [(vi y9.1),(vb y9.2)] :: .blk (b4 + 2) 65 (vG x1) :: T1)) (fun y9 h => ?_) fun y9 e σ H h => ?_
         ·refine .tR 3 V H fun b18 σ H => ?_;obtain ⟨x4,q4,h⟩:=bs h;refine .Z3h H 0 V V V (at?_map q4) V V nofun V ?_;intro id1 hv1;refine .Z6j (id:=id1) (j:=0) (w:=(.int .i64 x4)) H 0 V hv1 (by simp) (at?_map q4) V (by simp) V V V nofun V ?_;refine .aV V (.nila H fun H => (.tR 13 V H fun b19 σ H => (.mP V (.Zh H 2 V V V nofun V (.fV H 2 V (.lV H 2 V (.tV V (.mV V ?_))))))));refine .md H 7 [(24,(vb ((!s2.2.2.2.2) || (decide (x4 > s2.2.2.2.1))))),(0,(.ptr (b8 + 0) 2 0)),(5,(vi x4)),(6,(.buf (b15 + 11) 1 1)),(7,(vi s2.1)),(8,(vi s2.2.1))] (.sl (.buf (b15 + 11) 1 1) 3 1 (s2.2.2.1.map (cI .i64)) true :: .blk (b11 + 2) 88 [(vi x2.index),(vi x2.place.first),(vi x2.place.last)] :: .blk (b8 + 0) 91 [(vi s2.2.2.2.1),(vb s2.2.2.2.2)] :: .blk (b4 + 2) 65 (vG x1) :: T1) rfl ?_ fun e σ H => ?_
          ·refine .split V V ?_ ?_ <;> intro hc6
           ·refine .ps 6 V (.kT V (.nil ?_));exact ⟨⟨or_T hc6,V,V,V,V,V,U⟩,H.wk (by omega)⟩
           ·refine .mV V (.mP V (.wt V V (.Zh H 2 V V V nofun V (.fV H 2 V (.lV H 2 V (.iV V (.kF V (.nil ?_))))))));exact ⟨⟨or_F hc6,V,V,V,V,V,U⟩,H.wk (by omega)⟩
          refine .nila H fun H => ?_;refine .wh h V ?_ ?_ <;> intro h
          ·refine .Z4 9 V H fun b20 σ H => (.mP V (.mP V (.mV V (.Zh H 2 V V V nofun V (.fV H 2 V (.sV [(vi x4),(vb s2.2.2.2.2)] H 2 V fun σ H => (.Zh H 2 V V V nofun V (.fV H 2 V ?_))))))));refine .sV [(vi x4),(vb true)] H 2 V fun σ H => (.nila H fun H => ?_);obtain rfl:=sj h;exact ⟨V,EI V,H⟩
          refine .skip ?_;obtain rfl:=sj h;exact ⟨V,EI V,H⟩
         obtain rfl:=sj h;exact ⟨V,EI V,H⟩
        refine .Z4 2 V H fun b21 σ H => (.iV V (.mV V (.nila H fun H => ?_)));obtain rfl:=sj h;exact ⟨V,EI V,H⟩
       refine .exit ?_;obtain rfl:=sj h;exact ⟨nofun,⟨V,U,H⟩⟩
      obtain rfl:=sj h;exact ⟨.inl V,_,Z0Y H .nil,_,⟨V,V⟩,H⟩
     ·rintro _ _ σ ⟨rfl,rfl⟩ H;refine .nila H fun H => ?_;obtain rfl:=sj h;exact ⟨V,EI V,((H.erase 1).erase 0)⟩
    obtain rfl:=sj h;exact ⟨V,EI V,H⟩
   refine .Z4 2 V H fun b22 σ H => (.iV V (.mV V (.nila H fun H => ?_)));obtain rfl:=sj h;exact ⟨V,EI V,H⟩
  refine .exit ?_;obtain rfl:=sj h;exact ⟨nofun,⟨V,EI V,H⟩⟩
 refine .then (.tR 5 V H fun b23 σ H => (.fV H 1 V (.fV H 1 V (.lV H 1 V (.nV V (.mV V (.nila H fun H => (.inBlock ?_))))))));refine .lp h (fun s3 => [(1,(vi d)),(2,(vb up)),(9,(.ptr (b4 + 2) 5 0)),(10,(vi y1)),(11,(.ptr (b8 + 0) 2 0)),(61,(vl Granule.cs x1.Form.Odd)),(62,(vi (x1.Form.Odd.length:Int))),(63,(vi s3.1))]) (fun s3 => [.blk (b8 + 0) 91 [(vi s3.2.1),(vb s3.2.2)],.blk (b4 + 2) 65 (vG x1)]) (.exit 2) (fun y10 => [(10,(vi y1)),(11,(.ptr (b8 + 0) 2 0))]) (fun y10 => [.blk (b8 + 0) 91 [(vi y10.1),(vb y10.2)]]) (EI V) H (fun s3 e σ H z h => ?_) fun y10 e σ H h => ?_
 ·unfold ZQ.s2 at h;refine .tR 1 V H fun b24 σ H => (.iV V (.nila H fun H => (.then ?_)));refine .wh h V ?_ ?_ <;> intro h
  ·refine .skip (.then ?_);refine .jn h .normal (fun y11 => [(1,(vi d)),(2,(vb up)),(9,(.ptr (b4 + 2) 5 0)),(10,(vi y1)),(11,(.ptr (b8 + 0) 2 0)),(61,(vl Granule.cs x1.Form.Odd)),(62,(vi (x1.Form.Odd.length:Int))),(63,(vi s3.1))]) (fun y11 => [.blk (b8 + 0) 91 [(vi y11.1),(vb y11.2)],.blk (b4 + 2) 65 (vG x1)]) (fun y11 h => ?_) fun y11 e σ H h => ?_
   ·refine .inBlock ?_;obtain ⟨y12,hj12,h⟩:=bs h;refine .mono (Q:=fun x e σ => (∃ a1,y12 = (.go a1)∧x = .normal∧Z6 e [(1,(vi d)),(2,(vb up)),(9,(.ptr (b4 + 2) 5 0)),(10,(vi y1)),(11,(.ptr (b8 + 0) 2 0)),(61,(vl Granule.cs x1.Form.Odd)),(62,(vi (x1.Form.Odd.length:Int))),(63,(vi s3.1))]∧Hs σ [.blk (b8 + 0) 91 [(vi a1.1),(vb a1.2)],.blk (b4 + 2) 65 (vG x1)])∨(∃ a2,y12 = (.ret a2)∧x = .exit 3∧Z6 e [(1,(vi d)),(2,(vb up)),(9,(.ptr (b4 + 2) 5 0)),(10,(vi y1)),(11,(.ptr (b8 + 0) 2 0)),(61,(vl Granule.cs x1.Form.Odd)),(62,(vi (x1.Form.Odd.length:Int))),(63,(vi s3.1))]∧Hs σ [.blk (b8 + 0) 91 [(vi s3.2.1),(vb s3.2.2)],.blk (b4 + 2) 65 (vG x1)])) ?_ ?_
    ·replace h:=hj12;refine .tR 4 V H fun b25 σ H => ?_;obtain ⟨x5,q5,h⟩:=bs h;refine .jV q5 V (.qV [(.int .i64 x5.Index),(.sl (x5.Ticks.map Span.cs))] V (.Za (cs:=[(vi 0),.nils]) H (by omega) (by omega) V V fun σ H => (.sV [(vi x5.Index),(vl Span.cs x5.Ticks)] H 0 V fun σ H => (.nila H fun H => (.tR 9 V H fun b26 σ H => (.fV H 0 V (.lV H 0 V ?_)))))));obtain ⟨x6,q6,h⟩:=bs h;refine .cV (Z1S q6) V (.m1 (.tup [(.agg [(vi x6.1.From),(vi x6.1.To)]),(vb x6.2)]) V V (.xV V (.xV V (.Za (cs:=[(vi 0),(vi 0)]) H (by omega) (by omega) V V fun σ H => (.sV [(vi x6.1.From),(vi x6.1.To)] H 0 V fun σ H => (.aV V (.nila H fun H => (.then ?_))))))));refine .tR 2 V H fun b27 σ H => (.mV V (.tV V (.nila H fun H => ?_)));refine .wh h V ?_ ?_ <;> intro h
     ·refine .exit ?_;obtain rfl:=sj h;exact (.inr ⟨_,V,V,EI V,((H.erase 1).erase 0)⟩)
     refine .skip (.then (.Zr 6 V (by kernel_rfl) H fun b28 σ H B28 => (.ZA H 0 V V V V V (fun _ => .inl ⟨B28 0 _ V _ V,nofun,(fun _ => by kernel_rfl)⟩) V (.ld (vi x6.1.From) H 0 V V V V V (fun _ => .inl ⟨B28 0 _ V _ V,nofun,(fun _ => by kernel_rfl)⟩) V (.ZA H 0 V V V V V (fun _ => .inl ⟨B28 0 _ V _ V,nofun,(fun _ => by kernel_rfl)⟩) V (.ld (vi x6.1.To) H 0 V V V V V (fun _ => .inl ⟨B28 0 _ V _ V,nofun,(fun _ => by kernel_rfl)⟩) V (.aV V (.aV V ?_))))))));refine .nila H fun H => (.then ?_);refine .jn h .normal (fun y13 => [(1,(vi d)),(2,(vb up)),(9,(.ptr (b4 + 2) 5 0)),(10,(vi y1)),(11,(.ptr (b8 + 0) 2 0)),(16,(.ptr (b25 + 2) 2 0)),(19,(vi y13.1)),(20,(vi y13.2)),(61,(vl Granule.cs x1.Form.Odd)),(62,(vi (x1.Form.Odd.length:Int))),(63,(vi s3.1))]) (fun y13 => [.blk (b25 + 2) 50 [(vi x5.Index),(vl Span.cs x5.Ticks)],.blk (b8 + 0) 91 [(vi s3.2.1),(vb s3.2.2)],.blk (b4 + 2) 65 (vG x1)]) (fun y13 h => ?_) fun y13 e σ H h => ?_
     ·refine .tR 1 V H fun b29 σ H => (.mV V (.nila H fun H => ?_));refine .wh h V ?_ ?_ <;> intro h
      ·refine .Z4 4 V H fun b30 σ H => (.mV V (.mV V (.aV V (.aV V (.nila H fun H => ?_)))));obtain rfl:=sj h;exact ⟨V,EI V,(H.erase 0)⟩
      refine .skip ?_;obtain rfl:=sj h;exact ⟨V,EI V,(H.erase 0)⟩
     refine .then ?_;refine .jn h .normal (fun y14 => [(1,(vi d)),(2,(vb up)),(9,(.ptr (b4 + 2) 5 0)),(10,(vi y1)),(11,(.ptr (b8 + 0) 2 0)),(16,(.ptr (b25 + 2) 2 0)),(19,(vi y13.1)),(61,(vl Granule.cs x1.Form.Odd)),(62,(vi (x1.Form.Odd.length:Int))),(63,(vi s3.1))]) (fun y14 => [.blk (b25 + 2) 50 [(vi x5.Index),(vl Span.cs x5.Ticks)],.blk (b8 + 0) 91 [(vi y14.1),(vb y14.2)],.blk (b4 + 2) 65 (vG x1)]) (fun y14 h => ?_) fun y14 e σ H h => ?_
     ·refine .tR 11 V H fun b31 σ H => (.LV (vG x1) H 2 V (.mV V (.mV V (.iV V (.mV V ?_)))));obtain ⟨x7,q7,h⟩:=bs h;refine .cV (Z5K q7) V (.m1 (.tup [(vi x7.1),(vb x7.2)]) V V (.xV V (.xV V (.aV V (.aV V (.nila H fun H => (.tR 1 V H fun b32 σ H => (.mV V ?_))))))));refine .nila H fun H => ?_;refine .wh h V ?_ ?_ <;> intro h
      ·refine .Z4 8 V H fun b33 σ H => (.mV V (.mV V (.fV H 0 V (.lV H 0 V (.iV V (.iV V (.Z0p (sz:=1) ([(w64 (y1 * (w64 (x7.1 - x5.Index))))].map (cI .i64)) H (by omega) (by omega) V V V V V V V V V fun σ H => ?_)))))));obtain ⟨y15,hj15,h⟩:=bs h;refine .Z6N (PostA:=fun r A => r = (.tup [])∧A = [.sl (.buf (b33 + 6) 1 1) 3 1 (y15.1.map (cI .i64)) true,.blk (b25 + 2) 50 [(vi x5.Index),(vl Span.cs x5.Ticks)],.blk (b8 + 0) 91 [(vi y15.2.1),(vb y15.2.2)],.blk (b4 + 2) 65 (vG x1)]) (cv:=(.v (.fn 48))) (ys:=[(.ptr (b8 + 0) 2 0),(.buf (b33 + 6) 1 1)]) (L:=[]) [.sl (.buf (b33 + 6) 1 1) 3 1 ([(w64 (y1 * (w64 (x7.1 - x5.Index))))].map (cI .i64)) true,.blk (b25 + 2) 50 [(vi x5.Index),(vl Span.cs x5.Ticks)],.blk (b8 + 0) 91 [(vi s3.2.1),(vb s3.2.2)],.blk (b4 + 2) 65 (vG x1)] H V V (fun T2 hT H => Z2e Tryz.func48 V (fun _ => V) V V V V ?_) nofun V ?_
       ·replace h:=hj15;refine .tR 3 V H fun b34 σ H => (.mB V (.Z48 (c:=(cI .i64)) (xs:=[(w64 (y1 * (w64 (x7.1 - x5.Index))))]) H 0 V V V nofun V (.mV V (.nila H fun H => (.inBlock ?_)))));refine .lp h (fun s4 => [(0,(.ptr (b8 + 0) 2 0)),(6,(.buf (b33 + 6) 1 1)),(7,(vi s4.1)),(8,(vi s4.2.1))]) (fun s4 => (.sl (.buf (b33 + 6) 1 1) 3 1 (s4.2.2.1.map (cI .i64)) true :: .blk (b25 + 2) 50 [(vi x5.Index),(vl Span.cs x5.Ticks)] :: .blk (b8 + 0) 91 [(vi s4.2.2.2.1),(vb s4.2.2.2.2)] :: .blk (b4 + 2) 65 (vG x1) :: T2)) (.exit 0) (fun y16 => []) (fun y16 => (.sl (.buf (b33 + 6) 1 1) 3 1 (y16.1.map (cI .i64)) true :: .blk (b25 + 2) 50 [(vi x5.Index),(vl Span.cs x5.Ticks)] :: .blk (b8 + 0) 91 [(vi y16.2.1),(vb y16.2.2)] :: .blk (b4 + 2) 65 (vG x1) :: T2)) (EI V) H (fun s4 e σ H z h => ?_) fun y16 e σ H h => ?_
        ·unfold ZQ.s3 at h;refine .tR 1 V H fun b35 σ H => (.iV V (.nila H fun H => (.then ?_)));refine .wh h V ?_ ?_ <;> intro h
         ·refine .skip (.then ?_);refine .jn h .normal (fun y17 => [(0,(.ptr (b8 + 0) 2 0)),(6,(.buf (b33 + 6) 1 1)),(7,(vi s4.1)),(8,(vi s4.2.1))]) (fun y17 => (.sl (.buf (b33 + 6) 1 1) 3 1 (s4.2.2.1.map (cI .i64)) true :: .blk (b25 + 2) 50 [(vi x5.Index),(vl Span.cs x5.Ticks)] :: .blk (b8 + 0) 91 [(vi y17.1),(vb y17.2)] :: .blk (b4 + 2) 65 (vG x1) :: T2)) (fun y17 h => ?_) fun y17 e σ H h => ?_
          ·refine .inBlock ?_;refine .jn h .normal (fun y18 => [(0,(.ptr (b8 + 0) 2 0)),(6,(.buf (b33 + 6) 1 1)),(7,(vi s4.1)),(8,(vi s4.2.1))]) (fun y18 => (.sl (.buf (b33 + 6) 1 1) 3 1 (s4.2.2.1.map (cI .i64)) true :: .blk (b25 + 2) 50 [(vi x5.Index),(vl Span.cs x5.Ticks)] :: .blk (b8 + 0) 91 [(vi y18.1),(vb y18.2)] :: .blk (b4 + 2) 65 (vG x1) :: T2)) (fun y18 h => ?_) fun y18 e σ H h => ?_
           ·refine .tR 3 V H fun b36 σ H => ?_;obtain ⟨x8,q8,h⟩:=bs h;refine .Z3h H 0 V V V (at?_map q8) V V nofun V ?_;intro id2 hv2;refine .Z6j (id:=id2) (j:=0) (w:=(.int .i64 x8)) H 0 V hv2 (by simp) (at?_map q8) V (by simp) V V V nofun V ?_;refine .aV V (.nila H fun H => (.tR 13 V H fun b37 σ H => (.mP V (.Zh H 2 V V V nofun V (.fV H 2 V (.lV H 2 V (.tV V (.mV V ?_))))))));refine .md H 7 [(24,(vb ((!s4.2.2.2.2) || (decide (x8 > s4.2.2.2.1))))),(0,(.ptr (b8 + 0) 2 0)),(5,(vi x8)),(6,(.buf (b33 + 6) 1 1)),(7,(vi s4.1)),(8,(vi s4.2.1))] (.sl (.buf (b33 + 6) 1 1) 3 1 (s4.2.2.1.map (cI .i64)) true :: .blk (b25 + 2) 50 [(vi x5.Index),(vl Span.cs x5.Ticks)] :: .blk (b8 + 0) 91 [(vi s4.2.2.2.1),(vb s4.2.2.2.2)] :: .blk (b4 + 2) 65 (vG x1) :: T2) rfl ?_ fun e σ H => ?_
            ·refine .split V V ?_ ?_ <;> intro hc13
             ·refine .ps 6 V (.kT V (.nil ?_));exact ⟨⟨or_T hc13,V,V,V,V,V,U⟩,H.wk (by omega)⟩
             ·refine .mV V (.mP V (.wt V V (.Zh H 2 V V V nofun V (.fV H 2 V (.lV H 2 V (.iV V (.kF V (.nil ?_))))))));exact ⟨⟨or_F hc13,V,V,V,V,V,U⟩,H.wk (by omega)⟩
            refine .nila H fun H => ?_;refine .wh h V ?_ ?_ <;> intro h
            ·refine .Z4 9 V H fun b38 σ H => (.mP V (.mP V (.mV V (.Zh H 2 V V V nofun V (.fV H 2 V (.sV [(vi x8),(vb s4.2.2.2.2)] H 2 V fun σ H => (.Zh H 2 V V V nofun V (.fV H 2 V ?_))))))));refine .sV [(vi x8),(vb true)] H 2 V fun σ H => (.nila H fun H => ?_);obtain rfl:=sj h;exact ⟨V,EI V,H⟩
            refine .skip ?_;obtain rfl:=sj h;exact ⟨V,EI V,H⟩
           obtain rfl:=sj h;exact ⟨V,EI V,H⟩
          refine .Z4 2 V H fun b39 σ H => (.iV V (.mV V (.nila H fun H => ?_)));obtain rfl:=sj h;exact ⟨V,EI V,H⟩
         refine .exit ?_;obtain rfl:=sj h;exact ⟨nofun,⟨V,U,H⟩⟩
        obtain rfl:=sj h;exact ⟨.inl V,_,Z0Y H .nil,_,⟨V,V⟩,H⟩
       ·rintro _ _ σ ⟨rfl,rfl⟩ H;refine .nila H fun H => ?_;obtain rfl:=sj h;exact ⟨V,EI V,(H.erase 0)⟩
      refine .skip ?_;obtain rfl:=sj h;exact ⟨V,EI V,H⟩
     refine .tR 12 V H fun b40 σ H => (.LV (vG x1) H 2 V (.mV V (.mV V (.iV V (.mV V (.tV V ?_))))));obtain ⟨x9,q9,h⟩:=bs h;refine .cV (Z5K q9) V (.m1 (.tup [(vi x9.1),(vb x9.2)]) V V (.xV V (.xV V (.aV V (.aV V (.nila H fun H => (.tR 1 V H fun b41 σ H => (.mV V ?_))))))));refine .nila H fun H => ?_;refine .wh h V ?_ ?_ <;> intro h
     ·refine .Z4 8 V H fun b42 σ H => (.mV V (.fV H 0 V (.lV H 0 V (.mV V (.iV V (.iV V (.Z0p (sz:=1) ([(w64 (y1 * (w64 (x5.Index - x9.1))))].map (cI .i64)) H (by omega) (by omega) V V V V V V V V V fun σ H => ?_)))))));obtain ⟨y19,hj19,h⟩:=bs h;refine .Z6N (PostA:=fun r A => r = (.tup [])∧A = [.sl (.buf (b42 + 6) 1 1) 3 1 (y19.1.map (cI .i64)) true,.blk (b25 + 2) 50 [(vi x5.Index),(vl Span.cs x5.Ticks)],.blk (b8 + 0) 91 [(vi y19.2.1),(vb y19.2.2)],.blk (b4 + 2) 65 (vG x1)]) (cv:=(.v (.fn 48))) (ys:=[(.ptr (b8 + 0) 2 0),(.buf (b42 + 6) 1 1)]) (L:=[]) [.sl (.buf (b42 + 6) 1 1) 3 1 ([(w64 (y1 * (w64 (x5.Index - x9.1))))].map (cI .i64)) true,.blk (b25 + 2) 50 [(vi x5.Index),(vl Span.cs x5.Ticks)],.blk (b8 + 0) 91 [(vi y14.1),(vb y14.2)],.blk (b4 + 2) 65 (vG x1)] H V V (fun T3 hT H => Z2e Tryz.func48 V (fun _ => V) V V V V ?_) nofun V ?_
      ·replace h:=hj19;refine .tR 3 V H fun b43 σ H => (.mB V (.Z48 (c:=(cI .i64)) (xs:=[(w64 (y1 * (w64 (x5.Index - x9.1))))]) H 0 V V V nofun V (.mV V (.nila H fun H => (.inBlock ?_)))));refine .lp h (fun s5 => [(0,(.ptr (b8 + 0) 2 0)),(6,(.buf (b42 + 6) 1 1)),(7,(vi s5.1)),(8,(vi s5.2.1))]) (fun s5 => (.sl (.buf (b42 + 6) 1 1) 3 1 (s5.2.2.1.map (cI .i64)) true :: .blk (b25 + 2) 50 [(vi x5.Index),(vl Span.cs x5.Ticks)] :: .blk (b8 + 0) 91 [(vi s5.2.2.2.1),(vb s5.2.2.2.2)] :: .blk (b4 + 2) 65 (vG x1) :: T3)) (.exit 0) (fun y20 => []) (fun y20 => (.sl (.buf (b42 + 6) 1 1) 3 1 (y20.1.map (cI .i64)) true :: .blk (b25 + 2) 50 [(vi x5.Index),(vl Span.cs x5.Ticks)] :: .blk (b8 + 0) 91 [(vi y20.2.1),(vb y20.2.2)] :: .blk (b4 + 2) 65 (vG x1) :: T3)) (EI V) H (fun s5 e σ H z h => ?_) fun y20 e σ H h => ?_
       ·unfold ZQ.s4 at h;refine .tR 1 V H fun b44 σ H => (.iV V (.nila H fun H => (.then ?_)));refine .wh h V ?_ ?_ <;> intro h
        ·refine .skip (.then ?_);refine .jn h .normal (fun y21 => [(0,(.ptr (b8 + 0) 2 0)),(6,(.buf (b42 + 6) 1 1)),(7,(vi s5.1)),(8,(vi s5.2.1))]) (fun y21 => (.sl (.buf (b42 + 6) 1 1) 3 1 (s5.2.2.1.map (cI .i64)) true :: .blk (b25 + 2) 50 [(vi x5.Index),(vl Span.cs x5.Ticks)] :: .blk (b8 + 0) 91 [(vi y21.1),(vb y21.2)] :: .blk (b4 + 2) 65 (vG x1) :: T3)) (fun y21 h => ?_) fun y21 e σ H h => ?_
         ·refine .inBlock ?_;refine .jn h .normal (fun y22 => [(0,(.ptr (b8 + 0) 2 0)),(6,(.buf (b42 + 6) 1 1)),(7,(vi s5.1)),(8,(vi s5.2.1))]) (fun y22 => (.sl (.buf (b42 + 6) 1 1) 3 1 (s5.2.2.1.map (cI .i64)) true :: .blk (b25 + 2) 50 [(vi x5.Index),(vl Span.cs x5.Ticks)] :: .blk (b8 + 0) 91 [(vi y22.1),(vb y22.2)] :: .blk (b4 + 2) 65 (vG x1) :: T3)) (fun y22 h => ?_) fun y22 e σ H h => ?_
          ·refine .tR 3 V H fun b45 σ H => ?_;obtain ⟨x10,q10,h⟩:=bs h;refine .Z3h H 0 V V V (at?_map q10) V V nofun V ?_;intro id3 hv3;refine .Z6j (id:=id3) (j:=0) (w:=(.int .i64 x10)) H 0 V hv3 (by simp) (at?_map q10) V (by simp) V V V nofun V ?_;refine .aV V (.nila H fun H => (.tR 13 V H fun b46 σ H => (.mP V (.Zh H 2 V V V nofun V (.fV H 2 V (.lV H 2 V (.tV V (.mV V ?_))))))));refine .md H 7 [(24,(vb ((!s5.2.2.2.2) || (decide (x10 > s5.2.2.2.1))))),(0,(.ptr (b8 + 0) 2 0)),(5,(vi x10)),(6,(.buf (b42 + 6) 1 1)),(7,(vi s5.1)),(8,(vi s5.2.1))] (.sl (.buf (b42 + 6) 1 1) 3 1 (s5.2.2.1.map (cI .i64)) true :: .blk (b25 + 2) 50 [(vi x5.Index),(vl Span.cs x5.Ticks)] :: .blk (b8 + 0) 91 [(vi s5.2.2.2.1),(vb s5.2.2.2.2)] :: .blk (b4 + 2) 65 (vG x1) :: T3) rfl ?_ fun e σ H => ?_
           ·refine .split V V ?_ ?_ <;> intro hc17
            ·refine .ps 6 V (.kT V (.nil ?_));exact ⟨⟨or_T hc17,V,V,V,V,V,U⟩,H.wk (by omega)⟩
            ·refine .mV V (.mP V (.wt V V (.Zh H 2 V V V nofun V (.fV H 2 V (.lV H 2 V (.iV V (.kF V (.nil ?_))))))));exact ⟨⟨or_F hc17,V,V,V,V,V,U⟩,H.wk (by omega)⟩
           refine .nila H fun H => ?_;refine .wh h V ?_ ?_ <;> intro h
           ·refine .Z4 9 V H fun b47 σ H => (.mP V (.mP V (.mV V (.Zh H 2 V V V nofun V (.fV H 2 V (.sV [(vi x10),(vb s5.2.2.2.2)] H 2 V fun σ H => (.Zh H 2 V V V nofun V (.fV H 2 V ?_))))))));refine .sV [(vi x10),(vb true)] H 2 V fun σ H => (.nila H fun H => ?_);obtain rfl:=sj h;exact ⟨V,EI V,H⟩
           refine .skip ?_;obtain rfl:=sj h;exact ⟨V,EI V,H⟩
          obtain rfl:=sj h;exact ⟨V,EI V,H⟩
         refine .Z4 2 V H fun b48 σ H => (.iV V (.mV V (.nila H fun H => ?_)));obtain rfl:=sj h;exact ⟨V,EI V,H⟩
        refine .exit ?_;obtain rfl:=sj h;exact ⟨nofun,⟨V,U,H⟩⟩
       obtain rfl:=sj h;exact ⟨.inl V,_,Z0Y H .nil,_,⟨V,V⟩,H⟩
      ·rintro _ _ σ ⟨rfl,rfl⟩ H;refine .nila H fun H => ?_;obtain rfl:=sj h;exact (.inl ⟨_,V,V,EI V,((H.erase 1).erase 0)⟩)
     refine .skip ?_;obtain rfl:=sj h;exact (.inl ⟨_,V,V,EI V,(H.erase 0)⟩)
    ·rintro x e σ (⟨a3,rfl,rfl,he,H⟩ | ⟨a4,rfl,rfl,he,H⟩)
     ·replace h:=jgo h;obtain ⟨e,rfl⟩:=he.ex;obtain rfl:=sj h;exact ⟨V,EI V,H⟩
     ·replace h:=jret h;obtain ⟨e,rfl⟩:=he.ex;obtain rfl:=sj h;exact ⟨V,EI V,H⟩
   refine .Z4 2 V H fun b49 σ H => (.iV V (.mV V (.nila H fun H => ?_)));obtain rfl:=sj h;exact ⟨V,EI V,H⟩
  refine .exit ?_;obtain rfl:=sj h;exact ⟨nofun,⟨V,EI V,(H.erase 1)⟩⟩
 refine .then (.Zr 9 V (by kernel_rfl) H fun b50 σ H B50 => (.mV V (.ZA H 0 V V V V V (fun _ => .inl ⟨B50 0 _ V _ V,nofun,(fun _ => by kernel_rfl)⟩) V (.ld (vi y10.1) H 0 V V V V V (fun _ => .inl ⟨B50 0 _ V _ V,nofun,(fun _ => by kernel_rfl)⟩) V (.iV V (.ZA H 0 V V V V V (fun _ => .inl ⟨B50 0 _ V _ V,nofun,(fun _ => by kernel_rfl)⟩) V (.ld (vb y10.2) H 0 V V V V V (fun _ => .inl ⟨B50 0 _ V _ V,nofun,(fun _ => by kernel_rfl)⟩) V (.aV V ?_))))))));refine .aV V (.aV V (.nila H fun H => (.ret ?_)));obtain rfl:=sj h;exact Ends.eR V
end Go.Dn

namespace Go.Dn
open Go Go.Proofs
set_option maxRecDepth 100000
set_option maxHeartbeats 4000000
theorem Z53 {f:Form} {d:Int} {r:Int × Bool × Int} (h:Z18 f d = some r):Fn CX 13 [(.agg (vs (Form.cs f))),(vi d)] (.tup [(vi r.1),(vb r.2.1),(vi r.2.2)]):=by
 refine Fn.go Tryz.func13 V fun σ H => ?_;unfold Z18 at h;refine .tR 4 V H fun b1 σ H => (.boxH (cs:=(vF f)) H (by omega) (by omega) V V V fun σ H => (.aV V (.aV V (.aV V (.nila H fun H => (.tR 9 V H fun b2 σ H => (.LV (vF f) H 0 V (.mV V ?_))))))));obtain ⟨x1,q1,h⟩:=bs h;refine .cV (ZBQ q1) V (.xV V (.xV V (.xV V (.aV V (.aV V (.aV V (.nila H fun H => (.ret ?_))))))));obtain rfl:=sj h;exact Ends.eR V
theorem Z9F {f:Form} {d:Int} {r:Int × Bool × Int} (h:Z2n f d = some r):Fn CX 15 [(.agg (vs (Form.cs f))),(vi d)] (.tup [(vi r.1),(vb r.2.1),(vi r.2.2)]):=by
 refine Fn.go Tryz.func15 V fun σ H => ?_;unfold Z2n at h;refine .tR 4 V H fun b1 σ H => (.boxH (cs:=(vF f)) H (by omega) (by omega) V V V fun σ H => (.aV V (.aV V (.aV V (.nila H fun H => (.tR 9 V H fun b2 σ H => (.LV (vF f) H 0 V (.mV V ?_))))))));obtain ⟨x1,q1,h⟩:=bs h;refine .cV (ZBQ q1) V (.xV V (.xV V (.xV V (.aV V (.aV V (.aV V (.nila H fun H => (.ret ?_))))))));obtain rfl:=sj h;exact Ends.eR V
theorem Z7x {r:Bool} (h:Z26 = some r):Fn CX 5 [] (vb r):=by
 refine Fn.go Tryz.func5 V fun σ H => ?_;unfold Z26 at h;refine .tR 1 V H fun b1 σ H => (.aV V (.nila H fun H => (.tR 8 V H fun b2 σ H => (.cV (Z9L V) V ?_))));obtain ⟨x1,q1,h⟩:=bs h;refine .cV (ZBb q1) V (.m1 (.tup [(.agg (vF x1.1)),(vi x1.2)]) V V (.xV V (.xV V (.Za (cs:=[(vi 0),(vi 0),.nils,.nils]) H (by omega) (by omega) V V fun σ H => (.sV (vF x1.1) H 0 V fun σ H => (.aV V (.nila H fun H => (.tR 7 V H fun b3 σ H => ?_))))))));refine .bV [(vi 5),(vi 9)] V (.Z0p (sz:=2) ([(Span.mk 5 9)].map Span.cs) H (by omega) (by omega) V V V V V V V V V fun σ H => (.bV [(vi 3),(.buf (b3 + 1) 1 2)] V (.buildSF (sz:=2) ([(Granule.mk 3 [(Span.mk 5 9)])].map Granule.cs) H (by omega) (by omega) V V (.exp (.a (.cons (.v _) (.cons (.s 0 V) .nil))) .nil) V V V V V V V nofun fun σ H => (.bV [(vi 0),(vi 0),.nils,(.buf (b3 + 3) 1 2)] V (.Za (cs:=[(vi 0),(vi 0),.nils,.nils]) H (by omega) (by omega) V V fun σ H => (.sV [(vi 0),(vi 0),.nils,(.buf (b3 + 3) 1 2)] H 0 V fun σ H => (.nila H fun H => (.tR 6 V H fun b4 σ H => ?_))))))));refine .bV [(vi 0),(vi 0)] V (.Z0p (sz:=2) ([(Span.mk 0 0)].map Span.cs) H (by omega) (by omega) V V V V V V V V V fun σ H => (.buildSF (sz:=1) ([[(Span.mk 0 0)]].map (cL Span.cs)) H (by omega) (by omega) V V (.exp (.c (.s 0 V)) .nil) V V V V V V V nofun fun σ H => (.bV [(vi 1099511627776),(vi 1),(.buf (b4 + 2) 1 1),.nils] V (.Za (cs:=[(vi 0),(vi 0),.nils,.nils]) H (by omega) (by omega) V V fun σ H => (.sV [(vi 1099511627776),(vi 1),(.buf (b4 + 2) 1 1),.nils] H 0 V fun σ H => (.nila H fun H => (.tR 9 V H fun b5 σ H => (.LV [(vi 1099511627776),(vi 1),(.buf (b4 + 2) 1 1),.nils] H 0 V ?_))))))))
 obtain ⟨x2,q2,h⟩:=bs h;refine .Z50 (xs:=[(.agg [(vi 1099511627776),(vi 1),(.buf (b4 + 2) 1 1),.nils]),(vi 1099511627776)]) (ys:=[(.agg (vs (Form.cs (Form.mk 1099511627776 1 [[(Span.mk 0 0)]] [])))),(vi 1099511627776)]) H V (.cons (.a (.cons (.v _) (.cons (.v _) (.cons (.s 1 V) (.cons (.n) .nil))))) (.cons (.c (.v _)) .nil)) (Z3P q2) V V nofun V fun σ H => (.m1 (.tup [(vi x2.1),(vb x2.2.1),(vi x2.2.2)]) V V (.xV V (.xV V (.xV V (.aV V (.aV V (.aV V (.nila H fun H => ?_))))))));refine .then (.tR 13 V H fun b6 σ H => (.mV V (.iV V (.mV V ?_))));refine .md H 3 [(33,(vb ((x1.2 != 0) || (x2.1 != 0)))),(1,(.ptr (b2 + 5) 4 0)),(3,(.ptr (b3 + 5) 4 0)),(6,(vb x2.2.1)),(7,(vi x2.2.2))] [.blk (b3 + 5) 25 [(vi 0),(vi 0),.nils,(.buf (b3 + 3) 1 2)],.sl (.buf (b3 + 3) 1 2) 50 2 ([(Granule.mk 3 [(Span.mk 5 9)])].map Granule.cs) true,.blk (b2 + 5) 25 (vF x1.1)] rfl ?_ fun e σ H => ?_
 ·refine .split V V ?_ ?_ <;> intro hc1
  ·refine .ps 2 V (.kT V (.nil ?_));exact ⟨⟨or_T hc1,V,V,V,V,U⟩,((((H.erase 5).erase 2).erase 1).erase 0).wk (by omega)⟩
  ·refine .mV V (.iV V (.kF V (.nil ?_)));exact ⟨⟨or_F hc1,V,V,V,V,U⟩,((((H.erase 5).erase 2).erase 1).erase 0).wk (by omega)⟩
 refine .mV V ?_;refine .md H 2 [(36,(vb (((x1.2 != 0) || (x2.1 != 0)) || x2.2.1))),(1,(.ptr (b2 + 5) 4 0)),(3,(.ptr (b3 + 5) 4 0)),(7,(vi x2.2.2))] [.blk (b3 + 5) 25 [(vi 0),(vi 0),.nils,(.buf (b3 + 3) 1 2)],.sl (.buf (b3 + 3) 1 2) 50 2 ([(Granule.mk 3 [(Span.mk 5 9)])].map Granule.cs) true,.blk (b2 + 5) 25 (vF x1.1)] rfl ?_ fun e σ H => ?_
 ·refine .split V V ?_ ?_ <;> intro hc2
  ·refine .ps 1 V (.kT V (.nil ?_));exact ⟨⟨or_T hc2,V,V,V,U⟩,H.wk (by omega)⟩
  ·refine .mV V (.kF V (.nil ?_));exact ⟨⟨or_F hc2,V,V,V,U⟩,H.wk (by omega)⟩
 refine .mV V ?_;refine .md H 3 [(40,(vb ((((x1.2 != 0) || (x2.1 != 0)) || x2.2.1) || (x2.2.2 != 10)))),(1,(.ptr (b2 + 5) 4 0)),(3,(.ptr (b3 + 5) 4 0))] [.blk (b3 + 5) 25 [(vi 0),(vi 0),.nils,(.buf (b3 + 3) 1 2)],.sl (.buf (b3 + 3) 1 2) 50 2 ([(Granule.mk 3 [(Span.mk 5 9)])].map Granule.cs) true,.blk (b2 + 5) 25 (vF x1.1)] rfl ?_ fun e σ H => ?_
 ·refine .split V V ?_ ?_ <;> intro hc3
  ·refine .ps 2 V (.kT V (.nil ?_));exact ⟨⟨or_T hc3,V,V,U⟩,H.wk (by omega)⟩
  ·refine .mV V (.iV V (.kF V (.nil ?_)));exact ⟨⟨or_F hc3,V,V,U⟩,H.wk (by omega)⟩
 refine .nila H fun H => ?_;refine .wh h V ?_ ?_ <;> intro h
 ·refine .tR 1 V H fun b7 σ H => (.aV V (.nila H fun H => (.ret ?_)));obtain rfl:=sj h;exact Ends.eR V
 refine .skip (.then (.Zr 89 V (drawOK_q (by kernel_rfl)) H fun b8 σ H B8 => ?_));refine .Z40 (ys:=[(vi 1),(vb true)]) (PostA:=fun r A => ∃ id1 id2:Nat,r = (.clo 25 [] [(.ptr id2 1 0),(.ptr id1 1 0)])∧A = [.blk id1 4 [(vb true)],.blk id2 3 [(vi 1)]]) H rfl (fun hT => by obtain ⟨r,s,q,id1,id2,hr,hH⟩:=Ze hT;exact ⟨r,s,q,_,⟨id1,id2,hr,rfl⟩,hH⟩) rfl (fun _ => by kernel_rfl) rfl ?_;rintro _ _ σ ⟨id1,id2,rfl,rfl⟩ H;refine .Z1f (cs:=(vF x1.1)) H 4 V V V V V V V (fun _ => .inl ⟨B8 2 _ V _ V,nofun,(fun _ => by kernel_rfl)⟩) V ?_;obtain ⟨x3,q3,h⟩:=bs h;refine .cV (Z3P q3) V (.xV V (.xV V (.xV V (.callV (cv:=(.clo 25 [] [(.ptr id2 1 0),(.ptr id1 1 0)])) (ys:=[(vi x3.1),(vb x3.2.1),(vi x3.2.2)]) (r:=(vb (Z3 x3.1 x3.2.1 x3.2.2 1 true))) H V V (CloH.clo (ZW V)) (.cons 1 V (.cons 0 V .nil)) (fun _ => by kernel_rfl) V fun σ H => (.mV V ?_)))));obtain ⟨y1,hj1,h⟩:=bs h;refine .md H 8 [(56,(vb y1)),(1,(.ptr (b2 + 5) 4 0)),(3,(.ptr (b3 + 5) 4 0))] [.blk (b3 + 5) 25 [(vi 0),(vi 0),.nils,(.buf (b3 + 3) 1 2)],.sl (.buf (b3 + 3) 1 2) 50 2 ([(Granule.mk 3 [(Span.mk 5 9)])].map Granule.cs) true,.blk (b2 + 5) 25 (vF x1.1)] V ?_ fun e σ H => ?_
 ·refine .sp hj1 V ?_ ?_ <;> intro h
  ·refine .wt V V ?_;refine .Z40 (ys:=[(vi 13),(vb true)]) (PostA:=fun r A => ∃ id3 id4:Nat,r = (.clo 25 [] [(.ptr id4 1 0),(.ptr id3 1 0)])∧A = [.blk id3 4 [(vb true)],.blk id4 3 [(vi 13)]]) H rfl (fun hT => by obtain ⟨r,s,q,id3,id4,hr,hH⟩:=Ze hT;exact ⟨r,s,q,_,⟨id3,id4,hr,rfl⟩,hH⟩) rfl (fun _ => by kernel_rfl) rfl ?_;rintro _ _ σ ⟨id3,id4,rfl,rfl⟩ H;refine .wt V V (.Z1f (cs:=(vF x1.1)) H 6 V V V V V V V (fun _ => .inl ⟨B8 2 _ V _ V,nofun,(fun _ => by kernel_rfl)⟩) V (.wt V V ?_));obtain ⟨x4,q4,h⟩:=bs h;refine .cV (Z78 q4) V (.xV V (.xV V (.xV V (.wt V V (.callV (cv:=(.clo 25 [] [(.ptr id4 1 0),(.ptr id3 1 0)])) (ys:=[(vi x4.1),(vb x4.2.1),(vi x4.2.2)]) (r:=(vb (Z3 x4.1 x4.2.1 x4.2.2 13 true))) H V V (CloH.clo (ZW V)) (.cons 1 V (.cons 0 V .nil)) (fun _ => by kernel_rfl) V fun σ H => (.kT V (.nil ?_)))))));obtain rfl:=sj h;exact ⟨EI V,((((H.erase 3).erase 2).erase 1).erase 0).wk (by omega)⟩
  refine .ps 7 V (.kF V (.nil ?_));obtain rfl:=sj h;exact ⟨EI V,((H.erase 1).erase 0).wk (by omega)⟩
 refine .mV V ?_;obtain ⟨y2,hj2,h⟩:=bs h;refine .md H 8 [(65,(vb y2)),(1,(.ptr (b2 + 5) 4 0)),(3,(.ptr (b3 + 5) 4 0))] [.blk (b3 + 5) 25 [(vi 0),(vi 0),.nils,(.buf (b3 + 3) 1 2)],.sl (.buf (b3 + 3) 1 2) 50 2 ([(Granule.mk 3 [(Span.mk 5 9)])].map Granule.cs) true,.blk (b2 + 5) 25 (vF x1.1)] V ?_ fun e σ H => ?_
 ·refine .sp hj2 V ?_ ?_ <;> intro h
  ·refine .wt V V ?_;refine .Z40 (ys:=[(vi (-6)),(vb true)]) (PostA:=fun r A => ∃ id5 id6:Nat,r = (.clo 25 [] [(.ptr id6 1 0),(.ptr id5 1 0)])∧A = [.blk id5 4 [(vb true)],.blk id6 3 [(vi (-6))]]) H rfl (fun hT => by obtain ⟨r,s,q,id5,id6,hr,hH⟩:=Ze hT;exact ⟨r,s,q,_,⟨id5,id6,hr,rfl⟩,hH⟩) rfl (fun _ => by kernel_rfl) rfl ?_;rintro _ _ σ ⟨id5,id6,rfl,rfl⟩ H;refine .wt V V (.Z1f (cs:=(vF x1.1)) H 4 V V V V V V V (fun _ => .inl ⟨B8 2 _ V _ V,nofun,(fun _ => by kernel_rfl)⟩) V (.wt V V ?_));obtain ⟨x5,q5,h⟩:=bs h;refine .cV (Z3P q5) V (.xV V (.xV V (.xV V (.wt V V (.callV (cv:=(.clo 25 [] [(.ptr id6 1 0),(.ptr id5 1 0)])) (ys:=[(vi x5.1),(vb x5.2.1),(vi x5.2.2)]) (r:=(vb (Z3 x5.1 x5.2.1 x5.2.2 (-6) true))) H V V (CloH.clo (ZW V)) (.cons 1 V (.cons 0 V .nil)) (fun _ => by kernel_rfl) V fun σ H => (.kT V (.nil ?_)))))));obtain rfl:=sj h;exact ⟨EI V,((H.erase 1).erase 0).wk (by omega)⟩
  refine .ps 7 V (.kF V (.nil ?_));obtain rfl:=sj h;exact ⟨EI V,H.wk (by omega)⟩
 refine .mV V ?_;obtain ⟨y3,hj3,h⟩:=bs h;refine .md H 8 [(74,(vb y3)),(1,(.ptr (b2 + 5) 4 0)),(3,(.ptr (b3 + 5) 4 0))] [.blk (b3 + 5) 25 [(vi 0),(vi 0),.nils,(.buf (b3 + 3) 1 2)],.sl (.buf (b3 + 3) 1 2) 50 2 ([(Granule.mk 3 [(Span.mk 5 9)])].map Granule.cs) true,.blk (b2 + 5) 25 (vF x1.1)] V ?_ fun e σ H => ?_
 ·refine .sp hj3 V ?_ ?_ <;> intro h
  ·refine .wt V V ?_;refine .Z40 (ys:=[(vi 6),(vb true)]) (PostA:=fun r A => ∃ id7 id8:Nat,r = (.clo 25 [] [(.ptr id8 1 0),(.ptr id7 1 0)])∧A = [.blk id7 4 [(vb true)],.blk id8 3 [(vi 6)]]) H rfl (fun hT => by obtain ⟨r,s,q,id7,id8,hr,hH⟩:=Ze hT;exact ⟨r,s,q,_,⟨id7,id8,hr,rfl⟩,hH⟩) rfl (fun _ => by kernel_rfl) rfl ?_;rintro _ _ σ ⟨id7,id8,rfl,rfl⟩ H;refine .wt V V (.Z1f (cs:=(vF x1.1)) H 4 V V V V V V V (fun _ => .inl ⟨B8 2 _ V _ V,nofun,(fun _ => by kernel_rfl)⟩) V (.wt V V ?_));obtain ⟨x6,q6,h⟩:=bs h;refine .cV (Z78 q6) V (.xV V (.xV V (.xV V (.wt V V (.callV (cv:=(.clo 25 [] [(.ptr id8 1 0),(.ptr id7 1 0)])) (ys:=[(vi x6.1),(vb x6.2.1),(vi x6.2.2)]) (r:=(vb (Z3 x6.1 x6.2.1 x6.2.2 6 true))) H V V (CloH.clo (ZW V)) (.cons 1 V (.cons 0 V .nil)) (fun _ => by kernel_rfl) V fun σ H => (.kT V (.nil ?_)))))));obtain rfl:=sj h;exact ⟨EI V,((H.erase 1).erase 0).wk (by omega)⟩
  refine .ps 7 V (.kF V (.nil ?_));obtain rfl:=sj h;exact ⟨EI V,H.wk (by omega)⟩
 refine .mV V ?_;obtain ⟨y4,hj4,h⟩:=bs h;refine .md H 8 [(83,(vb y4)),(1,(.ptr (b2 + 5) 4 0)),(3,(.ptr (b3 + 5) 4 0))] [.blk (b3 + 5) 25 [(vi 0),(vi 0),.nils,(.buf (b3 + 3) 1 2)],.sl (.buf (b3 + 3) 1 2) 50 2 ([(Granule.mk 3 [(Span.mk 5 9)])].map Granule.cs) true,.blk (b2 + 5) 25 (vF x1.1)] V ?_ fun e σ H => ?_
 ·refine .sp hj4 V ?_ ?_ <;> intro h
  ·refine .wt V V ?_;refine .Z40 (ys:=[(vi 1),(vb true)]) (PostA:=fun r A => ∃ id9 id10:Nat,r = (.clo 25 [] [(.ptr id10 1 0),(.ptr id9 1 0)])∧A = [.blk id9 4 [(vb true)],.blk id10 3 [(vi 1)]]) H rfl (fun hT => by obtain ⟨r,s,q,id9,id10,hr,hH⟩:=Ze hT;exact ⟨r,s,q,_,⟨id9,id10,hr,rfl⟩,hH⟩) rfl (fun _ => by kernel_rfl) rfl ?_;rintro _ _ σ ⟨id9,id10,rfl,rfl⟩ H;refine .wt V V (.Z1f (cs:=(vF x1.1)) H 4 V V V V V V V (fun _ => .inl ⟨B8 2 _ V _ V,nofun,(fun _ => by kernel_rfl)⟩) V (.wt V V ?_));obtain ⟨x7,q7,h⟩:=bs h;refine .cV (Z53 q7) V (.xV V (.xV V (.xV V (.wt V V (.callV (cv:=(.clo 25 [] [(.ptr id10 1 0),(.ptr id9 1 0)])) (ys:=[(vi x7.1),(vb x7.2.1),(vi x7.2.2)]) (r:=(vb (Z3 x7.1 x7.2.1 x7.2.2 1 true))) H V V (CloH.clo (ZW V)) (.cons 1 V (.cons 0 V .nil)) (fun _ => by kernel_rfl) V fun σ H => (.kT V (.nil ?_)))))));obtain rfl:=sj h;exact ⟨EI V,((H.erase 1).erase 0).wk (by omega)⟩
  refine .ps 7 V (.kF V (.nil ?_));obtain rfl:=sj h;exact ⟨EI V,H.wk (by omega)⟩
 refine .mV V ?_;obtain ⟨y5,hj5,h⟩:=bs h;refine .md H 8 [(92,(vb y5)),(1,(.ptr (b2 + 5) 4 0)),(3,(.ptr (b3 + 5) 4 0))] [.blk (b3 + 5) 25 [(vi 0),(vi 0),.nils,(.buf (b3 + 3) 1 2)],.sl (.buf (b3 + 3) 1 2) 50 2 ([(Granule.mk 3 [(Span.mk 5 9)])].map Granule.cs) true,.blk (b2 + 5) 25 (vF x1.1)] V ?_ fun e σ H => ?_
 ·refine .sp hj5 V ?_ ?_ <;> intro h
  ·refine .wt V V ?_;refine .Z40 (ys:=[(vi 0),(vb true)]) (PostA:=fun r A => ∃ id11 id12:Nat,r = (.clo 25 [] [(.ptr id12 1 0),(.ptr id11 1 0)])∧A = [.blk id11 4 [(vb true)],.blk id12 3 [(vi 0)]]) H rfl (fun hT => by obtain ⟨r,s,q,id11,id12,hr,hH⟩:=Ze hT;exact ⟨r,s,q,_,⟨id11,id12,hr,rfl⟩,hH⟩) rfl (fun _ => by kernel_rfl) rfl ?_;rintro _ _ σ ⟨id11,id12,rfl,rfl⟩ H;refine .wt V V (.Z1f (cs:=(vF x1.1)) H 4 V V V V V V V (fun _ => .inl ⟨B8 2 _ V _ V,nofun,(fun _ => by kernel_rfl)⟩) V (.wt V V ?_));obtain ⟨x8,q8,h⟩:=bs h;refine .cV (Z9F q8) V (.xV V (.xV V (.xV V (.wt V V (.callV (cv:=(.clo 25 [] [(.ptr id12 1 0),(.ptr id11 1 0)])) (ys:=[(vi x8.1),(vb x8.2.1),(vi x8.2.2)]) (r:=(vb (Z3 x8.1 x8.2.1 x8.2.2 0 true))) H V V (CloH.clo (ZW V)) (.cons 1 V (.cons 0 V .nil)) (fun _ => by kernel_rfl) V fun σ H => (.kT V (.nil ?_)))))));obtain rfl:=sj h;exact ⟨EI V,((H.erase 1).erase 0).wk (by omega)⟩
  refine .ps 7 V (.kF V (.nil ?_));obtain rfl:=sj h;exact ⟨EI V,H.wk (by omega)⟩
 refine .mV V ?_;obtain ⟨y6,hj6,h⟩:=bs h;refine .md H 8 [(101,(vb y6)),(3,(.ptr (b3 + 5) 4 0))] [.blk (b3 + 5) 25 [(vi 0),(vi 0),.nils,(.buf (b3 + 3) 1 2)],.sl (.buf (b3 + 3) 1 2) 50 2 ([(Granule.mk 3 [(Span.mk 5 9)])].map Granule.cs) true] V ?_ fun e σ H => ?_
 ·refine .sp hj6 V ?_ ?_ <;> intro h
  ·refine .wt V V ?_;refine .Z40 (ys:=[(vi 1),(vb true)]) (PostA:=fun r A => ∃ id13 id14:Nat,r = (.clo 25 [] [(.ptr id14 1 0),(.ptr id13 1 0)])∧A = [.blk id13 4 [(vb true)],.blk id14 3 [(vi 1)]]) H rfl (fun hT => by obtain ⟨r,s,q,id13,id14,hr,hH⟩:=Ze hT;exact ⟨r,s,q,_,⟨id13,id14,hr,rfl⟩,hH⟩) rfl (fun _ => by kernel_rfl) rfl ?_;rintro _ _ σ ⟨id13,id14,rfl,rfl⟩ H;refine .wt V V (.Z1f (cs:=(vF x1.1)) H 4 V V V V V V V (fun _ => .inl ⟨B8 2 _ V _ V,nofun,(fun _ => by kernel_rfl)⟩) V (.wt V V ?_));obtain ⟨x9,q9,h⟩:=bs h;refine .cV (Z9F q9) V (.xV V (.xV V (.xV V (.wt V V (.callV (cv:=(.clo 25 [] [(.ptr id14 1 0),(.ptr id13 1 0)])) (ys:=[(vi x9.1),(vb x9.2.1),(vi x9.2.2)]) (r:=(vb (Z3 x9.1 x9.2.1 x9.2.2 1 true))) H V V (CloH.clo (ZW V)) (.cons 1 V (.cons 0 V .nil)) (fun _ => by kernel_rfl) V fun σ H => (.kT V (.nil ?_)))))));obtain rfl:=sj h;exact ⟨EI V,(((H.erase 4).erase 1).erase 0).wk (by omega)⟩
  refine .ps 7 V (.kF V (.nil ?_));obtain rfl:=sj h;exact ⟨EI V,(H.erase 2).wk (by omega)⟩
 refine .mV V ?_;obtain ⟨y7,hj7,h⟩:=bs h;refine .mid 8 (K1:=fun e σ => ∃ (lb1:Bool),Z6 e [(110,(vb y7)),(3,(.ptr (b3 + 5) 4 0))]∧Has σ (b8 + 70) (b8 + 89) [.blk (b3 + 5) 25 [(vi 0),(vi 0),.nils,(.buf (b3 + 3) 1 2)],.sl (.buf (b3 + 3) 1 2) 50 2 ([(Granule.mk 3 [(Span.mk 5 9)])].map Granule.cs) lb1]) V ?_ ?_
 ·refine .sp hj7 V ?_ ?_ <;> intro h
  ·refine .wt V V ?_;refine .Z40 (ys:=[(vi 0),(vb false)]) (PostA:=fun r A => ∃ id15 id16:Nat,r = (.clo 25 [] [(.ptr id16 1 0),(.ptr id15 1 0)])∧A = [.blk id15 4 [(vb false)],.blk id16 3 [(vi 0)]]) H rfl (fun hT => by obtain ⟨r,s,q,id15,id16,hr,hH⟩:=Ze hT;exact ⟨r,s,q,_,⟨id15,id16,hr,rfl⟩,hH⟩) rfl (fun _ => by kernel_rfl) rfl ?_;rintro _ _ σ ⟨id15,id16,rfl,rfl⟩ H;refine .wt V V (.Z1f (cs:=[(vi 0),(vi 0),.nils,(.buf (b3 + 3) 1 2)]) H 2 V V V V V V V (fun _ => .inl ⟨B8 0 _ V _ V,nofun,(fun _ => by kernel_rfl)⟩) V (.wt V V ?_));obtain ⟨x10,q10,h⟩:=bs h;refine .Z50 (xs:=[(.agg [(vi 0),(vi 0),.nils,(.buf (b3 + 3) 1 2)]),(vi 1)]) (ys:=[(.agg (vs (Form.cs (Form.mk 0 0 [] [(Granule.mk 3 [(Span.mk 5 9)])])))),(vi 1)]) H V (.cons (.a (.cons (.v _) (.cons (.v _) (.cons (.n) (.cons (.s 3 V) .nil))))) (.cons (.c (.v _)) .nil)) (Z3P q10) V V (fun _ => by kernel_rfl) V fun σ H => (.xV V (.xV V (.xV V (.wt V V (.callV (cv:=(.clo 25 [] [(.ptr id16 1 0),(.ptr id15 1 0)])) (ys:=[(vi x10.1),(vb x10.2.1),(vi x10.2.2)]) (r:=(vb (Z3 x10.1 x10.2.1 x10.2.2 0 false))) H V V (CloH.clo (ZW V)) (.cons 1 V (.cons 0 V .nil)) (fun _ => by kernel_rfl) V fun σ H => (.kT V (.nil ?_)))))));obtain rfl:=sj h;exact ⟨false,EI V,((H.erase 1).erase 0).wk (by omega)⟩
  refine .ps 7 V (.kF V (.nil ?_));obtain rfl:=sj h;exact ⟨true,EI V,H.wk (by omega)⟩
 ·rintro e σ ⟨lb1,he,H⟩;obtain ⟨e,rfl⟩:=he.ex;refine .mV V ?_;obtain ⟨y8,hj8,h⟩:=bs h;refine .mid 8 (K1:=fun e σ => ∃ (lb2:Bool),Z6 e [(119,(vb y8)),(3,(.ptr (b3 + 5) 4 0))]∧Has σ (b8 + 79) (b8 + 89) [.blk (b3 + 5) 25 [(vi 0),(vi 0),.nils,(.buf (b3 + 3) 1 2)],.sl (.buf (b3 + 3) 1 2) 50 2 ([(Granule.mk 3 [(Span.mk 5 9)])].map Granule.cs) lb2]) V ?_ ?_
  ·refine .sp hj8 V ?_ ?_ <;> intro h
   ·refine .wt V V ?_;refine .Z40 (ys:=[(vi 0),(vb true)]) (PostA:=fun r A => ∃ id17 id18:Nat,r = (.clo 25 [] [(.ptr id18 1 0),(.ptr id17 1 0)])∧A = [.blk id17 4 [(vb true)],.blk id18 3 [(vi 0)]]) H rfl (fun hT => by obtain ⟨r,s,q,id17,id18,hr,hH⟩:=Ze hT;exact ⟨r,s,q,_,⟨id17,id18,hr,rfl⟩,hH⟩) rfl (fun _ => by kernel_rfl) rfl ?_;rintro _ _ σ ⟨id17,id18,rfl,rfl⟩ H;refine .wt V V (.Z1f (cs:=[(vi 0),(vi 0),.nils,(.buf (b3 + 3) 1 2)]) H 2 V V V V V V V (fun _ => .inl ⟨B8 0 _ V _ V,nofun,(fun _ => by kernel_rfl)⟩) V (.wt V V ?_));obtain ⟨x11,q11,h⟩:=bs h;refine .Z50 (xs:=[(.agg [(vi 0),(vi 0),.nils,(.buf (b3 + 3) 1 2)]),(vi (-4))]) (ys:=[(.agg (vs (Form.cs (Form.mk 0 0 [] [(Granule.mk 3 [(Span.mk 5 9)])])))),(vi (-4))]) H V (.cons (.a (.cons (.v _) (.cons (.v _) (.cons (.n) (.cons (.s 3 V) .nil))))) (.cons (.c (.v _)) .nil)) (Z53 q11) V V (fun _ => by kernel_rfl) V fun σ H => (.xV V (.xV V (.xV V (.wt V V (.callV (cv:=(.clo 25 [] [(.ptr id18 1 0),(.ptr id17 1 0)])) (ys:=[(vi x11.1),(vb x11.2.1),(vi x11.2.2)]) (r:=(vb (Z3 x11.1 x11.2.1 x11.2.2 0 true))) H V V (CloH.clo (ZW V)) (.cons 1 V (.cons 0 V .nil)) (fun _ => by kernel_rfl) V fun σ H => (.kT V (.nil ?_)))))));obtain rfl:=sj h;exact ⟨false,EI V,((H.erase 1).erase 0).wk (by omega)⟩
   refine .ps 7 V (.kF V (.nil ?_));obtain rfl:=sj h;exact ⟨lb1,EI V,H.wk (by omega)⟩
  ·rintro e σ ⟨lb2,he,H⟩;obtain ⟨e,rfl⟩:=he.ex;refine .mV V ?_;obtain ⟨y9,hj9,h⟩:=bs h;refine .md H 8 [(128,(vb y9))] [] V ?_ fun e σ H => ?_
   ·refine .sp hj9 V ?_ ?_ <;> intro h
    ·refine .wt V V ?_;refine .Z40 (ys:=[(vi 0),(vb false)]) (PostA:=fun r A => ∃ id19 id20:Nat,r = (.clo 25 [] [(.ptr id20 1 0),(.ptr id19 1 0)])∧A = [.blk id19 4 [(vb false)],.blk id20 3 [(vi 0)]]) H rfl (fun hT => by obtain ⟨r,s,q,id19,id20,hr,hH⟩:=Ze hT;exact ⟨r,s,q,_,⟨id19,id20,hr,rfl⟩,hH⟩) rfl (fun _ => by kernel_rfl) rfl ?_;rintro _ _ σ ⟨id19,id20,rfl,rfl⟩ H;refine .wt V V (.Z1f (cs:=[(vi 0),(vi 0),.nils,(.buf (b3 + 3) 1 2)]) H 2 V V V V V V V (fun _ => .inl ⟨B8 0 _ V _ V,nofun,(fun _ => by kernel_rfl)⟩) V (.wt V V ?_));obtain ⟨x12,q12,h⟩:=bs h;refine .Z50 (xs:=[(.agg [(vi 0),(vi 0),.nils,(.buf (b3 + 3) 1 2)]),(vi (-5))]) (ys:=[(.agg (vs (Form.cs (Form.mk 0 0 [] [(Granule.mk 3 [(Span.mk 5 9)])])))),(vi (-5))]) H V (.cons (.a (.cons (.v _) (.cons (.v _) (.cons (.n) (.cons (.s 3 V) .nil))))) (.cons (.c (.v _)) .nil)) (Z53 q12) V V (fun _ => by kernel_rfl) V fun σ H => (.xV V (.xV V (.xV V (.wt V V (.callV (cv:=(.clo 25 [] [(.ptr id20 1 0),(.ptr id19 1 0)])) (ys:=[(vi x12.1),(vb x12.2.1),(vi x12.2.2)]) (r:=(vb (Z3 x12.1 x12.2.1 x12.2.2 0 false))) H V V (CloH.clo (ZW V)) (.cons 1 V (.cons 0 V .nil)) (fun _ => by kernel_rfl) V fun σ H => (.kT V (.nil ?_)))))));obtain rfl:=sj h;exact ⟨EI V,((((H.erase 3).erase 2).erase 1).erase 0).wk (by omega)⟩
    refine .ps 7 V (.kF V (.nil ?_));obtain rfl:=sj h;exact ⟨EI V,((H.erase 1).erase 0).wk (by omega)⟩
   refine .aV V (.nila H fun H => (.ret ?_));obtain rfl:=sj h;exact Ends.eR V
theorem Z4v {r:Bool} (h:Z3D = r):Fn CX 5 [] (vb r):=by
 subst h;exact Z7x Z77
theorem Z6c {l:(List Span)} {r:(List Span)} (h:Z2i l = some r):Fn CX 21 [(vl Span.cs l)] (vl Span.cs r):=by
 refine Fn.go Tryz.func21 V fun σ H => ?_;unfold Z2i at h;refine .tR 1 V H fun b1 σ H => (.a1 .nils V V (.nila H fun H => (.tR 4 V H fun b2 σ H => (.mV V (.nV V ?_)))));obtain ⟨x1,q1,h⟩:=bs h;refine .makeS (zs:=[(.int .i64 0),(.int .i64 0)]) (cc:=Span.cs) H (by omega) (by omega) V V q1 V V V V V V V fun σ H => (.aB V (.nila H fun H => (.tR 3 V H fun b3 σ H => (.mB V (.mV V (.copyS (c:=Span.cs) (w:=(vl Span.cs l)) (xs:=x1) (ys:=l) H 0 V V V V (.m (fun _ => V)) V V nofun V fun σ H => (.nila H fun H => (.tR 2 V H fun b4 σ H => ?_))))))));refine .mB V (.aB V (.nila H fun H => (.ret ?_)));obtain rfl:=sj h;exact (Ends.H (xs:=[(.buf (b2 + 2) ((l.length:Int)).toNat 2)]) (.inr V) H (.tmp (v:=(.buf (b2 + 2) ((l.length:Int)).toNat 2)) V .nil) (.one (.c (.s 0 V))))
theorem Z83 {f:Form} {r:Form} (h:Zb f = some r):FnO CX 6 [(.agg (vs (Form.cs f)))] (fun q A => ∃ (w13:PV) (w14:PV),q = (.agg [(vi r.Period),(vi r.Count),w13,w14])∧A = [.sl w13 44 1 (r.Core.map (cL Span.cs)) true,.sl w14 50 2 (r.Odd.map Granule.cs) true]):=by
 refine FnO.of Tryz.func6 V V V V V V ?_;intro σ T H;unfold Zb at h;refine .tR 2 V H fun b1 σ H => (.boxH (cs:=(vF f)) H (by omega) (by omega) V V V fun σ H => (.Za (cs:=[(vi 0),(vi 0),.nils,.nils]) H (by omega) (by omega) V V fun σ H => (.nila H fun H => (.tR 7 V H fun b2 σ H => (.fV H 1 V (.lV H 1 V (.fV H 1 V (.lV H 1 V ?_))))))));refine .bV [(vi f.Period),(vi f.Count),.nils,.nils] V (.Za (cs:=[(vi 0),(vi 0),.nils,.nils]) H (by omega) (by omega) V V fun σ H => (.sV [(vi f.Period),(vi f.Count),.nils,.nils] H 0 V fun σ H => (.nila H fun H => (.then (.tR 4 V H fun b3 σ H => (.fV H 2 V (.lV H 2 V (.nV V ?_))))))));refine .mV V (.nila H fun H => (.inBlock ?_));replace H:=H.pushNil 44 1 true;obtain ⟨y1,hj1,h⟩:=bs h;obtain ⟨n1,hj1⟩:=ZM.1 hj1;refine .mono (Runs.loopO hj1 (fun s2 e σ => ∃ (w3:PV),Z6 e [(1,(.ptr (b1 + 0) 4 0)),(2,(.ptr (b1 + 1) 4 0)),(3,(.ptr (b2 + 5) 4 0)),(14,(vl (cL Span.cs) f.Core)),(15,(vi (f.Core.length:Int))),(16,(vi s2.1))]∧Hs σ (.sl w3 44 1 (s2.2.map (cL Span.cs)) true :: .blk (b2 + 5) 25 [(vi f.Period),(vi f.Count),w3,.nils] :: .blk (b1 + 1) 25 [(vi 0),(vi 0),.nils,.nils] :: .blk (b1 + 0) 25 (vF f) :: T)) (fun y1 x e σ => ∃ (w4:PV),x = .exit 0∧Z6 e [(1,(.ptr (b1 + 0) 4 0)),(2,(.ptr (b1 + 1) 4 0)),(3,(.ptr (b2 + 5) 4 0))]∧Hs σ (.sl w4 44 1 (y1.map (cL Span.cs)) true :: .blk (b2 + 5) 25 [(vi f.Period),(vi f.Count),w4,.nils] :: .blk (b1 + 1) 25 [(vi 0),(vi 0),.nils,.nils] :: .blk (b1 + 0) 25 (vF f) :: T)) ⟨.nils,EI V,H⟩ ?_) ?_
 ·intro s2 e σ hI z h;obtain ⟨w3,he,H⟩:=hI;obtain ⟨e,rfl⟩:=he.ex;unfold Zb.s0 at h;refine .tR 1 V H fun b4 σ H => (.iV V (.nila H fun H => (.then ?_)));refine .wh h V ?_ ?_ <;> intro h
  ·refine .skip (.then (.inBlock (.tR 3 V H fun b5 σ H => ?_)));obtain ⟨x1,q1,h⟩:=bs h;refine .jV q1 V (.pV V (.aV V (.nila H fun H => (.Zr 8 V (by kernel_rfl) H fun b6 σ H B6 => (.ZA H 1 V V V V V (fun _ => .inl ⟨B6 1 _ V _ V,nofun,(fun _ => by kernel_rfl)⟩) V (.ld w3 H 1 V V V V V (fun _ => .inl ⟨B6 1 _ V _ V,nofun,(fun _ => by kernel_rfl)⟩) V (.mV V ?_)))))));obtain ⟨x2,q2,h⟩:=bs h;refine .cV (Z6c q2) V (.Z0p (sz:=1) ([x2].map (cL Span.cs)) H (by omega) (by omega) V V V V V V V V V fun σ H => ?_);obtain ⟨x3,q3,h⟩:=bs h;refine .Z16 (c:=(cL Span.cs)) (v:=w3) (w:=(.buf (b6 + 4) 1 1)) (xs:=s2.2) (ys:=[x2]) H (by omega) (by omega) 1 V V V (.s 0 V) q3 V V V V V (fun h => ⟨(fun id ho => .inl ⟨B6 0 _ V id ho,(fun _ => by kernel_rfl),nofun⟩),(fun id ho => .inr ⟨4,(by cases ho;rfl),(fun h => nomatch h),by kernel_rfl,by decide⟩)⟩) V fun w5 σ H => (.ZA H 2 V V V V V (fun _ => .inl ⟨B6 1 _ V _ V,nofun,(fun _ => by kernel_rfl)⟩) V (.Z4N (v:=w5) (ys:=[w5]) (cells':=[(vi f.Period),(vi f.Count),w5,.nils]) H 2 V V V V (H.slCells (k:=1) V) V V V V (fun _ => .inl ⟨B6 1 _ V _ V,(Z46 (by kernel_rfl))⟩) fun σ H => (.nila H fun H => (.Z4 2 V H fun b7 σ H => (.iV V (.mV V (.nila H fun H => ?_)))))));obtain rfl:=sj h;exact ⟨V,w5,EI V,(H.erase 0)⟩
  refine .exit ?_;obtain rfl:=sj h;exact ⟨nofun,⟨w3,V,EI V,H⟩⟩
 ·rintro x e σ ⟨w6,rfl,he,H⟩;obtain ⟨e,rfl⟩:=he.ex;refine .then (.tR 4 V H fun b8 σ H => (.fV H 3 V (.lV H 3 V (.nV V (.mV V (.nila H fun H => (.inBlock ?_)))))));replace H:=H.pushNil 50 2 true;obtain ⟨y2,hj2,h⟩:=bs h;obtain ⟨n2,hj2⟩:=ZM.1 hj2;refine .mono (Runs.loopO hj2 (fun s4 e σ => ∃ (w9:PV),Z6 e [(2,(.ptr (b1 + 1) 4 0)),(3,(.ptr (b2 + 5) 4 0)),(29,(vl Granule.cs f.Odd)),(30,(vi (f.Odd.length:Int))),(31,(vi s4.1))]∧Hs σ (.sl w9 50 2 (s4.2.map Granule.cs) true :: .sl w6 44 1 (y1.map (cL Span.cs)) true :: .blk (b2 + 5) 25 [(vi f.Period),(vi f.Count),w6,w9] :: .blk (b1 + 1) 25 [(vi 0),(vi 0),.nils,.nils] :: T)) (fun y2 x e σ => ∃ (w10:PV),x = .exit 2∧Z6 e [(2,(.ptr (b1 + 1) 4 0)),(3,(.ptr (b2 + 5) 4 0))]∧Hs σ (.sl w10 50 2 (y2.map Granule.cs) true :: .sl w6 44 1 (y1.map (cL Span.cs)) true :: .blk (b2 + 5) 25 [(vi f.Period),(vi f.Count),w6,w10] :: .blk (b1 + 1) 25 [(vi 0),(vi 0),.nils,.nils] :: T)) ⟨.nils,EI V,(H.erase 4)⟩ ?_) ?_
  ·intro s4 e σ hI z h;obtain ⟨w9,he,H⟩:=hI;obtain ⟨e,rfl⟩:=he.ex;unfold Zb.s1 at h;refine .tR 1 V H fun b9 σ H => (.iV V (.nila H fun H => (.then ?_)));refine .wh h V ?_ ?_ <;> intro h
   ·refine .skip (.then (.inBlock (.tR 4 V H fun b10 σ H => ?_)));obtain ⟨x4,q4,h⟩:=bs h;refine .jV q4 V (.qV [(.int .i64 x4.Index),(.sl (x4.Ticks.map Span.cs))] V (.Za (cs:=[(vi 0),.nils]) H (by omega) (by omega) V V fun σ H => (.sV [(vi x4.Index),(vl Span.cs x4.Ticks)] H 0 V fun σ H => (.nila H fun H => (.Zr 12 V (by kernel_rfl) H fun b11 σ H B11 => (.ZA H 3 V V V V V (fun _ => .inl ⟨B11 3 _ V _ V,nofun,(fun _ => by kernel_rfl)⟩) V (.ld w9 H 3 V V V V V (fun _ => .inl ⟨B11 3 _ V _ V,nofun,(fun _ => by kernel_rfl)⟩) V (.ZA H 0 V V V V V (fun _ => .inl ⟨B11 0 _ V _ V,nofun,(fun _ => by kernel_rfl)⟩) V ?_))))))));refine .ld (vi x4.Index) H 0 V V V V V (fun _ => .inl ⟨B11 0 _ V _ V,nofun,(fun _ => by kernel_rfl)⟩) V (.ZA H 0 V V V V V (fun _ => .inl ⟨B11 0 _ V _ V,nofun,(fun _ => by kernel_rfl)⟩) V (.ld (vl Span.cs x4.Ticks) H 0 V V V V V (fun _ => .inl ⟨B11 0 _ V _ V,nofun,(fun _ => by kernel_rfl)⟩) V ?_));obtain ⟨x5,q5,h⟩:=bs h;refine .cV (Z6c q5) V (.bV [(vi x4.Index),(vl Span.cs x5)] V (.Z0p (sz:=2) ([(Granule.mk x4.Index x5)].map Granule.cs) H (by omega) (by omega) V V V V V V V V V fun σ H => ?_));obtain ⟨x6,q6,h⟩:=bs h;refine .Z16 (c:=Granule.cs) (v:=w9) (w:=(.buf (b11 + 8) 1 2)) (xs:=s4.2) (ys:=[(Granule.mk x4.Index x5)]) H (by omega) (by omega) 2 V V V (.s 0 V) q6 V V V V V (fun h => ⟨(fun id ho => .inl ⟨B11 1 _ V id ho,(fun _ => by kernel_rfl),nofun⟩),(fun id ho => .inr ⟨8,(by cases ho;rfl),(fun h => nomatch h),by kernel_rfl,by decide⟩)⟩) V fun w11 σ H => (.ZA H 4 V V V V V (fun _ => .inl ⟨B11 3 _ V _ V,nofun,(fun _ => by kernel_rfl)⟩) V (.Z4N (v:=w11) (ys:=[w11]) (cells':=[(vi f.Period),(vi f.Count),w6,w11]) H 4 V V V V (H.slCells (k:=2) V) V V V V (fun _ => .inl ⟨B11 3 _ V _ V,(Z46 (by kernel_rfl))⟩) fun σ H => (.nila H fun H => (.Z4 2 V H fun b12 σ H => (.iV V (.mV V (.nila H fun H => ?_)))))))
    obtain rfl:=sj h;exact ⟨V,w11,EI V,((H.erase 1).erase 0)⟩
   refine .exit ?_;obtain rfl:=sj h;exact ⟨nofun,⟨w9,V,EI V,H⟩⟩
  ·rintro x e σ ⟨w12,rfl,he,H⟩;obtain ⟨e,rfl⟩:=he.ex;refine .tR 2 V H fun b13 σ H => (.LV [(vi f.Period),(vi f.Count),w6,w12] H 2 V (.sV [(vi f.Period),(vi f.Count),w6,w12] H 3 V fun σ H => (.nila H fun H => (.ret ?_))));obtain rfl:=sj h;exact ⟨.inr V,_,Z0Y H (.agg (cs:=[(vi f.Period),(vi f.Count),w6,w12]) 3 V V V V V V V .nil),_,⟨w6,w12,V,V⟩,(Has.pickT [.sl w12 50 2 (y2.map Granule.cs) true,.sl w6 44 1 (y1.map (cL Span.cs)) true,.blk (b2 + 5) 25 [(vi f.Period),(vi f.Count),w6,w12],.blk (b1 + 1) 25 [(vi f.Period),(vi f.Count),w6,w12]] [1,0] (by decide) V H)⟩
theorem Z3g {a:Int} {b:Int} {r:Int × Int} (h:Z1C a b = some r):Fn CX 41 [(vi a),(vi b)] (.tup [(vi r.1),(vi r.2)]):=by
 refine Fn.go Tryz.func41 V fun σ H => ?_;unfold Z1C at h;refine .tR 2 V H fun b1 σ H => (.aV V (.aV V (.nila H fun H => (.tR 4 V H fun b2 σ H => (.mV V (.mV V ?_))))));obtain ⟨u1,q1,h⟩:=bs h;refine .quo (m:=a) (m':=b) V V (Z6i q1) V (.aV V (.nila H fun H => (.tR 4 V H fun b3 σ H => (.mV V (.mV V ?_)))));obtain ⟨u2,q2,h⟩:=bs h;refine .rem (m:=a) (m':=b) V V (Z6i q2) V (.aV V (.nila H fun H => (.then ?_)));refine .jn h .normal (fun y1 => [(6,(vi y1.1)),(7,(vi y1.2))]) (fun y1 => []) (fun y1 h => ?_) fun y1 e σ H h => ?_
 ·refine .tR 2 V H fun b4 σ H => (.mV V (.iV V (.nila H fun H => ?_)));refine .wh h V ?_ ?_ <;> intro h
  ·refine .tR 3 V H fun b5 σ H => (.mV V (.iV V (.aV V (.nila H fun H => (.Z4 4 V H fun b6 σ H => (.mV V (.mV V (.iV V ?_))))))));refine .aV V (.nila H fun H => ?_);obtain rfl:=sj h;exact ⟨V,EI V,H⟩
  refine .skip ?_;obtain rfl:=sj h;exact ⟨V,EI V,H⟩
 refine .tR 4 V H fun b7 σ H => (.mV V (.mV V (.aV V (.aV V (.nila H fun H => (.ret ?_))))));obtain rfl:=sj h;exact Ends.eR V
theorem Z9Z {f:Form} {i:Int} {r:(List Span) × Int} (h:Z0S f i = some r):Fn CX 44 [(.agg (vs (Form.cs f))),(vi i)] (.tup [(vl Span.cs r.1),(vi r.2)]):=by
 refine Fn.go Tryz.func44 V fun σ H => ?_;unfold Z0S at h;refine .tR 3 V H fun b1 σ H => (.boxH (cs:=(vF f)) H (by omega) (by omega) V V V fun σ H => (.a1 .nils V V (.aV V (.nila H fun H => (.then (.tR 1 V H fun b2 σ H => (.aV V (.nila H fun H => ?_))))))));refine .inBlock ?_;obtain ⟨y1,hj1,h⟩:=bs h;obtain ⟨n1,hj1⟩:=ZM.1 hj1;refine .mono (Runs.loopO hj1 (fun s1 e σ => Z6 e [(1,(vi i)),(2,(.ptr (b1 + 0) 4 0)),(6,(vi s1))]∧Hs σ [.blk (b1 + 0) 25 (vF f)]) (fun y1 x e σ => (∃ a1,y1 = (.go a1)∧x = .exit 0∧Z6 e [(1,(vi i)),(2,(.ptr (b1 + 0) 4 0))]∧Hs σ [.blk (b1 + 0) 25 (vF f)])∨(∃ r',y1 = (.ret r')∧x = .ret∧Ends CX Tryz.f44.results.toList (.tup [(vl Span.cs r'.1),(vi r'.2)]) x e σ)) ⟨EI V,H⟩ ?_) ?_
 ·intro s1 e σ hI z h;obtain ⟨he,H⟩:=hI;obtain ⟨e,rfl⟩:=he.ex;unfold Z0S.s0 at h;refine .then (.tR 5 V H fun b3 σ H => (.mV V (.fV H 0 V (.lV H 0 V (.nV V (.iV V (.nila H fun H => ?_)))))));refine .wh h V ?_ ?_ <;> intro h
  ·refine .skip (.then (.inBlock (.tR 8 V H fun b4 σ H => (.fV H 0 V (.lV H 0 V (.mV V ?_))))));obtain ⟨x1,q1,h⟩:=bs h;refine .jV q1 V (.Z8 V V V V (.pV V (.mV V (.iV V (.nila H fun H => ?_)))));refine .wh h V ?_ ?_ <;> intro h
   ·refine .tR 8 V H fun b5 σ H => (.fV H 0 V (.lV H 0 V (.mV V ?_)));obtain ⟨x2,q2,h⟩:=bs h;refine .jV q2 V (.Z8 V V V V (.pV V (.aV V (.aV V (.nila H fun H => (.ret ?_))))));obtain rfl:=sj h;exact ⟨nofun,(.inr ⟨_,V,V,(Ends.H (xs:=[(vl Span.cs x2.Ticks),(vi 0)]) (.inr V) H (.tmp (v:=(vl Span.cs x2.Ticks)) V (.tmp (v:=(vi 0)) V .nil)) (.two (.cons (.c (.v _)) (.cons (.c (.v _)) .nil))))⟩)⟩
   refine .skip (.Z4 3 V H fun b6 σ H => (.mV V (.iV V (.aV V (.nila H fun H => ?_)))));obtain rfl:=sj h;exact ⟨V,EI V,H⟩
  refine .exit ?_;obtain rfl:=sj h;exact ⟨nofun,(.inl ⟨_,V,V,EI V,H⟩)⟩
 ·rintro x e σ (⟨a2,rfl,rfl,he,H⟩ | ⟨r',rfl,rfl,hE⟩)
  ·replace h:=jgo h;obtain ⟨e,rfl⟩:=he.ex;refine .then (.tR 3 V H fun b7 σ H => (.fV H 0 V (.lV H 0 V (.iV V (.nila H fun H => ?_)))));refine .wh h V ?_ ?_ <;> intro h
   ·refine .tR 2 V H fun b8 σ H => (.a1 .nils V V (.aV V (.nila H fun H => (.ret ?_))));obtain rfl:=sj h;exact (Ends.H (xs:=[.nils,(vi 0)]) (.inr V) H (.tmp (v:=.nils) V (.tmp (v:=(vi 0)) V .nil)) (.two (.cons (.c .n) (.cons (.c (.v _)) .nil))))
   refine .skip (.tR 9 V H fun b9 σ H => (.mV V (.fV H 0 V (.lV H 0 V ?_))));obtain ⟨x3,q3,h⟩:=bs h;refine .cV (Z3g q3) V (.m1 (.tup [(vi x3.1),(vi x3.2)]) V V (.xV V (.xV V (.aV V (.aV V (.nila H fun H => (.tR 8 V H fun b10 σ H => (.fV H 0 V ?_))))))));refine .lV H 0 V (.mV V ?_);obtain ⟨x4,q4,h⟩:=bs h;refine .jV q4 V (.pV V (.mV V (.aV V (.aV V (.nila H fun H => (.ret ?_))))));obtain rfl:=sj h;exact Ends.eR V
  ·replace h:=jret h;obtain rfl:=sj h;exact hE
theorem Z8o {l:(List Span)} {by':Int} {r:(List Span) × Int} (h:Z0b l by' = some r):Fn CX 45 [(vl Span.cs l),(vi by')] (.tup [(vl Span.cs r.1),(vi r.2)]):=by
 refine Fn.go Tryz.func45 V fun σ H => ?_;unfold Z0b at h;refine .tR 2 V H fun b1 σ H => (.a1 .nils V V (.aV V (.nila H fun H => (.tR 1 V H fun b2 σ H => (.a1 .nils V V (.nila H fun H => (.then (.tR 1 V H fun b3 σ H => ?_))))))));refine .aV V (.nila H fun H => (.inBlock ?_));replace H:=H.pushNil 46 2 true;obtain ⟨y1,hj1,h⟩:=bs h;obtain ⟨n1,hj1⟩:=ZM.1 hj1;refine .mono (Runs.loopO hj1 (fun s2 e σ => ∃ (w3:PV),Z6 e [(0,(vl Span.cs l)),(1,(vi by')),(6,w3),(7,(vi s2.1))]∧Hs σ [.sl w3 46 2 (s2.2.map Span.cs) true]) (fun y1 x e σ => (∃ a1,∃ (w4:PV),y1 = (.go a1)∧x = .exit 0∧Z6 e [(6,w4)]∧Hs σ [.sl w4 46 2 (a1.map Span.cs) true])∨(∃ r',y1 = (.ret r')∧x = .ret∧Ends CX Tryz.f45.results.toList (.tup [(vl Span.cs r'.1),(vi r'.2)]) x e σ)) ⟨.nils,EI V,H⟩ ?_) ?_
 ·intro s2 e σ hI z h;obtain ⟨w3,he,H⟩:=hI;obtain ⟨e,rfl⟩:=he.ex;unfold Z0b.s0 at h;refine .then (.tR 4 V H fun b4 σ H => (.mV V (.mV V (.nV V (.iV V (.nila H fun H => ?_))))));refine .wh h V ?_ ?_ <;> intro h
  ·refine .skip (.then (.inBlock (.then (.tR 18 V H fun b5 σ H => (.mV V (.mV V (.mV V ?_)))))));obtain ⟨x1,q1,h⟩:=bs h;refine .jV q1 V (.Z8 V V V V (.pV V (.iV V (.iV V (.mV V ?_)))));obtain ⟨y2,hj2,h⟩:=bs h;refine .md H 9 [(31,(vb y2)),(0,(vl Span.cs l)),(1,(vi by')),(6,w3),(7,(vi s2.1))] [.sl w3 46 2 (s2.2.map Span.cs) true] V ?_ fun e σ H => ?_
   ·refine .sp hj2 V ?_ ?_ <;> intro h
    ·refine .ps 8 V (.kT V (.nil ?_));obtain rfl:=sj h;exact ⟨EI V,H.wk (by omega)⟩
    refine .mV V (.mV V (.mV V (.wt V V ?_)));obtain ⟨x2,q2,h⟩:=bs h;refine .jV q2 V (.wt V V (.Z8 V V V V (.pV V (.iV V (.iV V (.kF V (.nil ?_)))))));obtain rfl:=sj h;exact ⟨EI V,H.wk (by omega)⟩
   refine .nila H fun H => ?_;refine .wh h V ?_ ?_ <;> intro h
   ·refine .tR 2 V H fun b6 σ H => (.a1 .nils V V (.aV V (.nila H fun H => (.ret ?_))));obtain rfl:=sj h;exact ⟨nofun,(.inr ⟨_,V,V,(Ends.H (xs:=[.nils,(vi 20)]) (.inr V) H (.tmp (v:=.nils) V (.tmp (v:=(vi 20)) V .nil)) (.two (.cons (.c .n) (.cons (.c (.v _)) .nil))))⟩)⟩
   refine .skip (.Zr 19 V (by kernel_rfl) H fun b7 σ H B7 => (.m1 w3 V V (.mV V (.mV V ?_))));obtain ⟨x3,q3,h⟩:=bs h;refine .jV q3 V (.Z8 V V V V (.pV V (.mV V (.iV V (.mV V (.mV V ?_))))));obtain ⟨x4,q4,h⟩:=bs h;refine .jV q4 V (.Z8 V V V V (.pV V (.mV V (.iV V (.bV [(vi (w64 (x3.From + by'))),(vi (w64 (x4.To + by')))] V (.Z0p (sz:=2) ([(Span.mk (w64 (x3.From + by')) (w64 (x4.To + by')))].map Span.cs) H (by omega) (by omega) V V V V V V V V V fun σ H => ?_))))));obtain ⟨x5,q5,h⟩:=bs h;refine .Z16 (c:=Span.cs) (v:=w3) (w:=(.buf (b7 + 16) 1 2)) (xs:=s2.2) (ys:=[(Span.mk (w64 (x3.From + by')) (w64 (x4.To + by')))]) H (by omega) (by omega) 1 V V V (.s 0 V) q5 V V V V V (fun h => ⟨(fun id ho => .inl ⟨B7 0 _ V id ho,(fun _ => by kernel_rfl),nofun⟩),(fun id ho => .inr ⟨16,(by cases ho;rfl),(fun h => nomatch h),by kernel_rfl,by decide⟩)⟩) V fun w5 σ H => (.a1 w5 V V (.nila H fun H => (.Z4 3 V H fun b8 σ H => (.mV V (.iV V (.aV V (.nila H fun H => ?_)))))));obtain rfl:=sj h;exact ⟨V,w5,EI V,(H.erase 0)⟩
  refine .exit ?_;obtain rfl:=sj h;exact ⟨nofun,(.inl ⟨_,w3,V,V,EI V,H⟩)⟩
 ·rintro x e σ (⟨a2,w6,rfl,rfl,he,H⟩ | ⟨r',rfl,rfl,hE⟩)
  ·replace h:=jgo h;obtain ⟨e,rfl⟩:=he.ex;refine .tR 3 V H fun b9 σ H => (.m1 w6 V V (.a1 w6 V V (.aV V (.nila H fun H => (.ret ?_)))));obtain rfl:=sj h;exact (Ends.H (xs:=[w6,(vi 0)]) (.inr V) H (.tmp (v:=w6) V (.tmp (v:=(vi 0)) V .nil)) (.two (.cons (.c (.s 0 V)) (.cons (.c (.v _)) .nil))))
  ·replace h:=jret h;obtain rfl:=sj h;exact hE
theorem Z5z {f:Form} {i:Int} {r:(List Span) × Int} (h:Z1U f i = some r):Fn CX 23 [(.agg (vs (Form.cs f))),(vi i)] (.tup [(vl Span.cs r.1),(vi r.2)]):=by
 refine Fn.go Tryz.func23 V fun σ H => ?_;unfold Z1U at h;refine .tR 3 V H fun b1 σ H => (.boxH (cs:=(vF f)) H (by omega) (by omega) V V V fun σ H => (.a1 .nils V V (.aV V (.nila H fun H => (.then (.tR 6 V H fun b2 σ H => (.mV V (.iV V ?_))))))));refine .mV V ?_;refine .md H 3 [(13,(vb ((decide (i < (-1099511627776))) || (decide (i > 1099511627776))))),(1,(vi i)),(2,(.ptr (b1 + 0) 4 0))] [.blk (b1 + 0) 25 (vF f)] rfl ?_ fun e σ H => ?_
 ·refine .split V V ?_ ?_ <;> intro hc1
  ·refine .ps 2 V (.kT V (.nil ?_));exact ⟨⟨or_T hc1,V,V,U⟩,H.wk (by omega)⟩
  ·refine .mV V (.iV V (.kF V (.nil ?_)));exact ⟨⟨or_F hc1,V,V,U⟩,H.wk (by omega)⟩
 refine .nila H fun H => ?_;refine .wh h V ?_ ?_ <;> intro h
 ·refine .tR 2 V H fun b3 σ H => (.a1 .nils V V (.aV V (.nila H fun H => (.ret ?_))));obtain rfl:=sj h;exact (Ends.H (xs:=[.nils,(vi 20)]) (.inr V) H (.tmp (v:=.nils) V (.tmp (v:=(vi 20)) V .nil)) (.two (.cons (.c .n) (.cons (.c (.v _)) .nil))))
 refine .skip (.tR 8 V H fun b4 σ H => (.LV (vF f) H 0 V (.mV V ?_)));obtain ⟨x1,q1,h⟩:=bs h;refine .cV (Z9Z q1) V (.m1 (.tup [(vl Span.cs x1.1),(vi x1.2)]) V V (.xV V (.xV V (.aV V (.aV V (.nila H fun H => (.then (.tR 7 V H fun b5 σ H => ?_))))))));refine .mV V (.nV V (.iV V (.mV V ?_)));refine .md H 3 [(26,(vb (((x1.1.length:Int) == 0) || (x1.2 == 0)))),(2,(.ptr (b1 + 0) 4 0)),(6,(vl Span.cs x1.1)),(7,(vi x1.2))] [.blk (b1 + 0) 25 (vF f)] rfl ?_ fun e σ H => ?_
 ·refine .split V V ?_ ?_ <;> intro hc3
  ·refine .ps 2 V (.kT V (.nil ?_));exact ⟨⟨or_T hc3,V,V,V,U⟩,H.wk (by omega)⟩
  ·refine .mV V (.iV V (.kF V (.nil ?_)));exact ⟨⟨or_F hc3,V,V,V,U⟩,H.wk (by omega)⟩
 refine .nila H fun H => ?_;refine .wh h V ?_ ?_ <;> intro h
 ·refine .tR 5 V H fun b6 σ H => (.Z0p (sz:=2) ([].map Span.cs) H (by omega) (by omega) V V V V V V V V V fun σ H => (.mV V ?_));obtain ⟨x2,q2,h⟩:=bs h;refine .appendBt (c:=Span.cs) (w:=(vl Span.cs x1.1)) (xs:=[]) (ys:=x1.1) H (by omega) (by omega) 0 V V V (.m (fun _ => V)) q2 V V V V V nofun V fun σ H => (.aB V (.aV V (.nila H fun H => (.ret ?_))));obtain rfl:=sj h;exact (Ends.H (xs:=[(.buf (b6 + 0) x2.length 2),(vi 0)]) (.inr V) H (.tmp (v:=(.buf (b6 + 0) x2.length 2)) V (.tmp (v:=(vi 0)) V .nil)) (.two (.cons (.c (.s 0 V)) (.cons (.c (.v _)) .nil))))
 refine .skip (.then (.tR 14 V H fun b7 σ H => (.mV V (.fV H 0 V (.lV H 0 V ?_)))));obtain ⟨u1,q3,h⟩:=bs h;refine .quo (m:=2199023255552) (m':=f.Period) V V (Z6i q3) V (.iV V (.iV V (.mV V ?_)));obtain ⟨y1,hj1,h⟩:=bs h;refine .md H 7 [(43,(vb y1)),(2,(.ptr (b1 + 0) 4 0)),(6,(vl Span.cs x1.1)),(7,(vi x1.2))] [.blk (b1 + 0) 25 (vF f)] V ?_ fun e σ H => ?_
 ·refine .sp hj1 V ?_ ?_ <;> intro h
  ·refine .ps 6 V (.kT V (.nil ?_));obtain rfl:=sj h;exact ⟨EI V,H.wk (by omega)⟩
  refine .mV V (.fV H 0 V (.lV H 0 V (.wt V V ?_)));obtain ⟨u2,q4,h⟩:=bs h;refine .quo (m:=(-2199023255552)) (m':=f.Period) V V (Z6i q4) V (.iV V (.iV V (.kF V (.nil ?_))));obtain rfl:=sj h;exact ⟨EI V,H.wk (by omega)⟩
 refine .nila H fun H => ?_;refine .wh h V ?_ ?_ <;> intro h
 ·refine .tR 2 V H fun b8 σ H => (.a1 .nils V V (.aV V (.nila H fun H => (.ret ?_))));obtain rfl:=sj h;exact (Ends.H (xs:=[.nils,(vi 20)]) (.inr V) H (.tmp (v:=.nils) V (.tmp (v:=(vi 20)) V .nil)) (.two (.cons (.c .n) (.cons (.c (.v _)) .nil))))
 refine .skip (.tR 10 V H fun b9 σ H => (.mV V (.mV V (.fV H 0 V (.lV H 0 V (.iV V ?_))))));obtain ⟨x3,q5,h⟩:=bs h;refine .cV (Z8o q5) V (.xV V (.xV V (.aV V (.aV V (.nila H fun H => (.ret ?_))))));obtain rfl:=sj h;exact Ends.eR V
theorem Z24 {l:(List Int)} {x':Int} {r:(List Int)} (h:Zo l x' = some r):Fn CX 100 [(vl (cI .i64) l),(vi x')] (vl (cI .i64) r):=by
 refine Fn.go Tryz.func100 V fun σ H => ?_;unfold Zo at h;refine .tR 1 V H fun b1 σ H => (.a1 .nils V V (.nila H fun H => (.tR 1 V H fun b2 σ H => (.a1 .nils V V (.nila H fun H => (.tR 1 V H fun b3 σ H => (.aV V (.nila H fun H => ?_))))))));refine .then (.tR 1 V H fun b4 σ H => (.aV V (.nila H fun H => (.inBlock ?_))));replace H:=H.pushNil 3 1 true;obtain ⟨y1,hj1,h⟩:=bs h;obtain ⟨n1,hj1⟩:=ZM.1 hj1;refine .mono (Runs.loopO hj1 (fun s2 e σ => ∃ (w3:PV),Z6 e [(0,(vl (cI .i64) l)),(1,(vi x')),(5,w3),(6,(vb s2.1)),(7,(vi s2.2.1))]∧Hs σ [.sl w3 3 1 (s2.2.2.map (cI .i64)) true]) (fun y1 x e σ => ∃ (w4:PV),x = .exit 0∧Z6 e [(1,(vi x')),(5,w4),(6,(vb y1.1))]∧Hs σ [.sl w4 3 1 (y1.2.map (cI .i64)) true]) ⟨.nils,EI V,H⟩ ?_) ?_
 ·intro s2 e σ hI z h;obtain ⟨w3,he,H⟩:=hI;obtain ⟨e,rfl⟩:=he.ex;unfold Zo.s0 at h;refine .then (.tR 4 V H fun b5 σ H => (.mV V (.mV V (.nV V (.iV V (.nila H fun H => ?_))))));refine .wh h V ?_ ?_ <;> intro h
  ·refine .skip (.then ?_);obtain ⟨y2,hj2,h⟩:=bs h;refine .mono (Q:=fun x e σ => ∃ (w5:PV),x = .normal∧Z6 e [(0,(vl (cI .i64) l)),(1,(vi x')),(5,w5),(6,(vb y2.1)),(7,(vi s2.2.1))]∧Hs σ [.sl w5 3 1 (y2.2.map (cI .i64)) true]) ?_ ?_
   ·replace h:=hj2;refine .inBlock ?_;obtain ⟨y3,hj3,h⟩:=bs h;refine .mono (Q:=fun x e σ => ∃ (w6:PV),x = .normal∧Z6 e [(0,(vl (cI .i64) l)),(1,(vi x')),(5,w6),(6,(vb y3.1)),(7,(vi s2.2.1))]∧Hs σ [.sl w6 3 1 (y3.2.map (cI .i64)) true]) ?_ ?_
    ·replace h:=hj3;refine .then ?_;refine .jn h .normal (fun y4 => [(0,(vl (cI .i64) l)),(1,(vi x')),(5,w3),(6,(vb y4)),(7,(vi s2.2.1))]) (fun y4 => [.sl w3 3 1 (s2.2.2.map (cI .i64)) true]) (fun y4 h => ?_) fun y4 e σ H h => ?_
     ·refine .tR 6 V H fun b6 σ H => (.mV V (.mV V ?_));obtain ⟨x1,q1,h⟩:=bs h;refine .jV q1 V (.pV V (.mV V (.iV V (.nila H fun H => ?_))));refine .wh h V ?_ ?_ <;> intro h
      ·refine .Z4 1 V H fun b7 σ H => (.aV V (.nila H fun H => ?_));obtain rfl:=sj h;exact ⟨V,EI V,H⟩
      refine .skip ?_;obtain rfl:=sj h;exact ⟨V,EI V,H⟩
     refine .then ?_;obtain ⟨y5,hj5,h⟩:=bs h;refine .mono (Q:=fun x e σ => ∃ (w7:PV),x = .normal∧Z6 e [(0,(vl (cI .i64) l)),(1,(vi x')),(5,w7),(6,(vb y5.1)),(7,(vi s2.2.1))]∧Hs σ [.sl w7 3 1 (y5.2.map (cI .i64)) true]) ?_ ?_
     ·replace h:=hj5;refine .tR 10 V H fun b8 σ H => (.mV V (.tV V (.mV V ?_)));obtain ⟨y6,hj6,h⟩:=bs h;refine .md H 7 [(29,(vb y6)),(0,(vl (cI .i64) l)),(1,(vi x')),(5,w3),(6,(vb y4)),(7,(vi s2.2.1))] [.sl w3 3 1 (s2.2.2.map (cI .i64)) true] V ?_ fun e σ H => ?_
      ·refine .sp hj6 V ?_ ?_ <;> intro h
       ·refine .mV V (.mV V (.wt V V ?_));obtain ⟨x2,q2,h⟩:=bs h;refine .jV q2 V (.pV V (.mV V (.iV V (.kT V (.nil ?_)))));obtain rfl:=sj h;exact ⟨EI V,H.wk (by omega)⟩
       refine .ps 6 V (.kF V (.nil ?_));obtain rfl:=sj h;exact ⟨EI V,H.wk (by omega)⟩
      refine .nila H fun H => ?_;refine .wh h V ?_ ?_ <;> intro h
      ·refine .tR 5 V H fun b9 σ H => (.m1 w3 V V (.mV V (.Z0p (sz:=1) ([x'].map (cI .i64)) H (by omega) (by omega) V V V V V V V V V fun σ H => ?_)));obtain ⟨x3,q3,h⟩:=bs h;refine .Z16 (c:=(cI .i64)) (v:=w3) (w:=(.buf (b9 + 2) 1 1)) (xs:=s2.2.2) (ys:=[x']) H (by omega) (by omega) 1 V V V (.s 0 V) q3 V V V V V nofun V fun w8 σ H => (.a1 w8 V V (.nila H fun H => (.Z4 1 V H fun b10 σ H => (.aV V (.nila H fun H => ?_)))));obtain rfl:=sj h;exact ⟨w8,V,EI V,(H.erase 0)⟩
      refine .skip ?_;obtain rfl:=sj h;exact ⟨w3,V,EI V,H⟩
     ·rintro x e σ ⟨w9,rfl,he,H⟩;obtain ⟨e,rfl⟩:=he.ex;refine .Z4 8 V H fun b11 σ H => (.m1 w9 V V (.mV V (.mV V ?_)));obtain ⟨x4,q4,h⟩:=bs h;refine .jV q4 V (.pV V (.Z0p (sz:=1) ([x4].map (cI .i64)) H (by omega) (by omega) V V V V V V V V V fun σ H => ?_));obtain ⟨x5,q5,h⟩:=bs h;refine .Z16 (c:=(cI .i64)) (v:=w9) (w:=(.buf (b11 + 5) 1 1)) (xs:=y5.2) (ys:=[x4]) H (by omega) (by omega) 1 V V V (.s 0 V) q5 V V V V V nofun V fun w10 σ H => (.a1 w10 V V (.nila H fun H => ?_));obtain rfl:=sj h;exact ⟨w10,V,EI V,(H.erase 0)⟩
    ·rintro x e σ ⟨w11,rfl,he,H⟩;obtain ⟨e,rfl⟩:=he.ex;obtain rfl:=sj h;exact ⟨w11,V,EI V,H⟩
   ·rintro x e σ ⟨w12,rfl,he,H⟩;obtain ⟨e,rfl⟩:=he.ex;refine .Z4 3 V H fun b12 σ H => (.mV V (.iV V (.aV V (.nila H fun H => ?_))));obtain rfl:=sj h;exact ⟨V,w12,EI V,H⟩
  refine .exit ?_;obtain rfl:=sj h;exact ⟨nofun,⟨w3,V,EI V,H⟩⟩
 ·rintro x e σ ⟨w13,rfl,he,H⟩;obtain ⟨e,rfl⟩:=he.ex;refine .then ?_;obtain ⟨y7,hj7,h⟩:=bs h;refine .mono (Q:=fun x e σ => ∃ (w14:PV),x = .normal∧Z6 e [(5,w14)]∧Hs σ [.sl w14 3 1 (y7.map (cI .i64)) true]) ?_ ?_
  ·replace h:=hj7;refine .tR 2 V H fun b13 σ H => (.mV V (.tV V (.nila H fun H => ?_)));refine .wh h V ?_ ?_ <;> intro h
   ·refine .Z4 5 V H fun b14 σ H => (.m1 w13 V V (.mV V (.Z0p (sz:=1) ([x'].map (cI .i64)) H (by omega) (by omega) V V V V V V V V V fun σ H => ?_)));obtain ⟨x6,q6,h⟩:=bs h;refine .Z16 (c:=(cI .i64)) (v:=w13) (w:=(.buf (b14 + 2) 1 1)) (xs:=y1.2) (ys:=[x']) H (by omega) (by omega) 1 V V V (.s 0 V) q6 V V V V V nofun V fun w15 σ H => (.a1 w15 V V (.nila H fun H => ?_));obtain rfl:=sj h;exact ⟨w15,V,EI V,(H.erase 0)⟩
   refine .skip ?_;obtain rfl:=sj h;exact ⟨w13,V,EI V,H⟩
  ·rintro x e σ ⟨w16,rfl,he,H⟩;obtain ⟨e,rfl⟩:=he.ex;refine .tR 2 V H fun b15 σ H => (.m1 w16 V V (.a1 w16 V V (.nila H fun H => (.ret ?_))));obtain rfl:=sj h;exact (Ends.H (xs:=[w16]) (.inr V) H (.tmp (v:=w16) V .nil) (.one (.c (.s 0 V))))
theorem Z7Y {a:(List Span)} {b:(List Span)} {r:(List Int)} (h:Zf a b = some r):Fn CX 84 [(vl Span.cs a),(vl Span.cs b)] (vl (cI .i64) r):=by
 refine Fn.go Tryz.func84 V fun σ H => ?_;unfold Zf at h;refine .tR 1 V H fun b1 σ H => (.a1 .nils V V (.nila H fun H => (.tR 1 V H fun b2 σ H => (.a1 .nils V V (.nila H fun H => (.then (.tR 1 V H fun b3 σ H => (.aV V ?_))))))));refine .nila H fun H => (.inBlock ?_);obtain ⟨y1,hj1,h⟩:=bs h;obtain ⟨n1,hj1⟩:=ZM.1 hj1;refine .mono (Runs.loopO hj1 (fun s1 e σ => ∃ (w3:PV),RO w3 (s1.1.map (cI .i64))∧Z6 e [(0,(vl Span.cs a)),(1,(vl Span.cs b)),(5,w3),(6,(vi s1.2))]∧Hs σ []) (fun y1 x e σ => ∃ (w4:PV),RO w4 (y1.map (cI .i64))∧x = .exit 0∧Z6 e [(1,(vl Span.cs b)),(5,w4)]∧Hs σ []) ⟨.nils,.inl ⟨V,V⟩,EI V,H⟩ ?_) ?_
 ·intro s1 e σ hI z h;obtain ⟨w3,hw3,he,H⟩:=hI;obtain ⟨e,rfl⟩:=he.ex;unfold Zf.s0 at h;refine .then (.tR 4 V H fun b4 σ H => (.mV V (.mV V (.nV V (.iV V (.nila H fun H => ?_))))));refine .wh h V ?_ ?_ <;> intro h
  ·refine .skip (.then (.inBlock (.Zr 15 V (by kernel_rfl) H fun b5 σ H B5 => (.m1 w3 V V (.mV V (.mV V ?_))))));obtain ⟨x1,q1,h⟩:=bs h;refine .jV q1 V (.Z8 V V V V (.pV V ?_));obtain ⟨x2,q2,h⟩:=bs h;refine .callZS (xs:=[w3,(vi x1.From)]) (ys:=[(vl (cI .i64) s1.1),(vi x1.From)]) H V (.cons (.c (.ro hw3)) (.cons (.c (.v _)) .nil)) (Z24 q2) V V (fun _ => by kernel_rfl) V (.mV V (.mV V ?_));obtain ⟨x3,q3,h⟩:=bs h;refine .jV q3 V (.Z8 V V V V (.pV V (.iV V ?_)));obtain ⟨x4,q4,h⟩:=bs h;refine .cV (Z24 q4) V (.aV V (.nila H fun H => (.Z4 3 V H fun b6 σ H => (.mV V (.iV V (.aV V (.nila H fun H => ?_)))))));obtain rfl:=sj h;exact ⟨V,(vl (cI .i64) x4),.inr V,EI V,H⟩
  refine .exit ?_;obtain rfl:=sj h;exact ⟨nofun,⟨w3,hw3,V,EI V,H⟩⟩
 ·rintro x e σ ⟨w5,hw5,rfl,he,H⟩;obtain ⟨e,rfl⟩:=he.ex;refine .then (.tR 1 V H fun b7 σ H => (.aV V (.nila H fun H => (.inBlock ?_))));obtain ⟨y2,hj2,h⟩:=bs h;obtain ⟨n2,hj2⟩:=ZM.1 hj2;refine .mono (Runs.loopO hj2 (fun s2 e σ => ∃ (w8:PV),RO w8 (s2.1.map (cI .i64))∧Z6 e [(1,(vl Span.cs b)),(5,w8),(7,(vi s2.2))]∧Hs σ []) (fun y2 x e σ => ∃ (w9:PV),RO w9 (y2.map (cI .i64))∧x = .exit 2∧Z6 e [(5,w9)]∧Hs σ []) ⟨w5,hw5,EI V,H⟩ ?_) ?_
  ·intro s2 e σ hI z h;obtain ⟨w8,hw8,he,H⟩:=hI;obtain ⟨e,rfl⟩:=he.ex;unfold Zf.s1 at h;refine .then (.tR 4 V H fun b8 σ H => (.mV V (.mV V (.nV V (.iV V (.nila H fun H => ?_))))));refine .wh h V ?_ ?_ <;> intro h
   ·refine .skip (.then (.inBlock (.Zr 15 V (by kernel_rfl) H fun b9 σ H B9 => (.m1 w8 V V (.mV V (.mV V ?_))))));obtain ⟨x5,q5,h⟩:=bs h;refine .jV q5 V (.Z8 V V V V (.pV V ?_));obtain ⟨x6,q6,h⟩:=bs h;refine .callZS (xs:=[w8,(vi x5.From)]) (ys:=[(vl (cI .i64) s2.1),(vi x5.From)]) H V (.cons (.c (.ro hw8)) (.cons (.c (.v _)) .nil)) (Z24 q6) V V (fun _ => by kernel_rfl) V (.mV V (.mV V ?_));obtain ⟨x7,q7,h⟩:=bs h;refine .jV q7 V (.Z8 V V V V (.pV V (.iV V ?_)));obtain ⟨x8,q8,h⟩:=bs h;refine .cV (Z24 q8) V (.aV V (.nila H fun H => (.Z4 3 V H fun b10 σ H => (.mV V (.iV V (.aV V (.nila H fun H => ?_)))))));obtain rfl:=sj h;exact ⟨V,(vl (cI .i64) x8),.inr V,EI V,H⟩
   refine .exit ?_;obtain rfl:=sj h;exact ⟨nofun,⟨w8,hw8,V,EI V,H⟩⟩
  ·rintro x e σ ⟨w10,hw10,rfl,he,H⟩;obtain ⟨e,rfl⟩:=he.ex;refine .tR 2 V H fun b11 σ H => (.m1 w10 V V (.a1 w10 V V (.nila H fun H => (.ret ?_))));obtain rfl:=sj h;exact (Ends.H (xs:=[w10]) (.inr V) H (.tmp (v:=w10) V .nil) (.one (.c (.ro hw10))))
theorem Z5q {l:(List Span)} {t:Int} {r:Bool} (h:Z0E l t = some r):Fn CX 86 [(vl Span.cs l),(vi t)] (vb r):=by
 refine Fn.go Tryz.func86 V fun σ H => ?_;unfold Z0E at h;refine .tR 1 V H fun b1 σ H => (.aV V (.nila H fun H => (.then (.tR 1 V H fun b2 σ H => (.aV V (.nila H fun H => (.inBlock ?_)))))));obtain ⟨y1,hj1,h⟩:=bs h;obtain ⟨n1,hj1⟩:=ZM.1 hj1;refine .mono (Runs.loopO hj1 (fun s1 e σ => Z6 e [(0,(vl Span.cs l)),(1,(vi t)),(5,(vi s1))]∧Hs σ []) (fun y1 x e σ => (∃ a1,y1 = (.go a1)∧x = .exit 0∧Z6 e []∧Hs σ [])∨(∃ r',y1 = (.ret r')∧x = .ret∧Ends CX Tryz.f86.results.toList (vb r') x e σ)) ⟨EI V,H⟩ ?_) ?_
 ·intro s1 e σ hI z h;obtain ⟨he,H⟩:=hI;obtain ⟨e,rfl⟩:=he.ex;unfold Z0E.s0 at h;refine .then (.tR 4 V H fun b3 σ H => (.mV V (.mV V (.nV V (.iV V (.nila H fun H => ?_))))));refine .wh h V ?_ ?_ <;> intro h
  ·refine .skip (.then (.inBlock (.tR 16 V H fun b4 σ H => (.mV V (.mV V ?_)))));obtain ⟨x1,q1,h⟩:=bs h;refine .jV q1 V (.Z8 V V V V (.pV V (.mV V (.iV V (.mV V ?_)))));obtain ⟨y2,hj2,h⟩:=bs h;refine .md H 8 [(27,(vb y2)),(0,(vl Span.cs l)),(1,(vi t)),(5,(vi s1))] [] V ?_ fun e σ H => ?_
   ·refine .sp hj2 V ?_ ?_ <;> intro h
    ·refine .mV V (.mV V (.mV V (.wt V V ?_)));obtain ⟨x2,q2,h⟩:=bs h;refine .jV q2 V (.wt V V (.Z8 V V V V (.pV V (.iV V (.kT V (.nil ?_))))));obtain rfl:=sj h;exact ⟨EI V,H.wk (by omega)⟩
    refine .ps 7 V (.kF V (.nil ?_));obtain rfl:=sj h;exact ⟨EI V,H.wk (by omega)⟩
   refine .nila H fun H => ?_;refine .wh h V ?_ ?_ <;> intro h
   ·refine .tR 1 V H fun b5 σ H => (.aV V (.nila H fun H => (.ret ?_)));obtain rfl:=sj h;exact ⟨nofun,(.inr ⟨_,V,V,(Ends.H (xs:=[(vb true)]) (.inr V) H (.tmp (v:=(vb true)) V .nil) (.one (.c (.v _))))⟩)⟩
   refine .skip (.Z4 3 V H fun b6 σ H => (.mV V (.iV V (.aV V (.nila H fun H => ?_)))));obtain rfl:=sj h;exact ⟨V,EI V,H⟩
  refine .exit ?_;obtain rfl:=sj h;exact ⟨nofun,(.inl ⟨_,V,V,U,H⟩)⟩
 ·rintro x e σ (⟨a2,rfl,rfl,he,H⟩ | ⟨r',rfl,rfl,hE⟩)
  ·replace h:=jgo h;obtain ⟨e,rfl⟩:=he.ex;refine .tR 1 V H fun b7 σ H => (.aV V (.nila H fun H => (.ret ?_)));obtain rfl:=sj h;exact Ends.eR V
  ·replace h:=jret h;obtain rfl:=sj h;exact hE
theorem ZAN {kind:Int} {a:Bool} {b:Bool} {r:Bool} (h:Z4U kind a b = r):Fn CX 85 [(vi kind),(vb a),(vb b)] (vb r):=by
 refine Fn.go Tryz.func85 V fun σ H => ?_;unfold Z4U at h;refine .tR 1 V H fun b1 σ H => (.aV V (.nila H fun H => (.then (.tR 2 V H fun b2 σ H => (.mV V (.iV V (.nila H fun H => ?_)))))));refine .wh h V ?_ ?_ <;> intro h
 ·refine .tR 5 V H fun b3 σ H => (.mV V (.mV V ?_));refine .md H 2 [(12,(vb (a || b)))] [] rfl ?_ fun e σ H => ?_
  ·refine .split V V ?_ ?_ <;> intro hc2
   ·refine .ps 1 V (.kT V (.nil ?_));exact ⟨⟨or_T hc2,U⟩,H.wk (by omega)⟩
   ·refine .mV V (.kF V (.nil ?_));exact ⟨⟨or_F hc2,U⟩,H.wk (by omega)⟩
  refine .aV V (.nila H fun H => (.ret ?_));subst h;exact Ends.eR V
 refine .skip (.then (.tR 2 V H fun b4 σ H => (.mV V (.iV V (.nila H fun H => ?_)))));refine .wh h V ?_ ?_ <;> intro h
 ·refine .tR 5 V H fun b5 σ H => (.mV V (.mV V ?_));refine .md H 2 [(18,(vb (a && b)))] [] V ?_ fun e σ H => ?_
  ·refine .split V V ?_ ?_ <;> intro hc4
   ·refine .mV V (.kT V (.nil ?_));exact ⟨⟨Z2V hc4,U⟩,H.wk (by omega)⟩
   ·refine .ps 1 V (.kF V (.nil ?_));exact ⟨⟨Z2S hc4,U⟩,H.wk (by omega)⟩
  refine .aV V (.nila H fun H => (.ret ?_));subst h;exact Ends.eR V
 refine .skip (.tR 6 V H fun b6 σ H => (.mV V (.mV V ?_)));refine .md H 3 [(23,(vb (a && (!b))))] [] V ?_ fun e σ H => ?_
 ·refine .split V V ?_ ?_ <;> intro hc5
  ·refine .mV V (.tV V (.kT V (.nil ?_)));exact ⟨⟨Z2V hc5,U⟩,H.wk (by omega)⟩
  ·refine .ps 2 V (.kF V (.nil ?_));exact ⟨⟨Z2S hc5,U⟩,H.wk (by omega)⟩
 refine .aV V (.nila H fun H => (.ret ?_));subst h;exact Ends.eR V
end Go.Dn

namespace Go.Dn
open Go Go.Proofs
set_option maxRecDepth 100000
set_option maxHeartbeats 4000000
theorem Z9e {kind:Int} {a:(List Span)} {b:(List Span)} {r:(List Span)} (h:Z0o kind a b = some r):Fn CX 63 [(vi kind),(vl Span.cs a),(vl Span.cs b)] (vl Span.cs r):=by
 refine Fn.go Tryz.func63 V fun σ H => ?_;unfold Z0o at h;refine .tR 1 V H fun b1 σ H => (.a1 .nils V V (.nila H fun H => (.tR 4 V H fun b2 σ H => (.mV V (.mV V ?_)))));obtain ⟨x1,q1,h⟩:=bs h;refine .cV (Z7Y q1) V (.aV V (.nila H fun H => (.tR 1 V H fun b3 σ H => (.a1 .nils V V (.nila H fun H => (.then (.tR 1 V H fun b4 σ H => (.aV V ?_))))))));refine .nila H fun H => (.inBlock ?_);replace H:=H.pushNil 46 2 true;obtain ⟨y1,hj1,h⟩:=bs h;obtain ⟨n1,hj1⟩:=ZM.1 hj1;refine .mono (Runs.loopO hj1 (fun s2 e σ => ∃ (w3:PV),Z6 e [(0,(vi kind)),(1,(vl Span.cs a)),(2,(vl Span.cs b)),(7,(vl (cI .i64) x1)),(8,w3),(9,(vi s2.1))]∧Hs σ [.sl w3 46 2 (s2.2.map Span.cs) true]) (fun y1 x e σ => ∃ (w4:PV),x = .exit 0∧Z6 e [(8,w4)]∧Hs σ [.sl w4 46 2 (y1.map Span.cs) true]) ⟨.nils,EI V,H⟩ ?_) ?_
 ·intro s2 e σ hI z h;obtain ⟨w3,he,H⟩:=hI;obtain ⟨e,rfl⟩:=he.ex;unfold Z0o.s0 at h;refine .then (.tR 5 V H fun b5 σ H => (.mV V (.iV V (.mV V (.nV V (.iV V (.nila H fun H => ?_)))))));refine .wh h V ?_ ?_ <;> intro h
  ·refine .skip (.then ?_);obtain ⟨y2,hj2,h⟩:=bs h;refine .mono (Q:=fun x e σ => ∃ (w5:PV),x = .normal∧Z6 e [(0,(vi kind)),(1,(vl Span.cs a)),(2,(vl Span.cs b)),(7,(vl (cI .i64) x1)),(8,w5),(9,(vi s2.1))]∧Hs σ [.sl w5 46 2 (y2.map Span.cs) true]) ?_ ?_
   ·replace h:=hj2;refine .inBlock ?_;obtain ⟨y3,hj3,h⟩:=bs h;refine .mono (Q:=fun x e σ => (∃ a1,∃ (w6:PV),y3 = (.go a1)∧x = .normal∧Z6 e [(0,(vi kind)),(1,(vl Span.cs a)),(2,(vl Span.cs b)),(7,(vl (cI .i64) x1)),(8,w6),(9,(vi s2.1))]∧Hs σ [.sl w6 46 2 (a1.map Span.cs) true])∨(∃ a2,y3 = (.ret a2)∧x = .exit 1∧Z6 e [(0,(vi kind)),(1,(vl Span.cs a)),(2,(vl Span.cs b)),(7,(vl (cI .i64) x1)),(8,w3),(9,(vi s2.1))]∧Hs σ [.sl w3 46 2 (s2.2.map Span.cs) true])) ?_ ?_
    ·replace h:=hj3;refine .then (.then (.Zr 15 V (by kernel_rfl) H fun b6 σ H B6 => (.mV V (.mV V (.mV V (.mV V ?_))))));obtain ⟨x2,q2,h⟩:=bs h;refine .jV q2 V (.pV V ?_);obtain ⟨x3,q3,h⟩:=bs h;refine .cV (Z5q q3) V (.mV V (.mV V (.mV V ?_)));obtain ⟨x4,q4,h⟩:=bs h;refine .jV q4 V (.pV V ?_);obtain ⟨x5,q5,h⟩:=bs h;refine .cV (Z5q q5) V (.cV (ZAN V) V (.tV V (.nila H fun H => ?_)));refine .wh h V ?_ ?_ <;> intro h
     ·refine .exit ?_;obtain rfl:=sj h;exact (.inr ⟨_,V,V,EI V,H⟩)
     refine .skip (.then (.Zr 18 V (by kernel_rfl) H fun b7 σ H B7 => (.m1 w3 V V (.Z48 (c:=Span.cs) (xs:=s2.2) H 0 V V V (fun _ id ho => .inl ⟨B7 0 _ V id ho,nofun,(fun _ => by kernel_rfl)⟩) V (.iV V (.mV V ?_))))));obtain ⟨y4,hj4,h⟩:=bs h;refine .md H 14 [(52,(vb y4)),(0,(vi kind)),(1,(vl Span.cs a)),(2,(vl Span.cs b)),(7,(vl (cI .i64) x1)),(8,w3),(9,(vi s2.1))] [.sl w3 46 2 (s2.2.map Span.cs) true] V ?_ fun e σ H => ?_
     ·refine .sp hj4 V ?_ ?_ <;> intro h
      ·refine .m1 w3 V V (.m1 w3 V V (.wt V V (.Z48 (c:=Span.cs) (xs:=s2.2) H 0 V V V (fun _ id ho => .inl ⟨B7 0 _ V id ho,nofun,(fun _ => by kernel_rfl)⟩) V (.iV V (.wt V V ?_)))));obtain ⟨x6,q6,h⟩:=bs h;refine .Z3h H 0 V V V (at?_map q6) V V (fun _ id ho => .inl ⟨B7 0 _ V id ho,nofun,(fun _ => by kernel_rfl)⟩) V ?_;intro id1 hv1;refine .wt V V (.Z5e (id:=id1) H 0 V hv1 (by simp) V V V (fun _ => .inl ⟨B7 0 _ V _ (by rw [(hv1:(w3:PV) = _)];rfl),nofun,(fun _ => by kernel_rfl)⟩) V (.wt V V ?_));refine .Z6j (id:=id1) (j:=1) (w:=(.int .i64 x6.To)) H 0 V hv1 (by simp) (at?_map q6) V (by simp) V V V (fun _ => .inl ⟨B7 0 _ V _ (by rw [(hv1:(w3:PV) = _)];rfl),nofun,(fun _ => by kernel_rfl)⟩) V ?_;refine .mV V (.mV V (.wt V V ?_));obtain ⟨x7,q7,h⟩:=bs h;refine .jV q7 V (.pV V (.iV V (.iV V (.kT V (.nil ?_)))));obtain rfl:=sj h;exact ⟨EI V,H.wk (by omega)⟩
      refine .ps 13 V (.kF V (.nil ?_));obtain rfl:=sj h;exact ⟨EI V,H.wk (by omega)⟩
     refine .nila H fun H => ?_;refine .wh h V ?_ ?_ <;> intro h
     ·refine .Z4 13 V H fun b8 σ H => (.m1 w3 V V (.m1 w3 V V (.Z48 (c:=Span.cs) (xs:=s2.2) H 0 V V V nofun V (.iV V (.mV V (.mV V (.iV V ?_)))))));obtain ⟨x8,q8,h⟩:=bs h;refine .jV q8 V (.pV V (.iV V ?_));obtain ⟨x9,q9,h⟩:=bs h;refine .Z3h H 0 V V V (at?_map q9) V V nofun V ?_;intro id2 hv2;refine .Z5e (id:=id2) H 0 V hv2 (by simp) V V V nofun V (.storeSt (id:=id2) (j:=1) (zs:=[(.int .i64 (w64 (x8 - 1)))]) (u:=x9) (u':=(Span.mk x9.From (w64 (x8 - 1)))) H 0 V hv2 (by simp) q9 V (by simp) V V V V V V nofun fun σ H => (.nila H fun H => ?_));obtain rfl:=sj h;exact (.inl ⟨_,w3,V,V,EI V,H⟩)
     refine .Zr 15 V (by kernel_rfl) H fun b9 σ H B9 => (.m1 w3 V V (.mV V (.mV V ?_)));obtain ⟨x10,q10,h⟩:=bs h;refine .jV q10 V (.pV V (.mV V (.mV V (.iV V ?_))));obtain ⟨x11,q11,h⟩:=bs h;refine .jV q11 V (.pV V (.iV V (.bV [(vi x10),(vi (w64 (x11 - 1)))] V (.Z0p (sz:=2) ([(Span.mk x10 (w64 (x11 - 1)))].map Span.cs) H (by omega) (by omega) V V V V V V V V V fun σ H => ?_))));obtain ⟨x12,q12,h⟩:=bs h;refine .Z16 (c:=Span.cs) (v:=w3) (w:=(.buf (b9 + 12) 1 2)) (xs:=s2.2) (ys:=[(Span.mk x10 (w64 (x11 - 1)))]) H (by omega) (by omega) 1 V V V (.s 0 V) q12 V V V V V (fun h => ⟨(fun id ho => .inl ⟨B9 0 _ V id ho,(fun _ => by kernel_rfl),nofun⟩),(fun id ho => .inr ⟨12,(by cases ho;rfl),(fun h => nomatch h),by kernel_rfl,by decide⟩)⟩) V fun w7 σ H => (.a1 w7 V V (.nila H fun H => ?_));obtain rfl:=sj h;exact (.inl ⟨_,w7,V,V,EI V,(H.erase 0)⟩)
    ·rintro x e σ (⟨a3,w8,rfl,rfl,he,H⟩ | ⟨a4,rfl,rfl,he,H⟩)
     ·replace h:=jgo h;obtain ⟨e,rfl⟩:=he.ex;obtain rfl:=sj h;exact ⟨w8,V,EI V,H⟩
     ·replace h:=jret h;obtain ⟨e,rfl⟩:=he.ex;obtain rfl:=sj h;exact ⟨w3,V,EI V,H⟩
   ·rintro x e σ ⟨w9,rfl,he,H⟩;obtain ⟨e,rfl⟩:=he.ex;refine .Z4 3 V H fun b10 σ H => (.mV V (.iV V (.aV V (.nila H fun H => ?_))));obtain rfl:=sj h;exact ⟨V,w9,EI V,H⟩
  refine .exit ?_;obtain rfl:=sj h;exact ⟨nofun,⟨w3,V,EI V,H⟩⟩
 ·rintro x e σ ⟨w10,rfl,he,H⟩;obtain ⟨e,rfl⟩:=he.ex;refine .tR 2 V H fun b11 σ H => (.m1 w10 V V (.a1 w10 V V (.nila H fun H => (.ret ?_))));obtain rfl:=sj h;exact (Ends.H (xs:=[w10]) (.inr V) H (.tmp (v:=w10) V .nil) (.one (.c (.s 0 V))))
theorem Z4z {f:Form} {i:Int} {s:Span} {r:Bool} (h:Z1H f i s = some r):Fn CX 42 [(.agg (vs (Form.cs f))),(vi i),(.agg (vs (Span.cs s)))] (vb r):=by
 refine Fn.go Tryz.func42 V fun σ H => ?_;unfold Z1H at h;refine .tR 3 V H fun b1 σ H => (.boxH (cs:=(vF f)) H (by omega) (by omega) V V V fun σ H => (.boxH (cs:=[(vi s.From),(vi s.To)]) H (by omega) (by omega) V V V fun σ H => (.aV V (.nila H fun H => (.tR 8 V H fun b2 σ H => (.LV (vF f) H 1 V (.mV V ?_)))))));obtain ⟨x1,q1,h⟩:=bs h;refine .cV (Z5z q1) V (.m1 (.tup [(vl Span.cs x1.1),(vi x1.2)]) V V (.xV V (.xV V (.aV V (.aV V (.nila H fun H => (.tR 11 V H fun b3 σ H => (.mV V ?_))))))));refine .iV V (.mV V ?_);obtain ⟨y1,hj1,h⟩:=bs h;refine .md H 7 [(24,(vb y1))] [] V ?_ fun e σ H => ?_
 ·refine .sp hj1 V ?_ ?_ <;> intro h
  ·refine .mV V (.LV [(vi s.From),(vi s.To)] H 0 V (.wt V V (.Z0p (sz:=2) ([s].map Span.cs) H (by omega) (by omega) V V V V V V V V V fun σ H => (.wt V V ?_))));obtain ⟨x2,q2,h⟩:=bs h;refine .Z50 (xs:=[(vi 2),(vl Span.cs x1.1),(.buf (b3 + 5) 1 2)]) (ys:=[(vi 2),(vl Span.cs x1.1),(vl Span.cs [s])]) H V (.cons (.c (.v _)) (.cons (.c (.v _)) (.cons (.c (.s 0 V)) .nil))) (Z9e q2) V V nofun V fun σ H => (.nV V (.iV V (.kT V (.nil ?_))));obtain rfl:=sj h;exact ⟨EI V,(((H.erase 2).erase 1).erase 0).wk (by omega)⟩
  refine .ps 6 V (.kF V (.nil ?_));obtain rfl:=sj h;exact ⟨EI V,((H.erase 1).erase 0).wk (by omega)⟩
 refine .aV V (.nila H fun H => (.ret ?_));obtain rfl:=sj h;exact Ends.eR V
theorem Z4b {l:(List Int)} {x':Int} {r:(List Int)} (h:Z0h l x' = some r):Fn CX 43 [(vl (cI .i64) l),(vi x')] (vl (cI .i64) r):=by
 refine Fn.go Tryz.func43 V fun σ H => ?_;unfold Z0h at h;refine .tR 1 V H fun b1 σ H => (.a1 .nils V V (.nila H fun H => (.tR 1 V H fun b2 σ H => (.a1 .nils V V (.nila H fun H => (.tR 1 V H fun b3 σ H => (.aV V (.nila H fun H => ?_))))))));refine .then (.tR 1 V H fun b4 σ H => (.aV V (.nila H fun H => (.inBlock ?_))));replace H:=H.pushNil 3 1 true;obtain ⟨y1,hj1,h⟩:=bs h;obtain ⟨n1,hj1⟩:=ZM.1 hj1;refine .mono (Runs.loopO hj1 (fun s2 e σ => ∃ (w3:PV),Z6 e [(0,(vl (cI .i64) l)),(1,(vi x')),(5,w3),(6,(vb s2.1)),(7,(vi s2.2.1))]∧Hs σ [.sl w3 3 1 (s2.2.2.map (cI .i64)) true]) (fun y1 x e σ => ∃ (w4:PV),x = .exit 0∧Z6 e [(1,(vi x')),(5,w4),(6,(vb y1.1))]∧Hs σ [.sl w4 3 1 (y1.2.map (cI .i64)) true]) ⟨.nils,EI V,H⟩ ?_) ?_
 ·intro s2 e σ hI z h;obtain ⟨w3,he,H⟩:=hI;obtain ⟨e,rfl⟩:=he.ex;unfold Z0h.s0 at h;refine .then (.tR 4 V H fun b5 σ H => (.mV V (.mV V (.nV V (.iV V (.nila H fun H => ?_))))));refine .wh h V ?_ ?_ <;> intro h
  ·refine .skip (.then ?_);obtain ⟨y2,hj2,h⟩:=bs h;refine .mono (Q:=fun x e σ => ∃ (w5:PV),x = .normal∧Z6 e [(0,(vl (cI .i64) l)),(1,(vi x')),(5,w5),(6,(vb y2.1)),(7,(vi s2.2.1))]∧Hs σ [.sl w5 3 1 (y2.2.map (cI .i64)) true]) ?_ ?_
   ·replace h:=hj2;refine .inBlock ?_;obtain ⟨y3,hj3,h⟩:=bs h;refine .mono (Q:=fun x e σ => ∃ (w6:PV),x = .normal∧Z6 e [(0,(vl (cI .i64) l)),(1,(vi x')),(5,w6),(6,(vb y3.1)),(7,(vi s2.2.1))]∧Hs σ [.sl w6 3 1 (y3.2.map (cI .i64)) true]) ?_ ?_
    ·replace h:=hj3;refine .then ?_;refine .jn h .normal (fun y4 => [(0,(vl (cI .i64) l)),(1,(vi x')),(5,w3),(6,(vb y4)),(7,(vi s2.2.1))]) (fun y4 => [.sl w3 3 1 (s2.2.2.map (cI .i64)) true]) (fun y4 h => ?_) fun y4 e σ H h => ?_
     ·refine .tR 6 V H fun b6 σ H => (.mV V (.mV V ?_));obtain ⟨x1,q1,h⟩:=bs h;refine .jV q1 V (.pV V (.mV V (.iV V (.nila H fun H => ?_))));refine .wh h V ?_ ?_ <;> intro h
      ·refine .Z4 1 V H fun b7 σ H => (.aV V (.nila H fun H => ?_));obtain rfl:=sj h;exact ⟨V,EI V,H⟩
      refine .skip ?_;obtain rfl:=sj h;exact ⟨V,EI V,H⟩
     refine .then ?_;obtain ⟨y5,hj5,h⟩:=bs h;refine .mono (Q:=fun x e σ => ∃ (w7:PV),x = .normal∧Z6 e [(0,(vl (cI .i64) l)),(1,(vi x')),(5,w7),(6,(vb y5.1)),(7,(vi s2.2.1))]∧Hs σ [.sl w7 3 1 (y5.2.map (cI .i64)) true]) ?_ ?_
     ·replace h:=hj5;refine .tR 10 V H fun b8 σ H => (.mV V (.tV V (.mV V ?_)));obtain ⟨y6,hj6,h⟩:=bs h;refine .md H 7 [(29,(vb y6)),(0,(vl (cI .i64) l)),(1,(vi x')),(5,w3),(6,(vb y4)),(7,(vi s2.2.1))] [.sl w3 3 1 (s2.2.2.map (cI .i64)) true] V ?_ fun e σ H => ?_
      ·refine .sp hj6 V ?_ ?_ <;> intro h
       ·refine .mV V (.mV V (.wt V V ?_));obtain ⟨x2,q2,h⟩:=bs h;refine .jV q2 V (.pV V (.mV V (.iV V (.kT V (.nil ?_)))));obtain rfl:=sj h;exact ⟨EI V,H.wk (by omega)⟩
       refine .ps 6 V (.kF V (.nil ?_));obtain rfl:=sj h;exact ⟨EI V,H.wk (by omega)⟩
      refine .nila H fun H => ?_;refine .wh h V ?_ ?_ <;> intro h
      ·refine .tR 5 V H fun b9 σ H => (.m1 w3 V V (.mV V (.Z0p (sz:=1) ([x'].map (cI .i64)) H (by omega) (by omega) V V V V V V V V V fun σ H => ?_)));obtain ⟨x3,q3,h⟩:=bs h;refine .Z16 (c:=(cI .i64)) (v:=w3) (w:=(.buf (b9 + 2) 1 1)) (xs:=s2.2.2) (ys:=[x']) H (by omega) (by omega) 1 V V V (.s 0 V) q3 V V V V V nofun V fun w8 σ H => (.a1 w8 V V (.nila H fun H => (.Z4 1 V H fun b10 σ H => (.aV V (.nila H fun H => ?_)))));obtain rfl:=sj h;exact ⟨w8,V,EI V,(H.erase 0)⟩
      refine .skip ?_;obtain rfl:=sj h;exact ⟨w3,V,EI V,H⟩
     ·rintro x e σ ⟨w9,rfl,he,H⟩;obtain ⟨e,rfl⟩:=he.ex;refine .Z4 8 V H fun b11 σ H => (.m1 w9 V V (.mV V (.mV V ?_)));obtain ⟨x4,q4,h⟩:=bs h;refine .jV q4 V (.pV V (.Z0p (sz:=1) ([x4].map (cI .i64)) H (by omega) (by omega) V V V V V V V V V fun σ H => ?_));obtain ⟨x5,q5,h⟩:=bs h;refine .Z16 (c:=(cI .i64)) (v:=w9) (w:=(.buf (b11 + 5) 1 1)) (xs:=y5.2) (ys:=[x4]) H (by omega) (by omega) 1 V V V (.s 0 V) q5 V V V V V nofun V fun w10 σ H => (.a1 w10 V V (.nila H fun H => ?_));obtain rfl:=sj h;exact ⟨w10,V,EI V,(H.erase 0)⟩
    ·rintro x e σ ⟨w11,rfl,he,H⟩;obtain ⟨e,rfl⟩:=he.ex;obtain rfl:=sj h;exact ⟨w11,V,EI V,H⟩
   ·rintro x e σ ⟨w12,rfl,he,H⟩;obtain ⟨e,rfl⟩:=he.ex;refine .Z4 3 V H fun b12 σ H => (.mV V (.iV V (.aV V (.nila H fun H => ?_))));obtain rfl:=sj h;exact ⟨V,w12,EI V,H⟩
  refine .exit ?_;obtain rfl:=sj h;exact ⟨nofun,⟨w3,V,EI V,H⟩⟩
 ·rintro x e σ ⟨w13,rfl,he,H⟩;obtain ⟨e,rfl⟩:=he.ex;refine .then ?_;obtain ⟨y7,hj7,h⟩:=bs h;refine .mono (Q:=fun x e σ => ∃ (w14:PV),x = .normal∧Z6 e [(5,w14)]∧Hs σ [.sl w14 3 1 (y7.map (cI .i64)) true]) ?_ ?_
  ·replace h:=hj7;refine .tR 2 V H fun b13 σ H => (.mV V (.tV V (.nila H fun H => ?_)));refine .wh h V ?_ ?_ <;> intro h
   ·refine .Z4 5 V H fun b14 σ H => (.m1 w13 V V (.mV V (.Z0p (sz:=1) ([x'].map (cI .i64)) H (by omega) (by omega) V V V V V V V V V fun σ H => ?_)));obtain ⟨x6,q6,h⟩:=bs h;refine .Z16 (c:=(cI .i64)) (v:=w13) (w:=(.buf (b14 + 2) 1 1)) (xs:=y1.2) (ys:=[x']) H (by omega) (by omega) 1 V V V (.s 0 V) q6 V V V V V nofun V fun w15 σ H => (.a1 w15 V V (.nila H fun H => ?_));obtain rfl:=sj h;exact ⟨w15,V,EI V,(H.erase 0)⟩
   refine .skip ?_;obtain rfl:=sj h;exact ⟨w13,V,EI V,H⟩
  ·rintro x e σ ⟨w16,rfl,he,H⟩;obtain ⟨e,rfl⟩:=he.ex;refine .tR 2 V H fun b15 σ H => (.m1 w16 V V (.a1 w16 V V (.nila H fun H => (.ret ?_))));obtain rfl:=sj h;exact (Ends.H (xs:=[w16]) (.inr V) H (.tmp (v:=w16) V .nil) (.one (.c (.s 0 V))))
theorem Z8z {f:Form} {s:Span} {r:(List Int)} (h:ZP f s = some r):Fn CX 22 [(.agg (vs (Form.cs f))),(.agg (vs (Span.cs s)))] (vl (cI .i64) r):=by
 refine Fn.go Tryz.func22 V fun σ H => ?_;unfold ZP at h;refine .tR 3 V H fun b1 σ H => (.boxH (cs:=(vF f)) H (by omega) (by omega) V V V fun σ H => (.boxH (cs:=[(vi s.From),(vi s.To)]) H (by omega) (by omega) V V V fun σ H => (.a1 .nils V V (.nila H fun H => (.tR 1 V H fun b2 σ H => (.a1 .nils V V (.nila H fun H => (.then ?_))))))));refine .tR 1 V H fun b3 σ H => (.aV V (.nila H fun H => (.inBlock ?_)));obtain ⟨y1,hj1,h⟩:=bs h;obtain ⟨n1,hj1⟩:=ZM.1 hj1;refine .mono (Runs.loopO hj1 (fun s1 e σ => ∃ (w3:PV),RO w3 (s1.1.map (cI .i64))∧Z6 e [(2,(.ptr (b1 + 0) 4 0)),(3,(.ptr (b1 + 1) 2 0)),(5,w3),(6,(vi s1.2))]∧Hs σ [.blk (b1 + 1) 46 [(vi s.From),(vi s.To)],.blk (b1 + 0) 25 (vF f)]) (fun y1 x e σ => ∃ (w4:PV),RO w4 (y1.map (cI .i64))∧x = .exit 0∧Z6 e [(2,(.ptr (b1 + 0) 4 0)),(3,(.ptr (b1 + 1) 2 0)),(5,w4)]∧Hs σ [.blk (b1 + 1) 46 [(vi s.From),(vi s.To)],.blk (b1 + 0) 25 (vF f)]) ⟨.nils,.inl ⟨V,V⟩,EI V,H⟩ ?_) ?_
 ·intro s1 e σ hI z h;obtain ⟨w3,hw3,he,H⟩:=hI;obtain ⟨e,rfl⟩:=he.ex;unfold ZP.s0 at h;refine .then (.tR 4 V H fun b4 σ H => (.mV V (.fV H 1 V (.lV H 1 V (.iV V (.nila H fun H => ?_))))));refine .wh h V ?_ ?_ <;> intro h
  ·refine .skip (.then ?_);obtain ⟨y2,hj2,h⟩:=bs h;refine .mono (Q:=fun x e σ => ∃ (w5:PV),RO w5 (y2.map (cI .i64))∧x = .normal∧Z6 e [(2,(.ptr (b1 + 0) 4 0)),(3,(.ptr (b1 + 1) 2 0)),(5,w5),(6,(vi s1.2))]∧Hs σ [.blk (b1 + 1) 46 [(vi s.From),(vi s.To)],.blk (b1 + 0) 25 (vF f)]) ?_ ?_
   ·replace h:=hj2;refine .inBlock (.tR 6 V H fun b5 σ H => (.fV H 1 V (.lV H 1 V (.mV V ?_))));obtain ⟨x1,q1,h⟩:=bs h;refine .jV q1 V (.pV V (.aV V (.nila H fun H => (.then (.tR 3 V H fun b6 σ H => (.mV V (.nV V (.iV V ?_))))))));refine .nila H fun H => ?_;refine .wh h V ?_ ?_ <;> intro h
    ·refine .exit ?_;obtain rfl:=sj h;exact ⟨w3,hw3,V,EI V,H⟩
    refine .skip (.then (.Zr 18 V (by kernel_rfl) H fun b7 σ H B7 => (.ZA H 0 V V V V V (fun _ => .inl ⟨B7 0 _ V _ V,nofun,(fun _ => by kernel_rfl)⟩) V (.ld (vi s.From) H 0 V V V V V (fun _ => .inl ⟨B7 0 _ V _ V,nofun,(fun _ => by kernel_rfl)⟩) V (.mV V (.mV V (.nV V (.iV V ?_))))))));obtain ⟨x2,q2,h⟩:=bs h;refine .jV q2 V (.Z8 V V V V (.pV V (.iV V (.ZA H 1 V V V V V (fun _ => .inl ⟨B7 1 _ V _ V,nofun,(fun _ => by kernel_rfl)⟩) V (.ld (vi f.Period) H 1 V V V V V (fun _ => .inl ⟨B7 1 _ V _ V,nofun,(fun _ => by kernel_rfl)⟩) V ?_)))));obtain ⟨x3,q3,h⟩:=bs h;refine .cV (Z3g q3) V (.m1 (.tup [(vi x3.1),(vi x3.2)]) V V (.xV V (.xV V (.aV V (.aV V (.nila H fun H => (.then (.Zr 15 V (by kernel_rfl) H fun b8 σ H B8 => ?_))))))));refine .ZA H 0 V V V V V (fun _ => .inl ⟨B8 0 _ V _ V,nofun,(fun _ => by kernel_rfl)⟩) V (.ld (vi s.To) H 0 V V V V V (fun _ => .inl ⟨B8 0 _ V _ V,nofun,(fun _ => by kernel_rfl)⟩) V (.mV V ?_));obtain ⟨x4,q4,h⟩:=bs h;refine .jV q4 V (.Z8 V V V V (.pV V (.iV V (.ZA H 1 V V V V V (fun _ => .inl ⟨B8 1 _ V _ V,nofun,(fun _ => by kernel_rfl)⟩) V (.ld (vi f.Period) H 1 V V V V V (fun _ => .inl ⟨B8 1 _ V _ V,nofun,(fun _ => by kernel_rfl)⟩) V ?_)))));obtain ⟨x5,q5,h⟩:=bs h;refine .cV (Z3g q5) V (.m1 (.tup [(vi x5.1),(vi x5.2)]) V V (.xV V (.xV V (.aV V (.aV V (.nila H fun H => (.tR 2 V H fun b9 σ H => (.mV V ?_))))))));refine .aV V (.nila H fun H => (.inBlock ?_))
    obtain ⟨y3,hj3,h⟩:=bs h;obtain ⟨n2,hj3⟩:=ZM.1 hj3;refine .mono (Runs.loopO hj3 (fun s2 e σ => ∃ (w8:PV),RO w8 (s2.1.map (cI .i64))∧Z6 e [(2,(.ptr (b1 + 0) 4 0)),(3,(.ptr (b1 + 1) 2 0)),(5,w8),(6,(vi s1.2)),(10,(vi x5.1)),(12,(vi s2.2))]∧Hs σ [.blk (b1 + 1) 46 [(vi s.From),(vi s.To)],.blk (b1 + 0) 25 (vF f)]) (fun y3 x e σ => ∃ (w9:PV),RO w9 (y3.map (cI .i64))∧x = .exit 2∧Z6 e [(2,(.ptr (b1 + 0) 4 0)),(3,(.ptr (b1 + 1) 2 0)),(5,w9),(6,(vi s1.2))]∧Hs σ [.blk (b1 + 1) 46 [(vi s.From),(vi s.To)],.blk (b1 + 0) 25 (vF f)]) ⟨w3,hw3,EI V,H⟩ ?_) ?_
    ·intro s2 e σ hI z h;obtain ⟨w8,hw8,he,H⟩:=hI;obtain ⟨e,rfl⟩:=he.ex;unfold ZP.s1 at h;refine .then (.tR 4 V H fun b10 σ H => (.mV V (.mV V (.iV V (.iV V (.nila H fun H => ?_))))));refine .wh h V ?_ ?_ <;> intro h
     ·refine .skip (.then ?_);obtain ⟨y4,hj4,h⟩:=bs h;refine .mono (Q:=fun x e σ => ∃ (w10:PV),RO w10 (y4.map (cI .i64))∧x = .normal∧Z6 e [(2,(.ptr (b1 + 0) 4 0)),(3,(.ptr (b1 + 1) 2 0)),(5,w10),(6,(vi s1.2)),(10,(vi x5.1)),(12,(vi s2.2))]∧Hs σ [.blk (b1 + 1) 46 [(vi s.From),(vi s.To)],.blk (b1 + 0) 25 (vF f)]) ?_ ?_
      ·replace h:=hj4;refine .inBlock ?_;obtain ⟨y5,hj5,h⟩:=bs h;refine .mono (Q:=fun x e σ => ∃ (w11:PV),RO w11 (y5.map (cI .i64))∧x = .normal∧Z6 e [(2,(.ptr (b1 + 0) 4 0)),(3,(.ptr (b1 + 1) 2 0)),(5,w11),(6,(vi s1.2)),(10,(vi x5.1)),(12,(vi s2.2))]∧Hs σ [.blk (b1 + 1) 46 [(vi s.From),(vi s.To)],.blk (b1 + 0) 25 (vF f)]) ?_ ?_
       ·replace h:=hj5;refine .tR 9 V H fun b11 σ H => (.LV (vF f) H 1 V (.mV V (.fV H 1 V (.lV H 1 V (.iV V (.mV V (.iV V (.LV [(vi s.From),(vi s.To)] H 0 V ?_))))))));obtain ⟨x6,q6,h⟩:=bs h;refine .cV (Z4z q6) V (.nila H fun H => ?_);refine .wh h V ?_ ?_ <;> intro h
        ·refine .Z4 9 V H fun b12 σ H => (.m1 w8 V V (.mV V (.fV H 1 V (.lV H 1 V (.iV V (.mV V (.iV V ?_)))))));obtain ⟨x7,q7,h⟩:=bs h;refine .Z50 (xs:=[w8,(vi (w64 ((w64 (s2.2 * f.Count)) + s1.2)))]) (ys:=[(vl (cI .i64) s2.1),(vi (w64 ((w64 (s2.2 * f.Count)) + s1.2)))]) H V (.cons (.c (.ro hw8)) (.cons (.c (.v _)) .nil)) (Z4b q7) V V nofun V fun σ H => (.aV V (.nila H fun H => ?_));obtain rfl:=sj h;exact ⟨(vl (cI .i64) x7),.inr V,V,EI V,H⟩
        refine .skip ?_;obtain rfl:=sj h;exact ⟨w8,hw8,V,EI V,H⟩
       ·rintro x e σ ⟨w12,hw12,rfl,he,H⟩;obtain ⟨e,rfl⟩:=he.ex;obtain rfl:=sj h;exact ⟨w12,hw12,V,EI V,H⟩
      ·rintro x e σ ⟨w13,hw13,rfl,he,H⟩;obtain ⟨e,rfl⟩:=he.ex;refine .Z4 3 V H fun b13 σ H => (.mV V (.iV V (.aV V (.nila H fun H => ?_))));obtain rfl:=sj h;exact ⟨V,w13,hw13,EI V,H⟩
     refine .exit ?_;obtain rfl:=sj h;exact ⟨nofun,⟨w8,hw8,V,EI V,H⟩⟩
    ·rintro x e σ ⟨w14,hw14,rfl,he,H⟩;obtain ⟨e,rfl⟩:=he.ex;obtain rfl:=sj h;exact ⟨w14,hw14,V,EI V,H⟩
   ·rintro x e σ ⟨w15,hw15,rfl,he,H⟩;obtain ⟨e,rfl⟩:=he.ex;refine .Z4 3 V H fun b14 σ H => (.mV V (.iV V (.aV V (.nila H fun H => ?_))));obtain rfl:=sj h;exact ⟨V,w15,hw15,EI V,H⟩
  refine .exit ?_;obtain rfl:=sj h;exact ⟨nofun,⟨w3,hw3,V,EI V,H⟩⟩
 ·rintro x e σ ⟨w16,hw16,rfl,he,H⟩;obtain ⟨e,rfl⟩:=he.ex;refine .then (.tR 1 V H fun b15 σ H => (.aV V (.nila H fun H => (.inBlock ?_))));obtain ⟨y6,hj6,h⟩:=bs h;obtain ⟨n3,hj6⟩:=ZM.1 hj6;refine .mono (Runs.loopO hj6 (fun s3 e σ => ∃ (w19:PV),RO w19 (s3.1.map (cI .i64))∧Z6 e [(2,(.ptr (b1 + 0) 4 0)),(3,(.ptr (b1 + 1) 2 0)),(5,w19),(13,(vi s3.2))]∧Hs σ [.blk (b1 + 1) 46 [(vi s.From),(vi s.To)],.blk (b1 + 0) 25 (vF f)]) (fun y6 x e σ => ∃ (w20:PV),RO w20 (y6.map (cI .i64))∧x = .exit 4∧Z6 e [(5,w20)]∧Hs σ []) ⟨w16,hw16,EI V,H⟩ ?_) ?_
  ·intro s3 e σ hI z h;obtain ⟨w19,hw19,he,H⟩:=hI;obtain ⟨e,rfl⟩:=he.ex;unfold ZP.s2 at h;refine .then (.tR 5 V H fun b16 σ H => (.mV V (.fV H 1 V (.lV H 1 V (.nV V (.iV V (.nila H fun H => ?_)))))));refine .wh h V ?_ ?_ <;> intro h
   ·refine .skip (.then ?_);obtain ⟨y7,hj7,h⟩:=bs h;refine .mono (Q:=fun x e σ => ∃ (w21:PV),RO w21 (y7.map (cI .i64))∧x = .normal∧Z6 e [(2,(.ptr (b1 + 0) 4 0)),(3,(.ptr (b1 + 1) 2 0)),(5,w21),(13,(vi s3.2))]∧Hs σ [.blk (b1 + 1) 46 [(vi s.From),(vi s.To)],.blk (b1 + 0) 25 (vF f)]) ?_ ?_
    ·replace h:=hj7;refine .inBlock ?_;obtain ⟨y8,hj8,h⟩:=bs h;refine .mono (Q:=fun x e σ => ∃ (w22:PV),RO w22 (y8.map (cI .i64))∧x = .normal∧Z6 e [(2,(.ptr (b1 + 0) 4 0)),(3,(.ptr (b1 + 1) 2 0)),(5,w22),(13,(vi s3.2))]∧Hs σ [.blk (b1 + 1) 46 [(vi s.From),(vi s.To)],.blk (b1 + 0) 25 (vF f)]) ?_ ?_
     ·replace h:=hj8;refine .then (.Zr 9 V (by kernel_rfl) H fun b17 σ H B17 => (.Z1f (cs:=(vF f)) H 1 V V V V V V V (fun _ => .inl ⟨B17 1 _ V _ V,nofun,(fun _ => by kernel_rfl)⟩) V (.ZA H 1 V V V V V (fun _ => .inl ⟨B17 1 _ V _ V,nofun,(fun _ => by kernel_rfl)⟩) V (.ld (vl Granule.cs f.Odd) H 1 V V V V V (fun _ => .inl ⟨B17 1 _ V _ V,nofun,(fun _ => by kernel_rfl)⟩) V (.mV V ?_)))));obtain ⟨x8,q8,h⟩:=bs h;refine .jV q8 V (.Z8 V V V V (.pV V (.Z1f (cs:=[(vi s.From),(vi s.To)]) H 0 V V V V V V V (fun _ => .inl ⟨B17 0 _ V _ V,nofun,(fun _ => by kernel_rfl)⟩) V ?_)));obtain ⟨x9,q9,h⟩:=bs h;refine .cV (Z4z q9) V (.nila H fun H => ?_);refine .wh h V ?_ ?_ <;> intro h
      ·refine .Z4 9 V H fun b18 σ H => (.m1 w19 V V (.fV H 1 V (.lV H 1 V (.mV V ?_))));obtain ⟨x10,q10,h⟩:=bs h;refine .jV q10 V (.Z8 V V V V (.pV V ?_));obtain ⟨x11,q11,h⟩:=bs h;refine .Z50 (xs:=[w19,(vi x10.Index)]) (ys:=[(vl (cI .i64) s3.1),(vi x10.Index)]) H V (.cons (.c (.ro hw19)) (.cons (.c (.v _)) .nil)) (Z4b q11) V V nofun V fun σ H => (.aV V (.nila H fun H => ?_));obtain rfl:=sj h;exact ⟨(vl (cI .i64) x11),.inr V,V,EI V,H⟩
      refine .skip ?_;obtain rfl:=sj h;exact ⟨w19,hw19,V,EI V,H⟩
     ·rintro x e σ ⟨w23,hw23,rfl,he,H⟩;obtain ⟨e,rfl⟩:=he.ex;obtain rfl:=sj h;exact ⟨w23,hw23,V,EI V,H⟩
    ·rintro x e σ ⟨w24,hw24,rfl,he,H⟩;obtain ⟨e,rfl⟩:=he.ex;refine .Z4 3 V H fun b19 σ H => (.mV V (.iV V (.aV V (.nila H fun H => ?_))));obtain rfl:=sj h;exact ⟨V,w24,hw24,EI V,H⟩
   refine .exit ?_;obtain rfl:=sj h;exact ⟨nofun,⟨w19,hw19,V,EI V,((H.erase 1).erase 0)⟩⟩
  ·rintro x e σ ⟨w25,hw25,rfl,he,H⟩;obtain ⟨e,rfl⟩:=he.ex;refine .tR 2 V H fun b20 σ H => (.m1 w25 V V (.a1 w25 V V (.nila H fun H => (.ret ?_))));obtain rfl:=sj h;exact (Ends.H (xs:=[w25]) (.inr V) H (.tmp (v:=w25) V .nil) (.one (.c (.ro hw25))))
theorem Z93 {f:Form} {r:(List epactref22_Place)} (h:Z0a f = some r):Fn CX 7 [(.agg (vs (Form.cs f)))] (vl epactref22_Place.cs r):=by
 refine Fn.go Tryz.func7 V fun σ H => ?_;unfold Z0a at h;refine .tR 2 V H fun b1 σ H => (.boxH (cs:=(vF f)) H (by omega) (by omega) V V V fun σ H => (.a1 .nils V V (.nila H fun H => (.tR 1 V H fun b2 σ H => (.a1 .nils V V (.nila H fun H => (.tR 4 V H fun b3 σ H => (.LV (vF f) H 0 V ?_))))))));refine .bV [(vi (-1200)),(vi 1200)] V ?_;obtain ⟨x1,q1,h⟩:=bs h;refine .cV (Z8z q1) V (.aV V (.nila H fun H => (.then (.tR 1 V H fun b4 σ H => (.aV V (.nila H fun H => (.inBlock ?_)))))));replace H:=H.pushNil 60 3 true;obtain ⟨y1,hj1,h⟩:=bs h;obtain ⟨n1,hj1⟩:=ZM.1 hj1;refine .mono (Runs.loopO hj1 (fun s2 e σ => ∃ (w3:PV),Z6 e [(1,(.ptr (b1 + 0) 4 0)),(3,w3),(4,(vl (cI .i64) x1)),(5,(vi s2.1))]∧Hs σ [.sl w3 60 3 (s2.2.map epactref22_Place.cs) true,.blk (b1 + 0) 25 (vF f)]) (fun y1 x e σ => ∃ (w4:PV),x = .exit 0∧Z6 e [(3,w4)]∧Hs σ [.sl w4 60 3 (y1.map epactref22_Place.cs) true]) ⟨.nils,EI V,H⟩ ?_) ?_
 ·intro s2 e σ hI z h;obtain ⟨w3,he,H⟩:=hI;obtain ⟨e,rfl⟩:=he.ex;unfold Z0a.s0 at h;refine .then (.tR 4 V H fun b5 σ H => (.mV V (.mV V (.nV V (.iV V (.nila H fun H => ?_))))));refine .wh h V ?_ ?_ <;> intro h
  ·refine .skip (.then (.inBlock (.then (.Zr 11 V (by kernel_rfl) H fun b6 σ H B6 => (.Z1f (cs:=(vF f)) H 1 V V V V V V V (fun _ => .inl ⟨B6 1 _ V _ V,nofun,(fun _ => by kernel_rfl)⟩) V (.mV V (.mV V ?_)))))));obtain ⟨x2,q2,h⟩:=bs h;refine .jV q2 V (.pV V ?_);obtain ⟨x3,q3,h⟩:=bs h;refine .cV (Z5z q3) V (.m1 (.tup [(vl Span.cs x3.1),(vi x3.2)]) V V (.xV V (.xV V (.aV V (.aV V (.nila H fun H => (.Zr 20 V (by kernel_rfl) H fun b7 σ H B7 => (.m1 w3 V V ?_))))))));refine .mV V (.mV V ?_);obtain ⟨x4,q4,h⟩:=bs h;refine .jV q4 V (.pV V (.mV V ?_));obtain ⟨x5,q5,h⟩:=bs h;refine .jV q5 V (.Z8 V V V V (.pV V (.mV V (.mV V (.nV V (.iV V ?_))))));obtain ⟨x6,q6,h⟩:=bs h;refine .jV q6 V (.Z8 V V V V (.pV V (.bV [(vi x4),(vi x5.From),(vi x6.To)] V (.Z0p (sz:=3) ([(epactref22_Place.mk x4 x5.From x6.To)].map epactref22_Place.cs) H (by omega) (by omega) V V V V V V V V V fun σ H => ?_))));obtain ⟨x7,q7,h⟩:=bs h;refine .Z16 (c:=epactref22_Place.cs) (v:=w3) (w:=(.buf (b7 + 17) 1 3)) (xs:=s2.2) (ys:=[(epactref22_Place.mk x4 x5.From x6.To)]) H (by omega) (by omega) 1 V V V (.s 0 V) q7 V V V V V (fun h => ⟨(fun id ho => .inl ⟨B7 0 _ V id ho,(fun _ => by kernel_rfl),nofun⟩),(fun id ho => .inr ⟨17,(by cases ho;rfl),(fun h => nomatch h),by kernel_rfl,by decide⟩)⟩) V fun w5 σ H => (.a1 w5 V V (.nila H fun H => (.Z4 3 V H fun b8 σ H => (.mV V (.iV V (.aV V (.nila H fun H => ?_)))))));obtain rfl:=sj h
   exact ⟨V,w5,EI V,(H.erase 0)⟩
  refine .exit ?_;obtain rfl:=sj h;exact ⟨nofun,⟨w3,V,EI V,(H.erase 1)⟩⟩
 ·rintro x e σ ⟨w6,rfl,he,H⟩;obtain ⟨e,rfl⟩:=he.ex;refine .tR 2 V H fun b9 σ H => (.m1 w6 V V (.a1 w6 V V (.nila H fun H => (.ret ?_))));obtain rfl:=sj h;exact (Ends.H (xs:=[w6]) (.inr V) H (.tmp (v:=w6) V .nil) (.one (.c (.s 0 V))))
theorem Z9E {l:(List epactref22_Place)} {index:Int} {r:Int} (h:Z0R l index = some r):Fn CX 24 [(vl epactref22_Place.cs l),(vi index)] (vi r):=by
 refine Fn.go Tryz.func24 V fun σ H => ?_;unfold Z0R at h;refine .tR 1 V H fun b1 σ H => (.aV V (.nila H fun H => (.tR 4 V H fun b2 σ H => (.mV V (.nV V (.aV V (.aV V (.nila H fun H => ?_))))))));refine .then (.inBlock ?_);refine .lp h (fun s1 => [(0,(vl epactref22_Place.cs l)),(1,(vi index)),(5,(vi s1.1)),(6,(vi s1.2))]) (fun s1 => []) (.exit 0) (fun y1 => [(0,(vl epactref22_Place.cs l)),(1,(vi index)),(5,(vi y1))]) (fun y1 => []) (EI V) H (fun s1 e σ H z h => ?_) fun y1 e σ H h => ?_
 ·unfold Z0R.s0 at h;refine .then (.tR 3 V H fun b3 σ H => (.mV V (.mV V (.iV V (.nila H fun H => ?_)))));refine .wh h V ?_ ?_ <;> intro h
  ·refine .skip (.inBlock ?_);refine .jn h .normal (fun y2 => [(0,(vl epactref22_Place.cs l)),(1,(vi index)),(5,(vi y2.1)),(6,(vi y2.2))]) (fun y2 => []) (fun y2 h => ?_) fun y2 e σ H h => ?_
   ·refine .tR 5 V H fun b4 σ H => (.mV V (.mV V (.iV V (.quo (m:=(w64 (s1.1 + s1.2))) (m':=2) V V (by decide) V (.aV V (.nila H fun H => (.tR 7 V H fun b5 σ H => (.mV V ?_))))))));refine .mV V ?_;obtain ⟨x1,q1,h⟩:=bs h;refine .jV q1 V (.Z8 V V V V (.pV V (.mV V (.iV V (.nila H fun H => ?_)))));refine .wh h V ?_ ?_ <;> intro h
    ·refine .Z4 3 V H fun b6 σ H => (.mV V (.iV V (.aV V (.nila H fun H => ?_))));obtain rfl:=sj h;exact ⟨V,EI V,H⟩
    refine .Z4 2 V H fun b7 σ H => (.mV V (.aV V (.nila H fun H => ?_)));obtain rfl:=sj h;exact ⟨V,EI V,H⟩
   obtain rfl:=sj h;exact ⟨V,EI V,H⟩
  refine .exit ?_;obtain rfl:=sj h;exact ⟨nofun,⟨V,EI V,H⟩⟩
 refine .then (.tR 13 V H fun b8 σ H => (.mV V (.mV V (.nV V (.iV V (.mV V ?_))))));obtain ⟨y3,hj3,h⟩:=bs h;refine .md H 8 [(39,(vb y3)),(5,(vi y1))] [] V ?_ fun e σ H => ?_
 ·refine .sp hj3 V ?_ ?_ <;> intro h
  ·refine .mV V (.mV V (.wt V V ?_));obtain ⟨x2,q2,h⟩:=bs h;refine .jV q2 V (.wt V V (.Z8 V V V V (.pV V (.mV V (.iV V (.kT V (.nil ?_)))))));obtain rfl:=sj h;exact ⟨EI V,H.wk (by omega)⟩
  refine .ps 7 V (.kF V (.nil ?_));obtain rfl:=sj h;exact ⟨EI V,H.wk (by omega)⟩
 refine .nila H fun H => ?_;refine .wh h V ?_ ?_ <;> intro h
 ·refine .tR 2 V H fun b9 σ H => (.mV V (.aV V (.nila H fun H => (.ret ?_))));obtain rfl:=sj h;exact Ends.eR V
 refine .skip (.tR 1 V H fun b10 σ H => (.aV V (.nila H fun H => (.ret ?_))));obtain rfl:=sj h;exact Ends.eR V
theorem Z9f {l:(List epactref22_Place)} {k:Int} {r:Int × Int × Bool} (h:Z0q l k = some r):Fn CX 8 [(vl epactref22_Place.cs l),(vi k)] (.tup [(vi r.1),(vi r.2.1),(vb r.2.2)]):=by
 refine Fn.go Tryz.func8 V fun σ H => ?_;unfold Z0q at h;refine .tR 3 V H fun b1 σ H => (.aV V (.aV V (.aV V (.nila H fun H => (.tR 3 V H fun b2 σ H => (.aV V (.aV V (.aV V ?_))))))));refine .nila H fun H => (.then (.tR 1 V H fun b3 σ H => (.aV V (.nila H fun H => (.inBlock ?_)))));refine .lp h (fun s1 => [(0,(vl epactref22_Place.cs l)),(1,(vi k)),(7,(vi s1.1)),(8,(vi s1.2.1)),(9,(vb s1.2.2.1)),(10,(vi s1.2.2.2))]) (fun s1 => []) (.exit 0) (fun y1 => [(7,(vi y1.1)),(8,(vi y1.2.1)),(9,(vb y1.2.2))]) (fun y1 => []) (EI V) H (fun s1 e σ H z h => ?_) fun y1 e σ H h => ?_
 ·unfold Z0q.s0 at h;refine .then (.tR 4 V H fun b4 σ H => (.mV V (.mV V (.nV V (.iV V (.nila H fun H => ?_))))));refine .wh h V ?_ ?_ <;> intro h
  ·refine .skip (.then ?_);refine .jn h .normal (fun y2 => [(0,(vl epactref22_Place.cs l)),(1,(vi k)),(7,(vi y2.1)),(8,(vi y2.2.1)),(9,(vb y2.2.2)),(10,(vi s1.2.2.2))]) (fun y2 => []) (fun y2 h => ?_) fun y2 e σ H h => ?_
   ·refine .inBlock ?_;obtain ⟨y3,hj3,h⟩:=bs h;refine .mono (Q:=fun x e σ => (∃ a1,y3 = (.go a1)∧x = .normal∧Z6 e [(0,(vl epactref22_Place.cs l)),(1,(vi k)),(7,(vi a1.1)),(8,(vi a1.2)),(9,(vb true)),(10,(vi s1.2.2.2))]∧Hs σ [])∨(∃ a2,y3 = (.ret a2)∧x = .exit 1∧Z6 e [(0,(vl epactref22_Place.cs l)),(1,(vi k)),(7,(vi s1.1)),(8,(vi s1.2.1)),(9,(vb s1.2.2.1)),(10,(vi s1.2.2.2))]∧Hs σ [])) ?_ ?_
    ·replace h:=hj3;refine .tR 10 V H fun b5 σ H => (.mV V (.mV V (.mV V ?_)));obtain ⟨x1,q1,h⟩:=bs h;refine .jV q1 V (.Z8 V V V V (.pV V (.mV V (.iV V ?_))));obtain ⟨x2,q2,h⟩:=bs h;refine .cV (Z9E q2) V (.aV V (.nila H fun H => (.then (.tR 2 V H fun b6 σ H => (.mV V (.iV V (.nila H fun H => ?_)))))));refine .wh h V ?_ ?_ <;> intro h
     ·refine .exit ?_;obtain rfl:=sj h;exact (.inr ⟨_,V,V,EI V,H⟩)
     refine .skip (.then (.Zr 24 V (by kernel_rfl) H fun b7 σ H B7 => (.mV V (.mV V ?_))));obtain ⟨x3,q3,h⟩:=bs h;refine .jV q3 V (.Z8 V V V V (.pV V (.mV V (.mV V ?_))));obtain ⟨x4,q4,h⟩:=bs h;refine .jV q4 V (.Z8 V V V V (.pV V (.iV V (.mV V (.mV V ?_)))));obtain ⟨x5,q5,h⟩:=bs h;refine .jV q5 V (.Z8 V V V V (.pV V (.mV V (.mV V ?_))));obtain ⟨x6,q6,h⟩:=bs h;refine .jV q6 V (.Z8 V V V V (.pV V (.iV V (.aV V (.aV V (.nila H fun H => (.then ?_)))))));refine .jn h .normal (fun y4 => [(0,(vl epactref22_Place.cs l)),(1,(vi k)),(7,(vi y4.1)),(8,(vi s1.2.1)),(9,(vb s1.2.2.1)),(10,(vi s1.2.2.2)),(13,(vi y4.2))]) (fun y4 => []) (fun y4 h => ?_) fun y4 e σ H h => ?_
     ·refine .tR 7 V H fun b8 σ H => (.mV V (.tV V (.mV V ?_)));refine .md H 4 [(59,(vb ((!s1.2.2.1) || (decide ((w64 (x3.First - x4.Last)) < s1.1))))),(0,(vl epactref22_Place.cs l)),(1,(vi k)),(7,(vi s1.1)),(8,(vi s1.2.1)),(9,(vb s1.2.2.1)),(10,(vi s1.2.2.2)),(12,(vi (w64 (x3.First - x4.Last)))),(13,(vi (w64 (x5.Last - x6.First))))] [] rfl ?_ fun e σ H => ?_
      ·refine .split V V ?_ ?_ <;> intro hc3
       ·refine .ps 3 V (.kT V (.nil ?_));exact ⟨⟨or_T hc3,V,V,V,V,V,V,V,V,U⟩,H.wk (by omega)⟩
       ·refine .mV V (.mV V (.iV V (.kF V (.nil ?_))));exact ⟨⟨or_F hc3,V,V,V,V,V,V,V,V,U⟩,H.wk (by omega)⟩
      refine .nila H fun H => ?_;refine .wh h V ?_ ?_ <;> intro h
      ·refine .Z4 2 V H fun b9 σ H => (.mV V (.aV V (.nila H fun H => ?_)));obtain rfl:=sj h;exact ⟨V,EI V,H⟩
      refine .skip ?_;obtain rfl:=sj h;exact ⟨V,EI V,H⟩
     refine .then ?_;refine .jn h .normal (fun y5 => [(0,(vl epactref22_Place.cs l)),(1,(vi k)),(7,(vi y4.1)),(8,(vi y5)),(10,(vi s1.2.2.2))]) (fun y5 => []) (fun y5 h => ?_) fun y5 e σ H h => ?_
     ·refine .tR 7 V H fun b10 σ H => (.mV V (.tV V (.mV V ?_)));refine .md H 4 [(67,(vb ((!s1.2.2.1) || (decide (y4.2 > s1.2.1))))),(0,(vl epactref22_Place.cs l)),(1,(vi k)),(7,(vi y4.1)),(8,(vi s1.2.1)),(10,(vi s1.2.2.2)),(13,(vi y4.2))] [] rfl ?_ fun e σ H => ?_
      ·refine .split V V ?_ ?_ <;> intro hc5
       ·refine .ps 3 V (.kT V (.nil ?_));exact ⟨⟨or_T hc5,V,V,V,V,V,V,U⟩,H.wk (by omega)⟩
       ·refine .mV V (.mV V (.iV V (.kF V (.nil ?_))));exact ⟨⟨or_F hc5,V,V,V,V,V,V,U⟩,H.wk (by omega)⟩
      refine .nila H fun H => ?_;refine .wh h V ?_ ?_ <;> intro h
      ·refine .Z4 2 V H fun b11 σ H => (.mV V (.aV V (.nila H fun H => ?_)));obtain rfl:=sj h;exact ⟨V,EI V,H⟩
      refine .skip ?_;obtain rfl:=sj h;exact ⟨V,EI V,H⟩
     refine .Z4 1 V H fun b12 σ H => (.aV V (.nila H fun H => ?_));obtain rfl:=sj h;exact (.inl ⟨_,V,V,EI V,H⟩)
    ·rintro x e σ (⟨a3,rfl,rfl,he,H⟩ | ⟨a4,rfl,rfl,he,H⟩)
     ·replace h:=jgo h;obtain ⟨e,rfl⟩:=he.ex;obtain rfl:=sj h;exact ⟨V,EI V,H⟩
     ·replace h:=jret h;obtain ⟨e,rfl⟩:=he.ex;obtain rfl:=sj h;exact ⟨V,EI V,H⟩
   refine .Z4 3 V H fun b13 σ H => (.mV V (.iV V (.aV V (.nila H fun H => ?_))));obtain rfl:=sj h;exact ⟨V,EI V,H⟩
  refine .exit ?_;obtain rfl:=sj h;exact ⟨nofun,⟨V,EI V,H⟩⟩
 refine .tR 6 V H fun b14 σ H => (.mV V (.mV V (.mV V (.aV V (.aV V (.aV V (.nila H fun H => (.ret ?_))))))));obtain rfl:=sj h;exact Ends.eR V
theorem Z9N {l:(List epactref22_Place)} {d:Int} {r:Int × Bool} (h:Zk l d = some r):Fn CX 12 [(vl epactref22_Place.cs l),(vi d)] (.tup [(vi r.1),(vb r.2)]):=by
 refine Fn.go Tryz.func12 V fun σ H => ?_;unfold Zk at h;refine .tR 2 V H fun b1 σ H => (.aV V (.aV V (.nila H fun H => (.tR 2 V H fun b2 σ H => (.aV V (.aV V (.nila H fun H => (.then ?_))))))));refine .tR 1 V H fun b3 σ H => (.aV V (.nila H fun H => (.inBlock ?_)));refine .lp h (fun s1 => [(0,(vl epactref22_Place.cs l)),(1,(vi d)),(6,(vi s1.1)),(7,(vb s1.2.1)),(8,(vi s1.2.2))]) (fun s1 => []) (.exit 0) (fun y1 => [(6,(vi y1.1)),(7,(vb y1.2))]) (fun y1 => []) (EI V) H (fun s1 e σ H z h => ?_) fun y1 e σ H h => ?_
 ·unfold Zk.s0 at h;refine .then (.tR 4 V H fun b4 σ H => (.mV V (.mV V (.nV V (.iV V (.nila H fun H => ?_))))));refine .wh h V ?_ ?_ <;> intro h
  ·refine .skip (.then ?_);refine .jn h .normal (fun y2 => [(0,(vl epactref22_Place.cs l)),(1,(vi d)),(6,(vi y2.1)),(7,(vb y2.2)),(8,(vi s1.2.2))]) (fun y2 => []) (fun y2 h => ?_) fun y2 e σ H h => ?_
   ·refine .inBlock (.then (.tR 14 V H fun b5 σ H => (.mV V (.mV V ?_))));obtain ⟨x1,q1,h⟩:=bs h;refine .jV q1 V (.Z8 V V V V (.pV V (.iV V (.mV V ?_))));obtain ⟨y3,hj3,h⟩:=bs h;refine .md H 7 [(29,(vb y3)),(0,(vl epactref22_Place.cs l)),(1,(vi d)),(6,(vi s1.1)),(7,(vb s1.2.1)),(8,(vi s1.2.2))] [] V ?_ fun e σ H => ?_
    ·refine .sp hj3 V ?_ ?_ <;> intro h
     ·refine .ps 6 V (.kT V (.nil ?_));obtain rfl:=sj h;exact ⟨EI V,H.wk (by omega)⟩
     refine .mV V (.mV V (.wt V V ?_));obtain ⟨x2,q2,h⟩:=bs h;refine .jV q2 V (.wt V V (.Z8 V V V V (.pV V (.iV V (.kF V (.nil ?_))))));obtain rfl:=sj h;exact ⟨EI V,H.wk (by omega)⟩
    refine .nila H fun H => ?_;refine .wh h V ?_ ?_ <;> intro h
    ·refine .exit ?_;obtain rfl:=sj h;exact ⟨V,EI V,H⟩
    refine .skip (.tR 1 V H fun b6 σ H => (.aV V (.nila H fun H => (.inBlock ?_))));refine .lp h (fun s2 => [(0,(vl epactref22_Place.cs l)),(1,(vi d)),(6,(vi s2.1)),(7,(vb s2.2.1)),(8,(vi s1.2.2)),(9,(vi s2.2.2))]) (fun s2 => []) (.exit 2) (fun y4 => [(0,(vl epactref22_Place.cs l)),(1,(vi d)),(6,(vi y4.1)),(7,(vb y4.2)),(8,(vi s1.2.2))]) (fun y4 => []) (EI V) H (fun s2 e σ H z h => ?_) fun y4 e σ H h => ?_
    ·unfold Zk.s1 at h;refine .then (.tR 4 V H fun b7 σ H => (.mV V (.mV V (.nV V (.iV V (.nila H fun H => ?_))))));refine .wh h V ?_ ?_ <;> intro h
     ·refine .skip (.then ?_);refine .jn h .normal (fun y5 => [(0,(vl epactref22_Place.cs l)),(1,(vi d)),(6,(vi y5.1)),(7,(vb y5.2)),(8,(vi s1.2.2)),(9,(vi s2.2.2))]) (fun y5 => []) (fun y5 h => ?_) fun y5 e σ H h => ?_
      ·refine .inBlock ?_;refine .jn h .normal (fun y6 => [(0,(vl epactref22_Place.cs l)),(1,(vi d)),(6,(vi y6.1)),(7,(vb y6.2)),(8,(vi s1.2.2)),(9,(vi s2.2.2))]) (fun y6 => []) (fun y6 h => ?_) fun y6 e σ H h => ?_
       ·refine .then (.Zr 32 V (by kernel_rfl) H fun b8 σ H B8 => (.mV V (.mV V ?_)));obtain ⟨x3,q3,h⟩:=bs h;refine .jV q3 V (.Z8 V V V V (.pV V (.mV V (.mV V ?_))));obtain ⟨x4,q4,h⟩:=bs h;refine .jV q4 V (.Z8 V V V V (.pV V (.iV V (.mV V (.iV V (.mV V ?_))))));obtain ⟨y7,hj7,h⟩:=bs h;refine .md H 18 [(67,(vb y7)),(0,(vl epactref22_Place.cs l)),(1,(vi d)),(6,(vi s2.1)),(7,(vb s2.2.1)),(8,(vi s1.2.2)),(9,(vi s2.2.2))] [] V ?_ fun e σ H => ?_
        ·refine .sp hj7 V ?_ ?_ <;> intro h
         ·refine .mV V (.tV V (.mV V ?_));obtain ⟨y8,hj8,h⟩:=bs h;refine .md H 14 [(66,(vb y8)),(0,(vl epactref22_Place.cs l)),(1,(vi d)),(6,(vi s2.1)),(7,(vb s2.2.1)),(8,(vi s1.2.2)),(9,(vi s2.2.2)),(49,(vb true))] [] V ?_ fun e σ H => ?_
          ·refine .sp hj8 V ?_ ?_ <;> intro h
           ·refine .ps 13 V (.kT V (.nil ?_));obtain rfl:=sj h;exact ⟨EI V,H.wk (by omega)⟩
           refine .mV V (.mV V (.wt V V ?_));obtain ⟨x5,q5,h⟩:=bs h;refine .jV q5 V (.wt V V (.Z8 V V V V (.pV V (.mV V (.mV V (.wt V V ?_))))));obtain ⟨x6,q6,h⟩:=bs h;refine .jV q6 V (.wt V V (.Z8 V V V V (.pV V (.iV V (.mV V (.iV V (.kF V (.nil ?_))))))));obtain rfl:=sj h;exact ⟨EI V,H.wk (by omega)⟩
          refine .kT V (.nil ?_);obtain rfl:=sj h;exact ⟨EI V,H.wk (by omega)⟩
         refine .ps 17 V (.kF V (.nil ?_));obtain rfl:=sj h;exact ⟨EI V,H.wk (by omega)⟩
        refine .nila H fun H => ?_;refine .wh h V ?_ ?_ <;> intro h
        ·refine .Zr 13 V (by kernel_rfl) H fun b9 σ H B9 => (.mV V (.mV V ?_));obtain ⟨x7,q7,h⟩:=bs h;refine .jV q7 V (.Z8 V V V V (.pV V (.mV V (.mV V ?_))));obtain ⟨x8,q8,h⟩:=bs h;refine .jV q8 V (.Z8 V V V V (.pV V (.iV V (.aV V (.aV V (.nila H fun H => ?_))))));obtain rfl:=sj h;exact ⟨V,EI V,H⟩
        refine .skip ?_;obtain rfl:=sj h;exact ⟨V,EI V,H⟩
       obtain rfl:=sj h;exact ⟨V,EI V,H⟩
      refine .Z4 3 V H fun b10 σ H => (.mV V (.iV V (.aV V (.nila H fun H => ?_))));obtain rfl:=sj h;exact ⟨V,EI V,H⟩
     refine .exit ?_;obtain rfl:=sj h;exact ⟨nofun,⟨V,EI V,H⟩⟩
    obtain rfl:=sj h;exact ⟨V,EI V,H⟩
   refine .Z4 3 V H fun b11 σ H => (.mV V (.iV V (.aV V (.nila H fun H => ?_))));obtain rfl:=sj h;exact ⟨V,EI V,H⟩
  refine .exit ?_;obtain rfl:=sj h;exact ⟨nofun,⟨V,EI V,H⟩⟩
 refine .tR 4 V H fun b12 σ H => (.mV V (.mV V (.aV V (.aV V (.nila H fun H => (.ret ?_))))));obtain rfl:=sj h;exact Ends.eR V
theorem ZAy {l:(List epactref22_Place)} {d:Int} {r:Int × Bool} (h:Z03 l d = some r):Fn CX 14 [(vl epactref22_Place.cs l),(vi d)] (.tup [(vi r.1),(vb r.2)]):=by
 refine Fn.go Tryz.func14 V fun σ H => ?_;unfold Z03 at h;refine .tR 2 V H fun b1 σ H => (.aV V (.aV V (.nila H fun H => (.tR 2 V H fun b2 σ H => (.aV V (.aV V (.nila H fun H => (.then ?_))))))));refine .tR 1 V H fun b3 σ H => (.aV V (.nila H fun H => (.inBlock ?_)));refine .lp h (fun s1 => [(0,(vl epactref22_Place.cs l)),(1,(vi d)),(6,(vi s1.1)),(7,(vb s1.2.1)),(8,(vi s1.2.2))]) (fun s1 => []) (.exit 0) (fun y1 => [(6,(vi y1.1)),(7,(vb y1.2))]) (fun y1 => []) (EI V) H (fun s1 e σ H z h => ?_) fun y1 e σ H h => ?_
 ·unfold Z03.s0 at h;refine .then (.tR 4 V H fun b4 σ H => (.mV V (.mV V (.nV V (.iV V (.nila H fun H => ?_))))));refine .wh h V ?_ ?_ <;> intro h
  ·refine .skip (.then ?_);refine .jn h .normal (fun y2 => [(0,(vl epactref22_Place.cs l)),(1,(vi d)),(6,(vi y2.1)),(7,(vb y2.2)),(8,(vi s1.2.2))]) (fun y2 => []) (fun y2 h => ?_) fun y2 e σ H h => ?_
   ·refine .inBlock (.then (.tR 14 V H fun b5 σ H => (.mV V (.mV V ?_))));obtain ⟨x1,q1,h⟩:=bs h;refine .jV q1 V (.Z8 V V V V (.pV V (.iV V (.mV V ?_))));obtain ⟨y3,hj3,h⟩:=bs h;refine .md H 7 [(29,(vb y3)),(0,(vl epactref22_Place.cs l)),(1,(vi d)),(6,(vi s1.1)),(7,(vb s1.2.1)),(8,(vi s1.2.2))] [] V ?_ fun e σ H => ?_
    ·refine .sp hj3 V ?_ ?_ <;> intro h
     ·refine .ps 6 V (.kT V (.nil ?_));obtain rfl:=sj h;exact ⟨EI V,H.wk (by omega)⟩
     refine .mV V (.mV V (.wt V V ?_));obtain ⟨x2,q2,h⟩:=bs h;refine .jV q2 V (.wt V V (.Z8 V V V V (.pV V (.iV V (.kF V (.nil ?_))))));obtain rfl:=sj h;exact ⟨EI V,H.wk (by omega)⟩
    refine .nila H fun H => ?_;refine .wh h V ?_ ?_ <;> intro h
    ·refine .exit ?_;obtain rfl:=sj h;exact ⟨V,EI V,H⟩
    refine .skip (.tR 1 V H fun b6 σ H => (.aV V (.nila H fun H => (.inBlock ?_))));refine .lp h (fun s2 => [(0,(vl epactref22_Place.cs l)),(1,(vi d)),(6,(vi s2.1)),(7,(vb s2.2.1)),(8,(vi s1.2.2)),(9,(vi s2.2.2))]) (fun s2 => []) (.exit 2) (fun y4 => [(0,(vl epactref22_Place.cs l)),(1,(vi d)),(6,(vi y4.1)),(7,(vb y4.2)),(8,(vi s1.2.2))]) (fun y4 => []) (EI V) H (fun s2 e σ H z h => ?_) fun y4 e σ H h => ?_
    ·unfold Z03.s1 at h;refine .then (.tR 4 V H fun b7 σ H => (.mV V (.mV V (.nV V (.iV V (.nila H fun H => ?_))))));refine .wh h V ?_ ?_ <;> intro h
     ·refine .skip (.then ?_);refine .jn h .normal (fun y5 => [(0,(vl epactref22_Place.cs l)),(1,(vi d)),(6,(vi y5.1)),(7,(vb y5.2)),(8,(vi s1.2.2)),(9,(vi s2.2.2))]) (fun y5 => []) (fun y5 h => ?_) fun y5 e σ H h => ?_
      ·refine .inBlock ?_;refine .jn h .normal (fun y6 => [(0,(vl epactref22_Place.cs l)),(1,(vi d)),(6,(vi y6.1)),(7,(vb y6.2)),(8,(vi s1.2.2)),(9,(vi s2.2.2))]) (fun y6 => []) (fun y6 h => ?_) fun y6 e σ H h => ?_
       ·refine .then (.Zr 32 V (by kernel_rfl) H fun b8 σ H B8 => (.mV V (.mV V ?_)));obtain ⟨x3,q3,h⟩:=bs h;refine .jV q3 V (.Z8 V V V V (.pV V (.mV V (.mV V ?_))));obtain ⟨x4,q4,h⟩:=bs h;refine .jV q4 V (.Z8 V V V V (.pV V (.iV V (.mV V (.iV V (.mV V ?_))))));obtain ⟨y7,hj7,h⟩:=bs h;refine .md H 18 [(67,(vb y7)),(0,(vl epactref22_Place.cs l)),(1,(vi d)),(6,(vi s2.1)),(7,(vb s2.2.1)),(8,(vi s1.2.2)),(9,(vi s2.2.2))] [] V ?_ fun e σ H => ?_
        ·refine .sp hj7 V ?_ ?_ <;> intro h
         ·refine .mV V (.tV V (.mV V ?_));obtain ⟨y8,hj8,h⟩:=bs h;refine .md H 14 [(66,(vb y8)),(0,(vl epactref22_Place.cs l)),(1,(vi d)),(6,(vi s2.1)),(7,(vb s2.2.1)),(8,(vi s1.2.2)),(9,(vi s2.2.2)),(49,(vb true))] [] V ?_ fun e σ H => ?_
          ·refine .sp hj8 V ?_ ?_ <;> intro h
           ·refine .ps 13 V (.kT V (.nil ?_));obtain rfl:=sj h;exact ⟨EI V,H.wk (by omega)⟩
           refine .mV V (.mV V (.wt V V ?_));obtain ⟨x5,q5,h⟩:=bs h;refine .jV q5 V (.wt V V (.Z8 V V V V (.pV V (.mV V (.mV V (.wt V V ?_))))));obtain ⟨x6,q6,h⟩:=bs h;refine .jV q6 V (.wt V V (.Z8 V V V V (.pV V (.iV V (.mV V (.iV V (.kF V (.nil ?_))))))));obtain rfl:=sj h;exact ⟨EI V,H.wk (by omega)⟩
          refine .kT V (.nil ?_);obtain rfl:=sj h;exact ⟨EI V,H.wk (by omega)⟩
         refine .ps 17 V (.kF V (.nil ?_));obtain rfl:=sj h;exact ⟨EI V,H.wk (by omega)⟩
        refine .nila H fun H => ?_;refine .wh h V ?_ ?_ <;> intro h
        ·refine .Zr 13 V (by kernel_rfl) H fun b9 σ H B9 => (.mV V (.mV V ?_));obtain ⟨x7,q7,h⟩:=bs h;refine .jV q7 V (.Z8 V V V V (.pV V (.mV V (.mV V ?_))));obtain ⟨x8,q8,h⟩:=bs h;refine .jV q8 V (.Z8 V V V V (.pV V (.iV V (.aV V (.aV V (.nila H fun H => ?_))))));obtain rfl:=sj h;exact ⟨V,EI V,H⟩
        refine .skip ?_;obtain rfl:=sj h;exact ⟨V,EI V,H⟩
       obtain rfl:=sj h;exact ⟨V,EI V,H⟩
      refine .Z4 3 V H fun b10 σ H => (.mV V (.iV V (.aV V (.nila H fun H => ?_))));obtain rfl:=sj h;exact ⟨V,EI V,H⟩
     refine .exit ?_;obtain rfl:=sj h;exact ⟨nofun,⟨V,EI V,H⟩⟩
    obtain rfl:=sj h;exact ⟨V,EI V,H⟩
   refine .Z4 3 V H fun b11 σ H => (.mV V (.iV V (.aV V (.nila H fun H => ?_))));obtain rfl:=sj h;exact ⟨V,EI V,H⟩
  refine .exit ?_;obtain rfl:=sj h;exact ⟨nofun,⟨V,EI V,H⟩⟩
 refine .tR 4 V H fun b12 σ H => (.mV V (.mV V (.aV V (.aV V (.nila H fun H => (.ret ?_))))));obtain rfl:=sj h;exact Ends.eR V
theorem Z5j {a:(List Span)} {b:(List Span)} {r:Bool} (h:Z07 a b = some r):Fn CX 33 [(vl Span.cs a),(vl Span.cs b)] (vb r):=by
 refine Fn.go Tryz.func33 V fun σ H => ?_;unfold Z07 at h;refine .tR 1 V H fun b1 σ H => (.aV V (.nila H fun H => (.then (.tR 5 V H fun b2 σ H => (.mV V (.nV V (.mV V (.nV V ?_))))))));refine .iV V (.nila H fun H => ?_);refine .wh h V ?_ ?_ <;> intro h
 ·refine .tR 1 V H fun b3 σ H => (.aV V (.nila H fun H => (.ret ?_)));obtain rfl:=sj h;exact Ends.eR V
 refine .skip (.then (.tR 3 V H fun b4 σ H => (.mV V (.nV V (.mV V (.nila H fun H => (.inBlock ?_)))))));obtain ⟨y1,hj1,h⟩:=bs h;obtain ⟨n1,hj1⟩:=ZM.1 hj1;refine .mono (Runs.loopO hj1 (fun s1 e σ => Z6 e [(1,(vl Span.cs b)),(12,(vl Span.cs a)),(13,(vi (a.length:Int))),(14,(vi s1))]∧Hs σ []) (fun y1 x e σ => (∃ a1,y1 = (.go a1)∧x = .exit 0∧Z6 e []∧Hs σ [])∨(∃ r',y1 = (.ret r')∧x = .ret∧Ends CX Tryz.f33.results.toList (vb r') x e σ)) ⟨EI V,H⟩ ?_) ?_
 ·intro s1 e σ hI z h;obtain ⟨he,H⟩:=hI;obtain ⟨e,rfl⟩:=he.ex;unfold Z07.s0 at h;refine .tR 1 V H fun b5 σ H => (.iV V (.nila H fun H => (.then ?_)));refine .wh h V ?_ ?_ <;> intro h
  ·refine .skip (.then (.inBlock (.tR 6 V H fun b6 σ H => (.mV V ?_))));obtain ⟨x1,q1,h⟩:=bs h;refine .jV q1 V (.qV [(.int .i64 x1.From),(.int .i64 x1.To)] V (.Za (cs:=[(vi 0),(vi 0)]) H (by omega) (by omega) V V fun σ H => (.aV V (.sV [(vi x1.From),(vi x1.To)] H 0 V fun σ H => (.nila H fun H => (.then (.Zr 6 V (by kernel_rfl) H fun b7 σ H B7 => (.mV V ?_))))))));refine .mV V ?_;obtain ⟨x2,q2,h⟩:=bs h;refine .jV q2 V (.qV [(.int .i64 x2.From),(.int .i64 x2.To)] V (.Z1f (cs:=[(vi x1.From),(vi x1.To)]) H 0 V V V V V V V (fun _ => .inl ⟨B7 0 _ V _ V,nofun,(fun _ => by kernel_rfl)⟩) V (.binA (u:=(.agg [(vi x2.From),(vi x2.To)])) (w:=(.agg [(vi x1.From),(vi x1.To)])) (r:=.bool (!((x2.From == x1.From) && ((x2.To == x1.To) && true)))) V V (by kernel_rfl) (fun _ => ask_eqA V V V V) V (.nila H fun H => ?_))));refine .wh h V ?_ ?_ <;> intro h
   ·refine .tR 1 V H fun b8 σ H => (.aV V (.nila H fun H => (.ret ?_)));obtain rfl:=sj h;exact ⟨nofun,(.inr ⟨_,V,V,(Ends.H (xs:=[(vb false)]) (.inr V) H (.tmp (v:=(vb false)) V .nil) (.one (.c (.v _))))⟩)⟩
   refine .skip (.Z4 2 V H fun b9 σ H => (.iV V (.mV V (.nila H fun H => ?_))));obtain rfl:=sj h;exact ⟨V,EI V,(H.erase 0)⟩
  refine .exit ?_;obtain rfl:=sj h;exact ⟨nofun,(.inl ⟨_,V,V,U,H⟩)⟩
 ·rintro x e σ (⟨a2,rfl,rfl,he,H⟩ | ⟨r',rfl,rfl,hE⟩)
  ·replace h:=jgo h;obtain ⟨e,rfl⟩:=he.ex;refine .tR 1 V H fun b10 σ H => (.aV V (.nila H fun H => (.ret ?_)));obtain rfl:=sj h;exact Ends.eR V
  ·replace h:=jret h;obtain rfl:=sj h;exact hE
end Go.Dn

namespace Go.Dn
open Go Go.Proofs
set_option maxRecDepth 100000
set_option maxHeartbeats 4000000
theorem Z6o {a:Form} {b:Form} {r:Bool} (h:ZO a b = some r):Fn CX 16 [(.agg (vs (Form.cs a))),(.agg (vs (Form.cs b)))] (vb r):=by
 refine Fn.go Tryz.func16 V fun σ H => ?_;unfold ZO at h;refine .tR 3 V H fun b1 σ H => (.boxH (cs:=(vF a)) H (by omega) (by omega) V V V fun σ H => (.boxH (cs:=(vF b)) H (by omega) (by omega) V V V fun σ H => (.aV V (.nila H fun H => (.then (.tR 30 V H fun b2 σ H => (.fV H 1 V (.lV H 1 V ?_))))))));refine .fV H 0 V (.lV H 0 V (.iV V (.mV V ?_)));refine .md H 6 [(20,(vb ((a.Period != b.Period) || (a.Count != b.Count)))),(2,(.ptr (b1 + 0) 4 0)),(3,(.ptr (b1 + 1) 4 0))] [.blk (b1 + 1) 25 (vF b),.blk (b1 + 0) 25 (vF a)] rfl ?_ fun e σ H => ?_
 ·refine .split V V ?_ ?_ <;> intro hc1
  ·refine .ps 5 V (.kT V (.nil ?_));exact ⟨⟨or_T hc1,V,V,U⟩,H.wk (by omega)⟩
  ·refine .fV H 1 V (.lV H 1 V (.fV H 0 V (.lV H 0 V (.iV V (.kF V (.nil ?_))))));exact ⟨⟨or_F hc1,V,V,U⟩,H.wk (by omega)⟩
 refine .mV V ?_;refine .md H 8 [(29,(vb (((a.Period != b.Period) || (a.Count != b.Count)) || ((a.Core.length:Int) != (b.Core.length:Int))))),(2,(.ptr (b1 + 0) 4 0)),(3,(.ptr (b1 + 1) 4 0))] [.blk (b1 + 1) 25 (vF b),.blk (b1 + 0) 25 (vF a)] rfl ?_ fun e σ H => ?_
 ·refine .split V V ?_ ?_ <;> intro hc2
  ·refine .ps 7 V (.kT V (.nil ?_));exact ⟨⟨or_T hc2,V,V,U⟩,H.wk (by omega)⟩
  ·refine .fV H 1 V (.lV H 1 V (.nV V (.fV H 0 V (.lV H 0 V (.nV V (.iV V (.kF V (.nil ?_))))))));exact ⟨⟨or_F hc2,V,V,U⟩,H.wk (by omega)⟩
 refine .mV V ?_;refine .md H 8 [(38,(vb ((((a.Period != b.Period) || (a.Count != b.Count)) || ((a.Core.length:Int) != (b.Core.length:Int))) || ((a.Odd.length:Int) != (b.Odd.length:Int))))),(2,(.ptr (b1 + 0) 4 0)),(3,(.ptr (b1 + 1) 4 0))] [.blk (b1 + 1) 25 (vF b),.blk (b1 + 0) 25 (vF a)] rfl ?_ fun e σ H => ?_
 ·refine .split V V ?_ ?_ <;> intro hc3
  ·refine .ps 7 V (.kT V (.nil ?_));exact ⟨⟨or_T hc3,V,V,U⟩,H.wk (by omega)⟩
  ·refine .fV H 1 V (.lV H 1 V (.nV V (.fV H 0 V (.lV H 0 V (.nV V (.iV V (.kF V (.nil ?_))))))));exact ⟨⟨or_F hc3,V,V,U⟩,H.wk (by omega)⟩
 refine .nila H fun H => ?_;refine .wh h V ?_ ?_ <;> intro h
 ·refine .tR 1 V H fun b3 σ H => (.aV V (.nila H fun H => (.ret ?_)));obtain rfl:=sj h;exact Ends.eR V
 refine .skip (.then (.tR 4 V H fun b4 σ H => (.fV H 1 V (.lV H 1 V (.nV V (.mV V (.nila H fun H => (.inBlock ?_))))))));obtain ⟨y1,hj1,h⟩:=bs h;obtain ⟨n1,hj1⟩:=ZM.1 hj1;refine .mono (Runs.loopO hj1 (fun s1 e σ => Z6 e [(2,(.ptr (b1 + 0) 4 0)),(3,(.ptr (b1 + 1) 4 0)),(40,(vl (cL Span.cs) a.Core)),(41,(vi (a.Core.length:Int))),(42,(vi s1))]∧Hs σ [.blk (b1 + 1) 25 (vF b),.blk (b1 + 0) 25 (vF a)]) (fun y1 x e σ => (∃ a1,y1 = (.go a1)∧x = .exit 0∧Z6 e [(2,(.ptr (b1 + 0) 4 0)),(3,(.ptr (b1 + 1) 4 0))]∧Hs σ [.blk (b1 + 1) 25 (vF b),.blk (b1 + 0) 25 (vF a)])∨(∃ r',y1 = (.ret r')∧x = .ret∧Ends CX Tryz.f16.results.toList (vb r') x e σ)) ⟨EI V,H⟩ ?_) ?_
 ·intro s1 e σ hI z h;obtain ⟨he,H⟩:=hI;obtain ⟨e,rfl⟩:=he.ex;unfold ZO.s0 at h;refine .tR 1 V H fun b5 σ H => (.iV V (.nila H fun H => (.then ?_)));refine .wh h V ?_ ?_ <;> intro h
  ·refine .skip (.then (.inBlock (.tR 5 V H fun b6 σ H => (.mV V ?_))));obtain ⟨x1,q1,h⟩:=bs h;refine .jV q1 V (.pV V (.aV V (.aV V (.nila H fun H => (.tR 8 V H fun b7 σ H => (.mV V (.fV H 0 V (.lV H 0 V ?_))))))));refine .mV V ?_;obtain ⟨x2,q2,h⟩:=bs h;refine .jV q2 V (.pV V ?_);obtain ⟨x3,q3,h⟩:=bs h;refine .cV (Z5j q3) V (.tV V (.nila H fun H => ?_));refine .wh h V ?_ ?_ <;> intro h
   ·refine .tR 1 V H fun b8 σ H => (.aV V (.nila H fun H => (.ret ?_)));obtain rfl:=sj h;exact ⟨nofun,(.inr ⟨_,V,V,(Ends.H (xs:=[(vb false)]) (.inr V) H (.tmp (v:=(vb false)) V .nil) (.one (.c (.v _))))⟩)⟩
   refine .skip (.Z4 2 V H fun b9 σ H => (.iV V (.mV V (.nila H fun H => ?_))));obtain rfl:=sj h;exact ⟨V,EI V,H⟩
  refine .exit ?_;obtain rfl:=sj h;exact ⟨nofun,(.inl ⟨_,V,V,EI V,H⟩)⟩
 ·rintro x e σ (⟨a2,rfl,rfl,he,H⟩ | ⟨r',rfl,rfl,hE⟩)
  ·replace h:=jgo h;obtain ⟨e,rfl⟩:=he.ex;refine .then (.tR 4 V H fun b10 σ H => (.fV H 1 V (.lV H 1 V (.nV V (.mV V (.nila H fun H => (.inBlock ?_)))))));obtain ⟨y2,hj2,h⟩:=bs h;obtain ⟨n2,hj2⟩:=ZM.1 hj2;refine .mono (Runs.loopO hj2 (fun s2 e σ => Z6 e [(3,(.ptr (b1 + 1) 4 0)),(57,(vl Granule.cs a.Odd)),(58,(vi (a.Odd.length:Int))),(59,(vi s2))]∧Hs σ [.blk (b1 + 1) 25 (vF b)]) (fun y2 x e σ => (∃ a3,y2 = (.go a3)∧x = .exit 2∧Z6 e []∧Hs σ [])∨(∃ r',y2 = (.ret r')∧x = .ret∧Ends CX Tryz.f16.results.toList (vb r') x e σ)) ⟨EI V,(H.erase 1)⟩ ?_) ?_
   ·intro s2 e σ hI z h;obtain ⟨he,H⟩:=hI;obtain ⟨e,rfl⟩:=he.ex;unfold ZO.s1 at h;refine .tR 1 V H fun b11 σ H => (.iV V (.nila H fun H => (.then ?_)));refine .wh h V ?_ ?_ <;> intro h
    ·refine .skip (.then (.inBlock (.tR 6 V H fun b12 σ H => (.mV V ?_))));obtain ⟨x4,q4,h⟩:=bs h;refine .jV q4 V (.qV [(.int .i64 x4.Index),(.sl (x4.Ticks.map Span.cs))] V (.Za (cs:=[(vi 0),.nils]) H (by omega) (by omega) V V fun σ H => (.aV V (.sV [(vi x4.Index),(vl Span.cs x4.Ticks)] H 0 V fun σ H => (.nila H fun H => (.then (.Zr 21 V (by kernel_rfl) H fun b13 σ H B13 => (.ZA H 0 V V V V V (fun _ => .inl ⟨B13 0 _ V _ V,nofun,(fun _ => by kernel_rfl)⟩) V ?_))))))));refine .ld (vi x4.Index) H 0 V V V V V (fun _ => .inl ⟨B13 0 _ V _ V,nofun,(fun _ => by kernel_rfl)⟩) V (.ZA H 1 V V V V V (fun _ => .inl ⟨B13 1 _ V _ V,nofun,(fun _ => by kernel_rfl)⟩) V (.ld (vl Granule.cs b.Odd) H 1 V V V V V (fun _ => .inl ⟨B13 1 _ V _ V,nofun,(fun _ => by kernel_rfl)⟩) V (.mV V ?_)));obtain ⟨x5,q5,h⟩:=bs h;refine .jV q5 V (.Z8 V V V V (.pV V (.iV V (.mV V ?_))));obtain ⟨y3,hj3,h⟩:=bs h;refine .md H 11 [(84,(vb y3)),(3,(.ptr (b1 + 1) 4 0)),(57,(vl Granule.cs a.Odd)),(58,(vi (a.Odd.length:Int))),(59,(vi s2))] [.blk (b1 + 1) 25 (vF b)] V ?_ fun e σ H => ?_
     ·refine .sp hj3 V ?_ ?_ <;> intro h
      ·refine .ps 10 V (.kT V (.nil ?_));obtain rfl:=sj h;exact ⟨EI V,(H.erase 0).wk (by omega)⟩
      refine .wt V V (.ZA H 0 V V V V V (fun _ => .inl ⟨B13 0 _ V _ V,nofun,(fun _ => by kernel_rfl)⟩) V (.wt V V (.ld (vl Span.cs x4.Ticks) H 0 V V V V V (fun _ => .inl ⟨B13 0 _ V _ V,nofun,(fun _ => by kernel_rfl)⟩) V (.wt V V (.ZA H 1 V V V V V (fun _ => .inl ⟨B13 1 _ V _ V,nofun,(fun _ => by kernel_rfl)⟩) V (.wt V V (.ld (vl Granule.cs b.Odd) H 1 V V V V V (fun _ => .inl ⟨B13 1 _ V _ V,nofun,(fun _ => by kernel_rfl)⟩) V (.mV V ?_))))))));refine .wt V V ?_;obtain ⟨x6,q6,h⟩:=bs h;refine .jV q6 V (.wt V V (.Z8 V V V V (.pV V (.wt V V ?_))));obtain ⟨x7,q7,h⟩:=bs h;refine .cV (Z5j q7) V (.tV V (.kF V (.nil ?_)));obtain rfl:=sj h;exact ⟨EI V,(H.erase 0).wk (by omega)⟩
     refine .nila H fun H => ?_;refine .wh h V ?_ ?_ <;> intro h
     ·refine .tR 1 V H fun b14 σ H => (.aV V (.nila H fun H => (.ret ?_)));obtain rfl:=sj h;exact ⟨nofun,(.inr ⟨_,V,V,(Ends.H (xs:=[(vb false)]) (.inr V) H (.tmp (v:=(vb false)) V .nil) (.one (.c (.v _))))⟩)⟩
     refine .skip (.Z4 2 V H fun b15 σ H => (.iV V (.mV V (.nila H fun H => ?_))));obtain rfl:=sj h;exact ⟨V,EI V,H⟩
    refine .exit ?_;obtain rfl:=sj h;exact ⟨nofun,(.inl ⟨_,V,V,U,(H.erase 0)⟩)⟩
   ·rintro x e σ (⟨a4,rfl,rfl,he,H⟩ | ⟨r',rfl,rfl,hE⟩)
    ·replace h:=jgo h;obtain ⟨e,rfl⟩:=he.ex;refine .tR 1 V H fun b16 σ H => (.aV V (.nila H fun H => (.ret ?_)));obtain rfl:=sj h;exact Ends.eR V
    ·replace h:=jret h;obtain rfl:=sj h;exact hE
  ·replace h:=jret h;obtain rfl:=sj h;exact hE
theorem Z6b {f:Form} {k:Int} {d:Int} {r:Bool} (h:Z27 f k d = some r):Fn CX 3 [(.agg (vs (Form.cs f))),(.v (.int .i8 k)),(.v (.int .i16 d))] (vb r):=by
 refine Fn.go Tryz.func3 V fun σ H => ?_;unfold Z27 at h;refine .tR 2 V H fun b1 σ H => (.boxH (cs:=(vF f)) H (by omega) (by omega) V V V fun σ H => (.aV V (.nila H fun H => (.then (.tR 3 V H fun b2 σ H => (.LV (vF f) H 0 V ?_))))));obtain ⟨x1,q1,h⟩:=bs h;refine .cV (Z8N q1) V (.tV V (.nila H fun H => ?_));refine .wh h V ?_ ?_ <;> intro h
 ·refine .tR 2 V H fun b3 σ H => (.cV (Z4v V) V (.aV V (.nila H fun H => (.ret ?_))));obtain rfl:=sj h;exact Ends.eR V
 refine .skip (.tR 4 V H fun b4 σ H => (.LV (vF f) H 0 V ?_));obtain ⟨x2,q2,h⟩:=bs h;refine .callFO (ys:=[(.agg (vs (Form.cs f)))]) H rfl (Z83 q2) nofun rfl ?_;rintro _ _ σ ⟨w1,w2,rfl,rfl⟩ H;refine .Za (cs:=[(vi 0),(vi 0),.nils,.nils]) H (by omega) (by omega) V V fun σ H => (.sV [(vi x2.Period),(vi x2.Count),w1,w2] H 0 V fun σ H => (.nila H fun H => (.tR 3 V H fun b5 σ H => (.LV (vF f) H 3 V ?_))));obtain ⟨x3,q3,h⟩:=bs h;refine .cV (Z93 q3) V (.aV V (.nila H fun H => (.tR 8 V H fun b6 σ H => (.mV V (.conv (m:=k) V V V V (.rem (m:=(w64 k)) (m':=21) V V (by decide) V (.mV V (.conv (m:=d) V V V V ?_))))))));refine .rem (m:=(w64 d)) (m':=201) V V (by decide) V (.aV V (.aV V (.nila H fun H => (.tR 10 V H fun b7 σ H => (.mV V (.mV V ?_))))));obtain ⟨x4,q4,h⟩:=bs h;refine .cV (Z9f q4) V (.m1 (.tup [(vi x4.1),(vi x4.2.1),(vb x4.2.2)]) V V (.xV V (.xV V (.xV V (.aV V (.aV V (.aV V (.nila H fun H => ?_))))))));refine .then (.then (.Zr 24 V (by kernel_rfl) H fun b8 σ H B8 => (.mV V (.mV V ?_))));refine .Z40 (ys:=[(vi x4.1),(vb x4.2.2)]) (PostA:=fun r A => ∃ id1 id2:Nat,r = (.clo 25 [] [(.ptr id2 1 0),(.ptr id1 1 0)])∧A = [.blk id1 4 [(vb x4.2.2)],.blk id2 3 [(vi x4.1)]]) H rfl (fun hT => by obtain ⟨r,s,q,id1,id2,hr,hH⟩:=Ze hT;exact ⟨r,s,q,_,⟨id1,id2,hr,rfl⟩,hH⟩) rfl (fun _ => by kernel_rfl) rfl ?_;rintro _ _ σ ⟨id1,id2,rfl,rfl⟩ H;refine .Z1f (cs:=[(vi x2.Period),(vi x2.Count),w1,w2]) H 2 V V V V V V V (fun _ => .inl ⟨B8 0 _ V _ V,nofun,(fun _ => by kernel_rfl)⟩) V (.mV V ?_)
 obtain ⟨x5,q5,h⟩:=bs h;refine .Z50 (xs:=[(.agg [(vi x2.Period),(vi x2.Count),w1,w2]),(vi ((w64 k).tmod 21))]) (ys:=[(.agg (vs (Form.cs (Form.mk x2.Period x2.Count x2.Core x2.Odd)))),(vi ((w64 k).tmod 21))]) H V (.cons (.a (.cons (.v _) (.cons (.v _) (.cons (.s 3 V) (.cons (.s 4 V) .nil))))) (.cons (.c (.v _)) .nil)) (Z3P q5) V V (fun _ => by kernel_rfl) V fun σ H => (.xV V (.xV V (.xV V (.callV (cv:=(.clo 25 [] [(.ptr id2 1 0),(.ptr id1 1 0)])) (ys:=[(vi x5.1),(vb x5.2.1),(vi x5.2.2)]) (r:=(vb (Z3 x5.1 x5.2.1 x5.2.2 x4.1 x4.2.2))) H V V (CloH.clo (ZW V)) (.cons 1 V (.cons 0 V .nil)) (fun _ => by kernel_rfl) V fun σ H => (.tV V (.mV V ?_))))));obtain ⟨y1,hj1,h⟩:=bs h;refine .md H 12 [(60,(vb y1)),(3,(.ptr (b1 + 0) 4 0)),(7,(.ptr (b4 + 2) 4 0)),(8,(vl epactref22_Place.cs x3)),(10,(vi ((w64 d).tmod 201)))] [.blk (b4 + 2) 25 [(vi x2.Period),(vi x2.Count),w1,w2],.sl w1 44 1 (x2.Core.map (cL Span.cs)) false,.sl w2 50 2 (x2.Odd.map Granule.cs) false,.blk (b1 + 0) 25 (vF f)] V ?_ fun e σ H => ?_
 ·refine .sp hj1 V ?_ ?_ <;> intro h
  ·refine .ps 11 V (.kT V (.nil ?_));obtain rfl:=sj h;exact ⟨EI V,((H.erase 1).erase 0).wk (by omega)⟩
  refine .mV V (.mV V (.wt V V ?_));refine .Z40 (ys:=[(vi x4.2.1),(vb x4.2.2)]) (PostA:=fun r A => ∃ id3 id4:Nat,r = (.clo 25 [] [(.ptr id4 1 0),(.ptr id3 1 0)])∧A = [.blk id3 4 [(vb x4.2.2)],.blk id4 3 [(vi x4.2.1)]]) H rfl (fun hT => by obtain ⟨r,s,q,id3,id4,hr,hH⟩:=Ze hT;exact ⟨r,s,q,_,⟨id3,id4,hr,rfl⟩,hH⟩) rfl (fun _ => by kernel_rfl) rfl ?_;rintro _ _ σ ⟨id3,id4,rfl,rfl⟩ H;refine .wt V V (.Z1f (cs:=[(vi x2.Period),(vi x2.Count),w1,w2]) H 4 V V V V V V V (fun _ => .inl ⟨B8 0 _ V _ V,nofun,(fun _ => by kernel_rfl)⟩) V (.mV V (.wt V V ?_)));obtain ⟨x6,q6,h⟩:=bs h;refine .Z50 (xs:=[(.agg [(vi x2.Period),(vi x2.Count),w1,w2]),(vi ((w64 k).tmod 21))]) (ys:=[(.agg (vs (Form.cs (Form.mk x2.Period x2.Count x2.Core x2.Odd)))),(vi ((w64 k).tmod 21))]) H V (.cons (.a (.cons (.v _) (.cons (.v _) (.cons (.s 5 V) (.cons (.s 6 V) .nil))))) (.cons (.c (.v _)) .nil)) (Z78 q6) V V (fun _ => by kernel_rfl) V fun σ H => (.xV V (.xV V (.xV V (.wt V V (.callV (cv:=(.clo 25 [] [(.ptr id4 1 0),(.ptr id3 1 0)])) (ys:=[(vi x6.1),(vb x6.2.1),(vi x6.2.2)]) (r:=(vb (Z3 x6.1 x6.2.1 x6.2.2 x4.2.1 x4.2.2))) H V V (CloH.clo (ZW V)) (.cons 1 V (.cons 0 V .nil)) (fun _ => by kernel_rfl) V fun σ H => (.tV V (.kF V (.nil ?_))))))));obtain rfl:=sj h;exact ⟨EI V,((((H.erase 3).erase 2).erase 1).erase 0).wk (by omega)⟩
 refine .nila H fun H => ?_;refine .wh h V ?_ ?_ <;> intro h
 ·refine .tR 1 V H fun b9 σ H => (.aV V (.nila H fun H => (.ret ?_)));obtain rfl:=sj h;exact Ends.eR V
 refine .skip (.tR 8 V H fun b10 σ H => (.mV V (.mV V ?_)));obtain ⟨x7,q7,h⟩:=bs h;refine .cV (Z9N q7) V (.m1 (.tup [(vi x7.1),(vb x7.2)]) V V (.xV V (.xV V (.aV V (.aV V (.nila H fun H => (.then (.then ?_))))))));refine .Zr 11 V (by kernel_rfl) H fun b11 σ H B11 => (.mV V (.mV V ?_));refine .Z40 (ys:=[(vi x7.1),(vb x7.2)]) (PostA:=fun r A => ∃ id5 id6:Nat,r = (.clo 25 [] [(.ptr id6 1 0),(.ptr id5 1 0)])∧A = [.blk id5 4 [(vb x7.2)],.blk id6 3 [(vi x7.1)]]) H rfl (fun hT => by obtain ⟨r,s,q,id5,id6,hr,hH⟩:=Ze hT;exact ⟨r,s,q,_,⟨id5,id6,hr,rfl⟩,hH⟩) rfl (fun _ => by kernel_rfl) rfl ?_;rintro _ _ σ ⟨id5,id6,rfl,rfl⟩ H;refine .Z1f (cs:=[(vi x2.Period),(vi x2.Count),w1,w2]) H 2 V V V V V V V (fun _ => .inl ⟨B11 0 _ V _ V,nofun,(fun _ => by kernel_rfl)⟩) V (.mV V ?_);obtain ⟨x8,q8,h⟩:=bs h;refine .Z50 (xs:=[(.agg [(vi x2.Period),(vi x2.Count),w1,w2]),(vi ((w64 d).tmod 201))]) (ys:=[(.agg (vs (Form.cs (Form.mk x2.Period x2.Count x2.Core x2.Odd)))),(vi ((w64 d).tmod 201))]) H V (.cons (.a (.cons (.v _) (.cons (.v _) (.cons (.s 3 V) (.cons (.s 4 V) .nil))))) (.cons (.c (.v _)) .nil)) (Z53 q8) V V (fun _ => by kernel_rfl) V fun σ H => (.xV V (.xV V (.xV V (.callV (cv:=(.clo 25 [] [(.ptr id6 1 0),(.ptr id5 1 0)])) (ys:=[(vi x8.1),(vb x8.2.1),(vi x8.2.2)]) (r:=(vb (Z3 x8.1 x8.2.1 x8.2.2 x7.1 x7.2))) H V V (CloH.clo (ZW V)) (.cons 1 V (.cons 0 V .nil)) (fun _ => by kernel_rfl) V fun σ H => (.tV V (.nila H fun H => ?_))))))
 refine .wh h V ?_ ?_ <;> intro h
 ·refine .tR 1 V H fun b12 σ H => (.aV V (.nila H fun H => (.ret ?_)));obtain rfl:=sj h;exact Ends.eR V
 refine .skip (.tR 8 V H fun b13 σ H => (.mV V (.mV V ?_)));obtain ⟨x9,q9,h⟩:=bs h;refine .cV (ZAy q9) V (.m1 (.tup [(vi x9.1),(vb x9.2)]) V V (.xV V (.xV V (.aV V (.aV V (.nila H fun H => (.then (.Zr 19 V (by kernel_rfl) H fun b14 σ H B14 => ?_))))))));refine .mV V (.mV V ?_);refine .Z40 (ys:=[(vi x9.1),(vb x9.2)]) (PostA:=fun r A => ∃ id7 id8:Nat,r = (.clo 25 [] [(.ptr id8 1 0),(.ptr id7 1 0)])∧A = [.blk id7 4 [(vb x9.2)],.blk id8 3 [(vi x9.1)]]) H rfl (fun hT => by obtain ⟨r,s,q,id7,id8,hr,hH⟩:=Ze hT;exact ⟨r,s,q,_,⟨id7,id8,hr,rfl⟩,hH⟩) rfl (fun _ => by kernel_rfl) rfl ?_;rintro _ _ σ ⟨id7,id8,rfl,rfl⟩ H;refine .Z1f (cs:=[(vi x2.Period),(vi x2.Count),w1,w2]) H 4 V V V V V V V (fun _ => .inl ⟨B14 2 _ V _ V,nofun,(fun _ => by kernel_rfl)⟩) V (.mV V ?_);obtain ⟨x10,q10,h⟩:=bs h;refine .Z50 (xs:=[(.agg [(vi x2.Period),(vi x2.Count),w1,w2]),(vi ((w64 d).tmod 201))]) (ys:=[(.agg (vs (Form.cs (Form.mk x2.Period x2.Count x2.Core x2.Odd)))),(vi ((w64 d).tmod 201))]) H V (.cons (.a (.cons (.v _) (.cons (.v _) (.cons (.s 5 V) (.cons (.s 6 V) .nil))))) (.cons (.c (.v _)) .nil)) (Z9F q10) V V (fun _ => by kernel_rfl) V fun σ H => (.xV V (.xV V (.xV V (.callV (cv:=(.clo 25 [] [(.ptr id8 1 0),(.ptr id7 1 0)])) (ys:=[(vi x10.1),(vb x10.2.1),(vi x10.2.2)]) (r:=(vb (Z3 x10.1 x10.2.1 x10.2.2 x9.1 x9.2))) H V V (CloH.clo (ZW V)) (.cons 1 V (.cons 0 V .nil)) (fun _ => by kernel_rfl) V fun σ H => (.mV V ?_)))))
 obtain ⟨y2,hj2,h⟩:=bs h;refine .md H 4 [(98,(vb y2))] [] V ?_ fun e σ H => ?_
 ·refine .sp hj2 V ?_ ?_ <;> intro h
  ·refine .wt V V (.Z1f (cs:=(vF f)) H 7 V V V V V V V (fun _ => .inl ⟨B14 5 _ V _ V,nofun,(fun _ => by kernel_rfl)⟩) V (.wt V V (.Z1f (cs:=[(vi x2.Period),(vi x2.Count),w1,w2]) H 4 V V V V V V V (fun _ => .inl ⟨B14 2 _ V _ V,nofun,(fun _ => by kernel_rfl)⟩) V (.wt V V ?_))));obtain ⟨x11,q11,h⟩:=bs h;refine .Z50 (xs:=[(.agg (vF f)),(.agg [(vi x2.Period),(vi x2.Count),w1,w2])]) (ys:=[(.agg (vs (Form.cs f))),(.agg (vs (Form.cs (Form.mk x2.Period x2.Count x2.Core x2.Odd))))]) H V (.cons (.p V) (.cons (.a (.cons (.v _) (.cons (.v _) (.cons (.s 5 V) (.cons (.s 6 V) .nil))))) .nil)) (Z6o q11) V V (fun _ => by kernel_rfl) V fun σ H => (.kT V (.nil ?_));obtain rfl:=sj h;exact ⟨EI V,((((((((H.erase 7).erase 6).erase 5).erase 4).erase 3).erase 2).erase 1).erase 0).wk (by omega)⟩
  refine .ps 3 V (.kF V (.nil ?_));obtain rfl:=sj h;exact ⟨EI V,((((((((H.erase 7).erase 6).erase 5).erase 4).erase 3).erase 2).erase 1).erase 0).wk (by omega)⟩
 refine .mV V ?_;refine .md H 2 [(101,(vb (y2 && Z3D)))] [] V ?_ fun e σ H => ?_
 ·refine .split V V ?_ ?_ <;> intro hc6
  ·refine .cV (Z4v V) V (.kT V (.nil ?_));exact ⟨⟨Z2V hc6,U⟩,H.wk (by omega)⟩
  ·refine .ps 1 V (.kF V (.nil ?_));exact ⟨⟨Z2S hc6,U⟩,H.wk (by omega)⟩
 refine .aV V (.nila H fun H => (.ret ?_));obtain rfl:=sj h;exact Ends.eR V
end Go.Dn

namespace Go.Dn
open Go
theorem Zv {S R:Type} {step:S→Option (S ⊕ R)} (I:S→Prop) (m:S→Nat) (post:R→Prop)
  (h:∀ s,I s→(∃ s',step s = some (.inl s')∧I s'∧m s' < m s)∨(∃ r,step s = some (.inr r)∧post r)):∀ s,I s→∃ r,loopO step s = some r∧post r:=by
 have key:∀ n s,m s = n→I s→∃ r,loopO step s = some r∧post r:=by
  intro n
  induction n using Nat.strongRecOn with
  | _ n ih =>
   intro s hm hI
   rcases h s hI with ⟨s',h1,h2,h3⟩ | ⟨r,h1,h2⟩
   ·obtain ⟨r,q1,q2⟩:=ih (m s') (by omega) s' rfl h2
    exact ⟨r,by rw [Z21,h1];exact q1,q2⟩
   ·exact ⟨r,by rw [Z21,h1],h2⟩
 exact fun s hI => key _ s rfl hI
theorem Z1L {S R:Type} {step:S→Option (S ⊕ R)} (I:S→R→Prop) (m:S→Nat)
  (h:∀ s r,I s r→(∃ s',step s = some (.inl s')∧I s' r∧m s' < m s)∨step s = some (.inr r)) {s:S} {r:R} (hI:I s r):loopO step s = some r:=by
 obtain ⟨r',h1,h2⟩:=Zv (I:=fun s => I s r) m (fun r' => r' = r) (fun s hs => by
  rcases h s r hs with ⟨s',h1,h2,h3⟩ | h1
  ·exact .inl ⟨s',h1,h2,h3⟩
  ·exact .inr ⟨r,h1,rfl⟩) s hI
 rw [h1,h2]
theorem Z5Y (a:Int):IntKind.i64.wrap a = (a + 9223372036854775808) % 18446744073709551616 - 9223372036854775808:=by
 simp [IntKind.wrap,IntKind.bits,IntKind.signed]
 split <;> omega
theorem Z6Z (a:Int):IntKind.u64.wrap a = a % 18446744073709551616:=by
 simp [IntKind.wrap,IntKind.bits,IntKind.signed]
theorem Z9 {x:Int} (h : -9223372036854775808≤x∧x≤9223372036854775807):w64 x = x:=by
 unfold w64;rw [Z5Y];omega
theorem ZAv:maxLen = 9223372036854775807:=rfl
theorem Z3a:room = 140737488355328:=rfl
theorem at?_lt {α:Type} {l:List α} {i:Int} (h0:0≤i) (h:i < l.length):at? l i = some (l[i.toNat]'(by omega)):=by
 unfold at?;rw [if_pos h0,Y2]
theorem at?_nat {α:Type} {l:List α} {k:Nat} (h:k < l.length):at? l (k:Int) = some l[k]:=by
 rw [at?_lt (by omega) (by omega)];rfl
theorem app?_ok {α:Type} {b:Nat} {l m:List α} (h:(l.length + m.length) * b≤room):app? b l m = some (l ++ m):=if_pos h
theorem nz?_ok {b:Int} (h:b ≠ 0):nz? b = some ():=if_neg h
theorem Z84 {a b:Int} (h:a = b):(a == b) = true:=by simp [h]
theorem Z4i {a b:Int} (h:a ≠ b):(a == b) = false:=by simp [h]
theorem bne_t {a b:Int} (h:a ≠ b):(a != b) = true:=by simp [h]
theorem Z8l {a b:Int} (h:a = b):(a != b) = false:=by simp [h]
theorem ibeq (a b:Int):(a == b) = decide (a = b):=by by_cases h:a = b <;> simp [h]
theorem ZK {p:Prop} [Decidable p] (h:p):decide p = true:=by simp [h]
theorem ZJ {p:Prop} [Decidable p] (h:¬ p):decide p = false:=by simp [h]
theorem pickB {α:Type} (c:Bool) (a b:α):(bif c then a else b) = if c = true then a else b:=by cases c <;> rfl
theorem ZAJ {α:Type} {l:List α} {good:Nat→α→Prop} (h:¬ ∀ k x,l[k]? = some x→good k x):∃ (k:Nat) (x:α),l[k]? = some x∧¬ good k x∧∀ j y,j < k→l[j]? = some y→good j y:=by
 have hex:∃ k:Nat,∃ x,l[k]? = some x∧¬ good k x:=by
  apply Classical.byContradiction;intro hn;exact h fun k x hk => Classical.byContradiction fun hg => hn ⟨k,x,hk,hg⟩
 obtain ⟨k,hk⟩:=hex
 induction k using Nat.strongRecOn with
 | _ k ih =>
  by_cases h:∃ j,j < k∧∃ x,l[j]? = some x∧¬ good j x
  ·obtain ⟨j,hj,hx⟩:=h
   exact ih j hj hx
  ·obtain ⟨x,hx,hb⟩:=hk
   exact ⟨k,x,hx,hb,fun j y hj hy => Classical.byContradiction fun hg => h ⟨j,hj,y,hy,hg⟩⟩
theorem Z2x {α R:Type} {l:List α} {step:Int→Option (Int ⊕ R)} (good:Nat→α→Prop) {no yes:R}
  (hstep:∀ (k:Nat) (x:α),l[k]? = some x→(∀ j y,j < k→l[j]? = some y→good j y)→(step (k:Int) = some (.inl ((k:Int) + 1))∧good k x)∨(step (k:Int) = some (.inr no)∧¬ good k x))
  (hend:step (l.length:Int) = some (.inr yes)):(loopO step 0 = some yes∧∀ k x,l[k]? = some x→good k x)∨(loopO step 0 = some no∧¬ ∀ k x,l[k]? = some x→good k x):=by
 by_cases hall:∀ k x,l[k]? = some x→good k x
 ·refine .inl ⟨?_,hall⟩;refine Z1L (I:=fun (s:Int) r => r = yes∧∃ k:Nat,s = k∧k≤l.length) (fun s => (l.length - s.toNat)) ?_ ⟨rfl,0,rfl,YN _⟩
  rintro s r ⟨rfl,k,rfl,hk⟩
  by_cases hlt:k < l.length
  ·rcases hstep k l[k] (Y2 hlt) (fun j y _ hy => hall j y hy) with ⟨h1,_⟩ | ⟨_,h2⟩
   ·exact .inl ⟨_,h1,⟨rfl,k + 1,by push_cast;rfl,hlt⟩,by simp;omega⟩
   ·exact absurd (hall k _ (Y2 hlt)) h2
  ·have:k = l.length:=by omega
   subst this;exact .inr hend
 ·refine .inr ⟨?_,hall⟩;obtain ⟨k0,x0,hx0,hb0,hgood⟩:=ZAJ hall
  have hlt0:=(List.getElem?_eq_some_iff.1 hx0).1
  refine Z1L (I:=fun (s:Int) r => r = no∧∃ k:Nat,s = k∧k≤k0) (fun s => (l.length - s.toNat)) ?_ ⟨rfl,0,rfl,YN _⟩
  rintro s r ⟨rfl,k,rfl,hk⟩
  by_cases hlt:k < k0
  ·have hkl:k < l.length:=by omega
   rcases hstep k l[k] (Y2 hkl) (fun j y hj hy => hgood j y (by omega) hy) with ⟨h1,_⟩ | ⟨_,h2⟩
   ·exact .inl ⟨_,h1,⟨rfl,k + 1,by push_cast;rfl,hlt⟩,by simp;omega⟩
   ·exact absurd (hgood k _ hlt (Y2 hkl)) h2
  ·have:k = k0:=by omega
   subst this
   rcases hstep k x0 hx0 hgood with ⟨_,h2⟩ | ⟨h1,_⟩
   ·exact absurd h2 hb0
   ·exact .inr h1
theorem fold_loop {α A R:Type} {l:List α} {step:A × Int→Option ((A × Int) ⊕ R)} (f:A→Nat→α→A) (fin:A→R) (I:Nat→A→Prop) {a0:A} (h0:I 0 a0)
  (hgo:∀ (k:Nat) (x:α) (a:A),l[k]? = some x→I k a→step (a,(k:Int)) = some (.inl (f a k x,(k:Int) + 1))∧I (k + 1) (f a k x))
  (hend:∀ a,I l.length a→step (a,(l.length:Int)) = some (.inr (fin a))):∃ a,loopO step (a0,0) = some (fin a)∧I l.length a:=by
 obtain ⟨r,h1,a,rfl,h2⟩:=Zv (step:=step) (I:=fun s => ∃ (k:Nat) (a:A),s = (a,(k:Int))∧k≤l.length∧I k a) (fun s => l.length - s.2.toNat) (fun r => ∃ a,r = fin a∧I l.length a) (by
  rintro s ⟨k,a,rfl,hk,hI⟩
  by_cases hlt:k < l.length
  ·obtain ⟨q1,q2⟩:=hgo k l[k] a (Y2 hlt) hI
   exact .inl ⟨_,q1,⟨k + 1,_,by push_cast;rfl,hlt,q2⟩,by simp;omega⟩
  ·have:k = l.length:=by omega
   subst this;exact .inr ⟨_,hend a hI,a,rfl,hI⟩) (a0,0) ⟨0,a0,rfl,YN _,h0⟩
 exact ⟨a,h1,h2⟩
end Go.Dn

namespace Go.Dn
open Go
def In64 (a:Int):Prop:=-9223372036854775808≤a∧a≤9223372036854775807
def Z8b (a:Int):Prop:=0≤a∧a≤18446744073709551615
def fitS (a:Int):Int × Int:=if -9223372036854775808≤a∧a≤9223372036854775807 then (a,0) else (0,10)
theorem Z9c {a:Int} (h:In64 a):fitS a = (a,0):=if_pos h
theorem fitS_not {a:Int} (h:¬ In64 a):fitS a = (0,10):=if_neg h
theorem Z9H (x:Int):(In64 x∧fitS x = (x,0))∨(¬ In64 x∧fitS x = (0,10)):=by
 by_cases h:In64 x
 ·exact .inl ⟨h,Z9c h⟩
 ·exact .inr ⟨h,fitS_not h⟩
theorem and32 (x:Int) (h:Z8b x):(((BitVec.ofInt 64 x &&& BitVec.ofInt 64 4294967295).toNat:Nat):Int) = x % 4294967296:=by
 obtain ⟨n,rfl⟩:=Int.eq_ofNat_of_zero_le h.1
 have hn:n < 2 ^ 64:=by have:=h.2;omega
 have h1:(BitVec.ofInt 64 (n:Int)).toNat = n:=by simp [BitVec.toNat_ofInt];omega
 have h2:(BitVec.ofInt 64 4294967295).toNat = 2 ^ 32 - 1:=by decide
 rw [BitVec.toNat_and,h1,h2,Nat.and_two_pow_sub_one_eq_mod]
 omega
theorem mul64_fact {x y:Int} (hx:Z8b x) (hy:Z8b y) :
  (x / 4294967296 * (y / 4294967296) + (x / 4294967296 * (y % 4294967296) + x % 4294967296 * (y % 4294967296) / 4294967296) / 4294967296 +
   ((x / 4294967296 * (y % 4294967296) + x % 4294967296 * (y % 4294967296) / 4294967296) % 4294967296 + x % 4294967296 * (y / 4294967296)) / 4294967296) = x * y / 18446744073709551616 ∧
  0≤x % 4294967296 * (y % 4294967296)∧x % 4294967296 * (y % 4294967296)≤18446744065119617025 ∧
  0≤x / 4294967296 * (y % 4294967296)∧x / 4294967296 * (y % 4294967296)≤18446744065119617025 ∧
  0≤x % 4294967296 * (y / 4294967296)∧x % 4294967296 * (y / 4294967296)≤18446744065119617025 ∧
  0≤x / 4294967296 * (y / 4294967296)∧x / 4294967296 * (y / 4294967296)≤18446744065119617025:=by
 have b:∀ {u v:Int},0≤u→u≤4294967295→0≤v→v≤4294967295→0≤u * v∧u * v≤18446744065119617025:=by
  intro u v h1 h2 h3 h4;exact ⟨Y0N h1 h3,Int.le_trans (Int.mul_le_mul h2 h4 h3 (by omega)) (by decide)⟩
 obtain ⟨hx1,hx2⟩:=hx
 obtain ⟨hy1,hy2⟩:=hy
 obtain ⟨a1,a2⟩:=b (u:=x % 4294967296) (v:=y % 4294967296) (by omega) (by omega) (by omega) (by omega)
 obtain ⟨b1,b2⟩:=b (u:=x / 4294967296) (v:=y % 4294967296) (by omega) (by omega) (by omega) (by omega)
 obtain ⟨c1,c2⟩:=b (u:=x % 4294967296) (v:=y / 4294967296) (by omega) (by omega) (by omega) (by omega)
 obtain ⟨d1,d2⟩:=b (u:=x / 4294967296) (v:=y / 4294967296) (by omega) (by omega) (by omega) (by omega)
 refine ⟨?_,a1,a2,b1,b2,c1,c2,d1,d2⟩
 have e:x * y = x / 4294967296 * (y / 4294967296) * 18446744073709551616 + (x / 4294967296 * (y % 4294967296) + x % 4294967296 * (y / 4294967296)) * 4294967296 + x % 4294967296 * (y % 4294967296):=by
  have ex:x = x / 4294967296 * 4294967296 + x % 4294967296:=by omega
  have ey:y = y / 4294967296 * 4294967296 + y % 4294967296:=by omega
  clear a1 a2 b1 b2 c1 c2 d1 d2 b hx1 hx2 hy1 hy2
  generalize x / 4294967296 = x1 at *
  generalize x % 4294967296 = x0 at *
  generalize y / 4294967296 = y1 at *
  generalize y % 4294967296 = y0 at *
  subst ex ey;simp only [Y0i,Y0y];have h1:x1 * 4294967296 * (y1 * 4294967296) = x1 * y1 * 18446744073709551616:=by
   rw [Y0u,Yn 4294967296,Y0u y1,← Y0u]
   rfl
  have h2:x1 * 4294967296 * y0 = x1 * y0 * 4294967296:=by rw [Y0u,Yn 4294967296,← Y0u]
  have h3:x0 * (y1 * 4294967296) = x0 * y1 * 4294967296:=by rw [← Y0u]
  rw [h1,h2,h3];omega
 rw [e]
 generalize x / 4294967296 * (y / 4294967296) = d at *
 generalize x / 4294967296 * (y % 4294967296) = b' at *
 generalize x % 4294967296 * (y / 4294967296) = c at *
 generalize x % 4294967296 * (y % 4294967296) = a at *
 omega
theorem Z3n {a b:Int} (ha:In64 a) (hb:In64 b):ZN a b = fitS (a + b):=by
 unfold In64 at ha hb
 unfold ZN fitS w64
 rw [Z5Y]
 cases h:((decide ((a + b + 9223372036854775808) % 18446744073709551616 - 9223372036854775808 > a) != decide (b > 0)) && b != 0)
 ·rw [cond_false];simp only [Y0a,bne_eq_false_iff_eq,decide_eq_decide] at h
  split <;> simp only [Y3,and_true] <;> omega
 ·rw [cond_true];simp only [Y9,bne_iff_ne,ne_eq,decide_eq_decide] at h
  split <;> simp only [Y3] <;> omega
theorem ZAC {a:Int} (h:In64 a):Zg a = a.natAbs:=by
 unfold In64 at h
 unfold Zg
 rw [pickB]
 simp only [decide_eq_true_eq,Z6Z]
 split <;> omega
theorem inU_abs {a:Int} (h:In64 a):Z8b a.natAbs:=by unfold In64 at h;unfold Z8b;omega
theorem natAbs_prod (a b:Int):(a.natAbs:Int) * b.natAbs = (a * b).natAbs:=by rw [Int.natAbs_mul];simp
theorem mul64_eq {x y:Int} (hx:Z8b x) (hy:Z8b y):Zw x y = (x * y / 18446744073709551616,x * y % 18446744073709551616):=by
 unfold Zw
 have hb:∀ z:Int,z.fdiv (2 ^ 32) = z / 4294967296:=fun z => Y0O z (by decide)
 have hm:(IntKind.u64.bits) = 64:=rfl
 obtain ⟨h1,h2,h3,h4,h5,h6,h7,h8,h9⟩:=mul64_fact hx hy
 have hw:∀ z:Int,0≤z→z≤18446744073709551615→IntKind.u64.wrap z = z:=fun z q1 q2 => by rw [Z6Z];omega
 simp only [hb,iAnd]
 rw [hm,and32 x hx,and32 y hy]
 have x0:0≤x % 4294967296∧x % 4294967296 < 4294967296:=by omega
 have y0:0≤y % 4294967296∧y % 4294967296 < 4294967296:=by omega
 rw [hw (x % 4294967296) (by omega) (by omega),hw (y % 4294967296) (by omega) (by omega),hw _ h2 (by omega),hw _ h4 (by omega),hw _ h6 (by omega),hw _ h8 (by omega)]
 rw [hw (x / 4294967296 * (y % 4294967296) + x % 4294967296 * (y % 4294967296) / 4294967296) (by omega) (by omega)]
 rw [and32 _ ⟨by omega,by omega⟩]
 have t0:0≤(x / 4294967296 * (y % 4294967296) + x % 4294967296 * (y % 4294967296) / 4294967296) % 4294967296∧(x / 4294967296 * (y % 4294967296) + x % 4294967296 * (y % 4294967296) / 4294967296) % 4294967296 < 4294967296:=by omega
 rw [hw ((x / 4294967296 * (y % 4294967296) + x % 4294967296 * (y % 4294967296) / 4294967296) % 4294967296) (by omega) (by omega)]
 rw [hw ((x / 4294967296 * (y % 4294967296) + x % 4294967296 * (y % 4294967296) / 4294967296) % 4294967296 + x % 4294967296 * (y / 4294967296)) (by omega) (by omega)]
 rw [hw (x / 4294967296 * (y / 4294967296) + (x / 4294967296 * (y % 4294967296) + x % 4294967296 * (y % 4294967296) / 4294967296) / 4294967296) (by omega) (by omega)]
 rw [hw _ (by omega) (by omega),h1,Z6Z]
theorem ZC3 {n:Int} (m:Bool) (h:Z8b n):Z2T n m = fitS (if m then -n else n):=by
 unfold Z8b at h
 unfold Z2T fitS w64
 rw [pickB,pickB,Z6Z,Z5Y,Z5Y]
 cases m <;> simp only [Y0t,Bool.false_and,YH,Yz,decide_eq_true_eq,Y6,if_false,if_true]
 ·split
  ·rw [if_pos (by omega)];simp only [Y3,and_true];omega
  ·rw [if_neg (by omega)]
 ·split
  ·rw [if_pos (by omega)];simp only [Y3,and_true];omega
  ·rw [if_neg (by omega)]
theorem Z7v {a b:Int} (ha:In64 a) (hb:In64 b):ZL a b = fitS (a * b):=by
 unfold ZL
 rw [ZAC ha,ZAC hb,mul64_eq (inU_abs ha) (inU_abs hb),pickB]
 simp only [natAbs_prod]
 rw [ZC3 _ (by unfold Z8b;omega)]
 by_cases h:((a * b).natAbs:Int) / 18446744073709551616 = 0
 ·rw [if_neg (by simp [h])]
  have e:((a * b).natAbs:Int) % 18446744073709551616 = (a * b).natAbs:=by omega
  rw [e]
  show fitS _ = _
  refine congrArg fitS ?_
  by_cases h1:a < 0 <;> by_cases h2:b < 0 <;> simp only [h1,h2,decide_true,decide_false]
  ·have:=Int.mul_nonneg_of_nonpos_of_nonpos (Y11 h1) (Y11 h2)
   simp;omega
  ·have:=Int.mul_nonpos_of_nonpos_of_nonneg (Y11 h1) (Int.not_lt.1 h2)
   simp;omega
  ·have:=Int.mul_nonpos_of_nonneg_of_nonpos (Int.not_lt.1 h1) (Y11 h2)
   simp;omega
  ·have:=Y0N (Int.not_lt.1 h1) (Int.not_lt.1 h2)
   simp;omega
 ·rw [if_pos (by simp [h])]
  unfold fitS;rw [if_neg];omega
def Z9C (a b:Int):Int × Int × Int:=if b = 0 then (0,0,11) else if b = -1∧a = -9223372036854775808 then (0,0,10) else (a.fdiv b,a.fmod b,0)
theorem floor_up {a b:Int} (hb:b ≠ 0) (h1:a.tmod b ≠ 0) (h2:¬(a.tmod b < 0 ↔ b < 0)):a.fdiv b = a.tdiv b - 1∧a.fmod b = a.tmod b + b:=by
 have q1:=Ye a hb
 have q2:=Int.emod_lt a hb
 have hd:b ∣ a ↔ a % b = 0:=Int.dvd_iff_emod_eq_zero
 rw [Int.fdiv_eq_ediv,Int.fmod_eq_emod,Int.tdiv_eq_ediv]
 rw [Int.tmod_eq_emod] at h1 h2 ⊢
 simp only [hd] at h1 h2 ⊢
 rcases Int.lt_or_gt_of_ne hb with h | h
 ·rw [Int.sign_eq_neg_one_of_neg h]
  split at h1 <;> split <;> simp_all <;> omega
 ·rw [Int.sign_eq_one_of_pos h]
  split at h1 <;> split <;> simp_all <;> omega
theorem ZCT {a b:Int} (hb:b ≠ 0) (h:a.tmod b = 0∨(a.tmod b < 0 ↔ b < 0)):a.fdiv b = a.tdiv b∧a.fmod b = a.tmod b:=by
 have q1:=Ye a hb
 have q2:=Int.emod_lt a hb
 have hd:b ∣ a ↔ a % b = 0:=Int.dvd_iff_emod_eq_zero
 rw [Int.fdiv_eq_ediv,Int.fmod_eq_emod,Int.tdiv_eq_ediv]
 rw [Int.tmod_eq_emod] at h ⊢
 simp only [hd] at h ⊢
 rcases Int.lt_or_gt_of_ne hb with hh | hh
 ·rw [Int.sign_eq_neg_one_of_neg hh]
  split at h <;> split <;> simp_all <;> omega
 ·rw [Int.sign_eq_one_of_pos hh]
  split at h <;> split <;> simp_all <;> omega
theorem tdiv_in {a b:Int} (ha:In64 a) (hb:b ≠ 0) (hn:¬(b = -1∧a = -9223372036854775808)):In64 (a.tdiv b):=by
 have h:(a.tdiv b).natAbs = a.natAbs / b.natAbs:=Int.natAbs_tdiv a b
 obtain ⟨h1,h2⟩:=ha
 by_cases hb1:b = 1
 ·subst hb1;rw [Int.tdiv_one];exact ⟨h1,h2⟩
 ·by_cases hb2:b = -1
  ·have ha':a ≠ -9223372036854775808:=fun e => hn ⟨hb2,e⟩
   have:a.natAbs / b.natAbs≤a.natAbs:=Nat.div_le_self _ _
   unfold In64;omega
  ·have h3:a.natAbs / b.natAbs≤a.natAbs / 2:=Nat.div_le_div_left (by omega) (by omega)
   unfold In64;omega
theorem tdiv_in1 {a b:Int} (ha:In64 a) (hb:b ≠ 0) (h1:a.tmod b ≠ 0):In64 (a.tdiv b - 1):=by
 have h:(a.tdiv b).natAbs = a.natAbs / b.natAbs:=Int.natAbs_tdiv a b
 obtain ⟨h2,h3⟩:=ha
 by_cases hb1:b = 1
 ·subst hb1;simp at h1
 ·by_cases hb2:b = -1
  ·subst hb2;simp at h1
  ·have h3:a.natAbs / b.natAbs≤a.natAbs / 2:=Nat.div_le_div_left (by omega) (by omega)
   unfold In64;omega
theorem tmod_in {a b:Int} (hb:In64 b) (hb0:b ≠ 0):In64 (a.tmod b):=by
 have h:(a.tmod b).natAbs = a.natAbs % b.natAbs:=Int.natAbs_tmod a b
 have:a.natAbs % b.natAbs < b.natAbs:=Nat.mod_lt _ (by omega)
 unfold In64 at *;omega
theorem wrap_in {a:Int} (h:In64 a):IntKind.i64.wrap a = a:=by rw [Z5Y];unfold In64 at h;omega
theorem fmod_in {a b:Int} (hb:In64 b) (hb0:b ≠ 0):In64 (a.fmod b):=by
 have q1:=Ye a hb0
 have q2:=Int.emod_lt a hb0
 rw [Int.fmod_eq_emod]
 unfold In64 at *
 split <;> omega
theorem floor_leaf1 {a b:Int} (ha:In64 a) (hb:In64 b) (h0:b ≠ 0) (hn:¬(b = -1∧a = -9223372036854775808)) (h1:a.tmod b ≠ 0) (h2:¬(a.tmod b < 0 ↔ b < 0)) :
  (IntKind.i64.wrap (IntKind.i64.wrap (a.tdiv b) - 1),IntKind.i64.wrap (a.tmod b + b),(0:Int)) = Z9C a b:=by
 obtain ⟨e1,e2⟩:=floor_up h0 h1 h2
 rw [Z9C,if_neg h0,if_neg hn,e1,e2,wrap_in (tdiv_in ha h0 hn),wrap_in (tdiv_in1 ha h0 h1),wrap_in (by rw [← e2];exact fmod_in hb h0)]
theorem floor_leaf2 {a b:Int} (ha:In64 a) (hb:In64 b) (h0:b ≠ 0) (hn:¬(b = -1∧a = -9223372036854775808)) (h:a.tmod b = 0∨(a.tmod b < 0 ↔ b < 0)) :
  (IntKind.i64.wrap (a.tdiv b),a.tmod b,(0:Int)) = Z9C a b:=by
 obtain ⟨e1,e2⟩:=ZCT h0 h
 rw [Z9C,if_neg h0,if_neg hn,e1,e2,wrap_in (tdiv_in ha h0 hn)]
theorem Z2D {a b:Int} (ha:In64 a) (hb:In64 b):Z0P a b = some (Z9C a b):=by
 unfold Z0P
 by_cases h0:b = 0
 ·subst h0;rfl
 rw [Z4i h0,cond_false]
 by_cases hn:b = -1∧a = -9223372036854775808
 ·obtain ⟨rfl,rfl⟩:=hn
  rfl
 have:(b == -1 && a == -9223372036854775808) = false:=by
  simp only [Y0a,beq_eq_false_iff_ne]
  by_cases h:b = -1
  ·exact .inr fun e => hn ⟨h,e⟩
  ·exact .inl h
 rw [this,cond_false,nz?_ok h0]
 simp only [Y0,pickB,Y9,bne_iff_ne,ne_eq,decide_eq_decide]
 split
 ·rename_i h;simp only [Y0];exact congrArg some (floor_leaf1 ha hb h0 hn h.1 h.2)
 ·rename_i h;simp only [Y0];refine congrArg some (floor_leaf2 ha hb h0 hn ?_)
  by_cases h1:a.tmod b = 0
  ·exact .inl h1
  ·exact .inr (Classical.byContradiction fun h2 => h ⟨h1,h2⟩)
theorem Z3u {a b:Int} (hb:0 < b):a.fdiv b = a / b∧a.fmod b = a % b:=⟨Y0O a (Y11 hb),Int.fmod_eq_emod_of_nonneg a (Y11 hb)⟩
theorem Z3k {a b:Int} (hb:0 < b):Z9C a b = (a / b,a % b,0):=by
 unfold Z9C
 rw [if_neg (by omega),if_neg (by omega),(Z3u hb).1,(Z3u hb).2]
end Go.Dn

namespace Go.Dn
open Go
theorem Z1D:reachBytes = 140737488351232:=rfl
def ZF (t:Int):Prop:=-1099511627776≤t∧t≤1099511627776
instance (t:Int):Decidable (ZF t):=by unfold ZF;infer_instance
theorem Z6E (t:Int):Z0v t = decide (ZF t):=by
 rw [Bool.eq_iff_iff,decide_eq_true_iff];simp [Z0v,ZF]
theorem Z7H (t:Int):Z14 t = decide (ZF t):=by
 rw [Bool.eq_iff_iff,decide_eq_true_iff];simp [Z14,ZF]
theorem Z3M {t:Int} (h:ZF t):In64 t:=by unfold ZF at h;unfold In64;omega
structure RightL (l:List Span):Prop where
 ok:∀ (k:Nat) (s:Span),l[k]? = some s→ZF s.From∧ZF s.To∧s.From≤s.To
 gap:∀ (k:Nat) (s t:Span),l[k]? = some s→l[k + 1]? = some t→s.To + 2≤t.From
abbrev Len (l:List Span):Prop:=l.length * 16≤reachBytes
abbrev Sp64 (l:List Span):Prop:=∀ s ∈ l,In64 s.From∧In64 s.To
theorem Span.ok64 {s:Span} (h:s.ok):In64 s.From∧In64 s.To:=h
theorem okSpans {l:List Span} (h:okL 16 Span.ok l):Len l∧Sp64 l:=⟨h.1,fun s hs => Span.ok64 (h.2 s hs)⟩
theorem RightL.sp64 {l:List Span} (h:RightL l):Sp64 l:=fun s hs => by
 obtain ⟨k,hk⟩:=YB hs
 have:=h.ok k s hk
 exact ⟨Z3M this.1,Z3M this.2.1⟩
def Z4k (l:List Span) (k:Nat) (s:Span):Prop:=ZF s.From∧ZF s.To∧s.From≤s.To∧∀ p,k ≠ 0→l[k - 1]? = some p→p.To + 2≤s.From
theorem Z7F {l:List Span}:RightL l ↔ ∀ k s,l[k]? = some s→Z4k l k s:=by
 constructor
 ·intro h k s hk;obtain ⟨h1,h2,h3⟩:=h.ok k s hk
  refine ⟨h1,h2,h3,fun p h0 hp => ?_⟩
  have:k - 1 + 1 = k:=by omega
  exact h.gap (k - 1) p s hp (by rw [this];exact hk)
 ·intro h;refine ⟨fun k s hk => ⟨(h k s hk).1,(h k s hk).2.1,(h k s hk).2.2.1⟩,fun k s t hs ht => (h (k + 1) t ht).2.2.2 s (by omega) (by simpa using hs)⟩
theorem Z7c {l:List Span} (hl:Len l) (h64:Sp64 l):∃ b,Z0B l = some b∧(b = true ↔ RightL l):=by
 have hlen:l.length≤maxLen:=by rw [ZAv];have:=Z1D;unfold Len at hl;omega
 have step:∀ (k:Nat) (s:Span),l[k]? = some s→(∀ j y,j < k→l[j]? = some y→Z4k l j y)→∃ b,Z0B.s0 l (k:Int) = (if b = true then some (.inl ((k:Int) + 1)) else some (.inr (.ret false)))∧(b = true ↔ Z4k l k s):=by
  intro k s hk hprev;have hlt:=(List.getElem?_eq_some_iff.1 hk).1
  have hat:at? l (k:Int) = some s:=by rw [at?_nat hlt];rw [Y2 hlt] at hk;exact hk
  unfold Z0B.s0;rw [ZK (show (k:Int) < l.length by omega),cond_true,hat]
  simp only [Y0,Z6E];have hk1:w64 ((k:Int) + 1) = k + 1:=Z9 (by rw [ZAv] at hlen;omega)
  by_cases h1:ZF s.From∧ZF s.To∧s.From≤s.To
  ·have:(!decide (ZF s.From) || !decide (ZF s.To) || decide (s.From > s.To)) = false:=by
    rw [ZK h1.1,ZK h1.2.1,ZJ (by omega)];rfl
   rw [this,cond_false]
   by_cases h0:k = 0
   ·subst h0;refine ⟨true,by simp [w64];rw [Z5Y];rfl,by simp [Z4k,h1]⟩
   ·have hk0:(k:Int) > 0:=by omega
    have hpl:k - 1 < l.length:=by omega
    have hp:at? l (w64 ((k:Int) - 1)) = some l[k - 1]:=by
     rw [Z9 (by rw [ZAv] at hlen;omega),show ((k:Int) - 1) = ((k - 1:Nat):Int) by omega,at?_nat hpl]
    have hpg:=hprev (k - 1) _ (by omega) (Y2 hpl)
    have hpt:w64 (l[k - 1].To + 2) = l[k - 1].To + 2:=by
     have:=hpg.2.1;unfold ZF at this;exact Z9 (by omega)
    rw [ZK hk0,cond_true,hp];simp only [Y0,hpt];refine ⟨!decide (s.From < l[k - 1].To + 2),?_,?_⟩
    ·cases hd:decide (s.From < l[k - 1].To + 2) <;> simp [hk1]
    ·simp only [Yh,decide_eq_false_iff_not,Z4k]
     constructor
     ·intro h;refine ⟨h1.1,h1.2.1,h1.2.2,fun p _ hp' => ?_⟩
      rw [Y2 hpl] at hp';cases hp';omega
     ·intro h;have:=h.2.2.2 _ h0 (Y2 hpl);omega
  ·refine ⟨false,?_,by simp only [Y6,Z4k,false_iff];intro h;exact h1 ⟨h.1,h.2.1,h.2.2.1⟩⟩
   have:(!decide (ZF s.From) || !decide (ZF s.To) || decide (s.From > s.To)) = true:=by
    by_cases a1:ZF s.From
    ·by_cases a2:ZF s.To
     ·have a3:s.From > s.To:=by
       apply Classical.byContradiction;intro h;exact h1 ⟨a1,a2,by omega⟩
      rw [ZK a3];simp
     ·rw [ZJ a2];simp
    ·rw [ZJ a1];simp
   rw [this];rfl
 unfold Z0B
 rcases Z2x (l:=l) (step:=Z0B.s0 l) (Z4k l) (no:=.ret false) (yes:=.go ()) (fun k x hk hp => by
   obtain ⟨b,h1,h2⟩:=step k x hk hp
   cases b
   ·exact .inr ⟨h1,fun h => by have:=h2.2 h;cases this⟩
   ·exact .inl ⟨h1,h2.1 rfl⟩) (by
   unfold Z0B.s0;rw [ZJ (by omega)];rfl) with ⟨h1,h2⟩ | ⟨h1,h2⟩
 ·rw [h1];exact ⟨true,rfl,by simp [Z7F.2 h2]⟩
 ·rw [h1];exact ⟨false,rfl,by simp only [Y6,false_iff];exact fun h => h2 (Z7F.1 h)⟩
def ZR (by_:Int) (s:Span):Span:=⟨s.From + by_,s.To + by_⟩
theorem Z8m {l:List Span} {b:Int} (hl:Len l) (h64:Sp64 l) (hb:In64 b) :
  ((∀ s ∈ l,ZF (s.From + b)∧ZF (s.To + b))∧Z0H l b = some (l.map (ZR b),0))∨((¬ ∀ s ∈ l,ZF (s.From + b)∧ZF (s.To + b))∧Z0H l b = some ([],20)):=by
 have hlen:(l.length:Int) < 9223372036854775807:=by have:=Z1D;unfold Len at hl;omega
 have step:∀ (k:Nat) (s:Span) (acc:List Span),l[k]? = some s→acc.length = k→Z0H.s0 l b ((k:Int),acc) = if ZF (s.From + b)∧ZF (s.To + b) then some (.inl ((k:Int) + 1,acc ++ [ZR b s])) else some (.inr (.ret ([],20))):=by
  intro k s acc hk hacc;have hlt:=(List.getElem?_eq_some_iff.1 hk).1
  have hat:at? l (k:Int) = some s:=by rw [at?_nat hlt];rw [Y2 hlt] at hk;exact hk
  obtain ⟨f64,t64⟩:=h64 s (Y7 hk)
  unfold Z0H.s0;rw [ZK (show (k:Int) < l.length by omega),cond_true,hat]
  simp only [Y0];rw [Z3n f64 hb,Z3n t64 hb,Z6E,Z6E];have hk1:w64 ((k:Int) + 1) = k + 1:=Z9 (by omega)
  have happ:∀ x:Span,app? 16 acc [x] = some (acc ++ [x]):=fun x => app?_ok (by
   have:=Z1D;have:=Z3a;unfold Len at hl;simp;omega)
  rcases Z9H (s.From + b) with ⟨q1,q2⟩ | ⟨q1,q2⟩ <;> rcases Z9H (s.To + b) with ⟨q3,q4⟩ | ⟨q3,q4⟩ <;> rw [q2,q4]
  ·by_cases h:ZF (s.From + b)∧ZF (s.To + b)
   ·rw [if_pos h,ZK h.1,ZK h.2];simp [happ,hk1,ZR]
   ·rw [if_neg h];have:(!decide (ZF (s.From + b)) || !decide (ZF (s.To + b))) = true:=by
     by_cases h1:ZF (s.From + b)
     ·rw [ZJ (fun h2 => h ⟨h1,h2⟩)];simp
     ·rw [ZJ h1];simp
    simp only [bne_self_eq_false,Y0L,Bool.or_assoc] at this ⊢;rw [this];rfl
  ·rw [if_neg (fun h => q3 (Z3M h.2))];rfl
  ·rw [if_neg (fun h => q1 (Z3M h.1))];rfl
  ·rw [if_neg (fun h => q1 (Z3M h.1))];rfl
 have hend:∀ acc,Z0H.s0 l b ((l.length:Int),acc) = some (.inr (.go acc)):=fun acc => by unfold Z0H.s0;rw [ZJ (by omega)];rfl
 unfold Z0H
 by_cases hall:∀ s ∈ l,ZF (s.From + b)∧ZF (s.To + b)
 ·refine .inl ⟨hall,?_⟩;have:loopO (Z0H.s0 l b) (0,[]) = some (.go (l.map (ZR b))):=by
   refine Z1L (I:=fun (s:Int × List Span) r => r = .go (l.map (ZR b))∧∃ k:Nat,k≤l.length∧s = ((k:Int),(l.take k).map (ZR b))) (fun s => l.length - s.1.toNat) ?_ ⟨rfl,0,YN _,by simp⟩
   rintro s r ⟨rfl,k,hk,rfl⟩
   by_cases hlt:k < l.length
   ·refine .inl ⟨_,by rw [step k l[k] _ (Y2 hlt) (by simp;omega),if_pos (hall _ (YF hlt))],⟨rfl,k + 1,hlt,?_⟩,by simp;omega⟩
    rw [Y0P hlt,Y05];push_cast;rfl
   ·have:k = l.length:=by omega
    subst this;rw [YO];exact .inr (hend _)
  rw [this];rfl
 ·refine .inr ⟨hall,?_⟩;obtain ⟨k0,s0,hk0,hb0,hg⟩:=ZAJ (l:=l) (good:=fun _ s => ZF (s.From + b)∧ZF (s.To + b)) (fun h => hall fun s hs => by
   obtain ⟨k,hk⟩:=YB hs;exact h k s hk)
  have hlt0:=(List.getElem?_eq_some_iff.1 hk0).1
  have:loopO (Z0H.s0 l b) (0,[]) = some (.ret ([],20)):=by
   refine Z1L (I:=fun (s:Int × List Span) r => r = .ret ([],20)∧∃ k:Nat,k≤k0∧s.1 = (k:Int)∧s.2.length = k) (fun s => l.length - s.1.toNat) ?_ ⟨rfl,0,YN _,rfl,rfl⟩
   rintro ⟨i,acc⟩ r ⟨rfl,k,hk,h1,h2⟩;simp only at h1 h2;subst h1
   by_cases hlt:k < k0
   ·have hkl:k < l.length:=by omega
    exact .inl ⟨_,by rw [step k l[k] _ (Y2 hkl) h2,if_pos (hg k _ hlt (Y2 hkl))],⟨rfl,k + 1,hlt,by push_cast;rfl,by simp;omega⟩,by simp;omega⟩
   ·have:k = k0:=by omega
    subst this;exact .inr (by rw [step k s0 _ hk0 h2,if_neg hb0])
  rw [this];rfl
theorem RightL.shift {l:List Span} {b:Int} (h:RightL l) (ht:∀ s ∈ l,ZF (s.From + b)∧ZF (s.To + b)):RightL (l.map (ZR b)):=by
 constructor
 ·intro k s hk;rw [YP,Y1] at hk;obtain ⟨s,hk,rfl⟩:=hk
  have h1:=h.ok k s hk
  have h2:=ht s (Y7 hk)
  exact ⟨h2.1,h2.2,by simp only [ZR];omega⟩
 ·intro k s t hk hk1;rw [YP,Y1] at hk hk1;obtain ⟨s,hk,rfl⟩:=hk
  obtain ⟨t,hk1,rfl⟩:=hk1
  have:=h.gap k s t hk hk1
  simp only [ZR];omega
def Z3f (a b:List Span):Prop:=∀ x,a.getLast? = some x→∀ y,b.head? = some y→x.To < y.From
theorem Z5U {a b:List Span} (ha:Len a):∃ r,Z0j a b = some r∧(r = true ↔ Z3f a b):=by
 unfold Z0j
 cases a with
 | nil => exact ⟨true,by simp,by simp [Z3f]⟩
 | cons x a =>
  cases b with
  | nil => exact ⟨true,by simp,by simp [Z3f]⟩
  | cons y b =>
   have hl:((x :: a).length:Int) < 9223372036854775807:=by have:=Z1D;unfold Len at ha;omega
   have e1:(((x :: a).length:Int) == 0 || ((y :: b).length:Int) == 0) = false:=by simp;omega
   have hlt:(x :: a).length - 1 < (x :: a).length:=by simp
   have e2:at? (x :: a) (w64 (((x :: a).length:Int) - 1)) = some (x :: a)[(x :: a).length - 1]:=by
    rw [Z9 (by simp at hl ⊢;omega),show (((x :: a).length:Int) - 1) = (((x :: a).length - 1:Nat):Int) by simp,at?_nat hlt]
   have e3:at? (y :: b) 0 = some y:=rfl
   rw [e1,cond_false,e2,e3];refine ⟨decide ((x :: a)[(x :: a).length - 1].To < y.From),rfl,?_⟩;have hlast:(x :: a).getLast? = some (x :: a)[(x :: a).length - 1]:=by rw [Y0B,Y2 hlt]
   simp only [decide_eq_true_eq,Z3f,hlast,List.head?_cons,Y5];exact ⟨fun h x' hx y' hy => by rw [← hx,← hy];exact h,fun h => h _ rfl _ rfl⟩
theorem span_beq (x y:Span):((x.From == y.From) && ((x.To == y.To) && true)) = decide (x = y):=by
 obtain ⟨x1,x2⟩:=x
 obtain ⟨y1,y2⟩:=y
 by_cases h1:x1 = y1 <;> by_cases h2:x2 = y2 <;> simp [h1,h2]
theorem spans_Same_eq {a b:List Span} (ha:Len a):∃ r,Z1J a b = some r∧(r = true ↔ a = b):=by
 have hl:(a.length:Int) < 9223372036854775807:=by have:=Z1D;unfold Len at ha;omega
 unfold Z1J ZV
 by_cases hlen:a.length = b.length
 ·have e1:((a.length:Int) != (b.length:Int)) = false:=Z8l (by omega)
  rw [e1,cond_false]
  rcases Z2x (l:=a) (step:=ZV.s0 a b) (fun k x => b[k]? = some x) (no:=.ret false) (yes:=.go ()) (fun k x hk hp => by
   have hlt:=(List.getElem?_eq_some_iff.1 hk).1
   have hat:at? a (k:Int) = some x:=by rw [at?_nat hlt];rw [Y2 hlt] at hk;exact hk
   have hbt:at? b (k:Int) = some (b[k]'(by omega)):=at?_nat (by omega)
   unfold ZV.s0;rw [ZK (show (k:Int) < a.length by omega),cond_true,hat,hbt,Z9 (show _ by omega)]
   simp only [Y0,span_beq];rw [Y2 (show k < b.length by omega)]
   by_cases h:x = b[k]'(by omega)
   ·rw [ZK h];exact .inl ⟨rfl,congrArg some h.symm⟩
   ·rw [ZJ h];exact .inr ⟨rfl,fun e => h (Option.some.inj e).symm⟩) (by
   unfold ZV.s0;rw [ZJ (by omega)];rfl) with ⟨h1,h2⟩ | ⟨h1,h2⟩
  ·rw [h1];refine ⟨true,rfl,⟨fun _ => Y0e fun k => ?_,fun _ => rfl⟩⟩
   by_cases hk:k < a.length
   ·rw [Y2 hk];exact (h2 k _ (Y2 hk)).symm
   ·rw [Yi (by omega),Yi (by omega)]
  ·rw [h1];refine ⟨false,rfl,by simp only [Y6,false_iff];rintro rfl;exact h2 fun k x hk => hk⟩
 ·have e1:((a.length:Int) != (b.length:Int)) = true:=bne_t (by omega)
  rw [e1,cond_true];exact ⟨false,rfl,by simp only [Y6,false_iff];rintro rfl;exact hlen rfl⟩
end Go.Dn
