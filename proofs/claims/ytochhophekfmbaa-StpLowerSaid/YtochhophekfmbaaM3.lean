/- Part 3 of what the row stands on. -/
import Derived.Test.YtochhophekfmbaaM2
set_option linter.unusedVariables false
set_option linter.unusedSimpArgs false
namespace Go.Dn
open Go Go.Proofs
set_option maxRecDepth 100000
set_option maxHeartbeats 4000000
theorem Z1S {d : (List (List Bound))} {r : (List (List Bound)) × Bool × Int} (h : Z7 d = some r) : Fn CX 44 [(vl (cL Bound.cs) d)] (.tup [(vl (cL Bound.cs) r.1), (vb r.2.1), (vi r.2.2)]) := by
 refine Fn.go Try.func44 V fun σ H => ?_; unfold Z7 at h; refine .tR 3 V H fun b1 σ H => (.a1 .nils V V (.aV V (.aV V (.nila H fun H => (.then (.tR 3 V H fun b2 σ H => (.mV V ?_))))))); obtain ⟨x1, q1, h⟩ := bs h; refine .cV (Z31 q1) V (.tV V (.nila H fun H => ?_)); refine .wh h V ?_ ?_ <;> intro h
 ·refine .tR 3 V H fun b3 σ H => (.a1 .nils V V (.aV V (.aV V (.nila H fun H => (.ret ?_))))); obtain rfl := sj h; exact (Ends.H (xs := [.nils, (vb false), (vi 2)]) (.inr V) H (.tmp (v := .nils) V (.tmp (v := (vb false)) V (.tmp (v := (vi 2)) V .nil))) (.two (.cons (.c .n) (.cons (.c (.v _)) (.cons (.c (.v _)) .nil)))))
 refine .skip (.tR 3 V H fun b4 σ H => (.mV V ?_)); obtain ⟨x2, q2, h⟩ := bs h; refine .callFO (ys := [(vl (cL Bound.cs) d)]) H rfl (Z5k q2) nofun rfl ?_; rintro _ _ σ ⟨id1, ids1, hMids1, hNids1, rfl, rfl⟩ H; replace H : Has σ _ _ (.blk id1 43 ids1 :: (famL 32 2 Bound.cs ids1 x2 ++ [])) := H; refine .aB V (.nila H fun H => (.then (.tR 3 V H fun b5 σ H => (.mB V (.lenM H 0 V hNids1 V V nofun V (.mV V (.nila H fun H => (.inBlock ?_)))))))); obtain ⟨y1, hj1, h⟩ := bs h; obtain ⟨n1, hj1⟩ := Zc.1 hj1; refine .mono (Runs.loopO hj1 (fun s1 e σ => ∃ (ids4 : List PV), ids4.length = s1.2.length ∧ ids4.length = d.length ∧ ZL e [(5, (.buf id1 d.length 1)), (14, (vi ((d.length : Nat) : Int))), (15, (vi s1.1))] ∧ Hs σ (.blk id1 43 ids4 :: (famL 32 2 Bound.cs ids4 s1.2 ++ []))) (fun y1 x e σ => (∃ a1, ∃ (ids5 : List PV), ids5.length = a1.length ∧ ids5.length = d.length ∧ y1 = (.go a1) ∧ x = .exit 0 ∧ ZL e [(5, (.buf id1 d.length 1))] ∧ Hs σ (.blk id1 43 ids5 :: (famL 32 2 Bound.cs ids5 a1 ++ []))) ∨ (∃ r', y1 = (.ret r') ∧ x = .ret ∧ Ends CX Try.f44.results.toList (.tup [(vl (cL Bound.cs) r'.1), (vb r'.2.1), (vi r'.2.2)]) x e σ)) ⟨ids1, hMids1, hNids1, EI V, H⟩ ?_) ?_
 ·intro s1 e σ hI z h; obtain ⟨ids4, hMids4, hNids4, he, H⟩ := hI; obtain ⟨e, rfl⟩ := he.ex; unfold Z7.s0 at h; refine .tR 1 V H fun b6 σ H => (.iV V (.nila H fun H => (.then ?_))); refine .wh h V ?_ ?_ <;> intro h
  ·refine .skip (.then (.inBlock (.tR 2 V H fun b7 σ H => (.mV V (.aV V (.nila H fun H => (.then (.tR 9 V H fun b8 σ H => ?_)))))))); refine .mB V (.mV V ?_); obtain ⟨x3, q3, h⟩ := bs h; obtain ⟨v1, hv1, hr1⟩ := Z2D (rt := 32) (sz := 2) (c := Bound.cs) hMids4 q3; refine .Z1e H 0 V hNids4 V V (at?_nn q3) (hNids4 ▸ Z1A hv1) V V nofun V ?_; refine .ld v1 H 0 V hNids4 V V hv1 nofun V (.mV V ?_); obtain ⟨x4, q4, h⟩ := bs h; refine .Z2X H (1 + (s1.1).toNat) (Z0C 1 V hr1) V V (at?_map q4) V V nofun V ?_; intro id2 hv2; refine .Z55 (id := id2) H (1 + (s1.1).toNat) (Z0C 1 V hr1) hv2 (by simp) (at?_map q4) V V V V nofun V ?_; refine .bV [(.v (.int .i8 0)), (vi 0)] V (.cV (Z22 (V : Z03 x4 (Bound.mk 0 0) = _)) V (.nila H fun H => ?_)); refine .wh h V ?_ ?_ <;> intro h
   ·refine .tR 3 V H fun b9 σ H => (.a1 .nils V V (.aV V (.aV V (.nila H fun H => (.ret ?_))))); obtain rfl := sj h; exact ⟨nofun, (.inr ⟨_, V, V, (Ends.H (xs := [.nils, (vb false), (vi 0)]) (.inr V) H (.tmp (v := .nils) V (.tmp (v := (vb false)) V (.tmp (v := (vi 0)) V .nil))) (.two (.cons (.c .n) (.cons (.c (.v _)) (.cons (.c (.v _)) .nil)))))⟩)⟩
   refine .skip (.Zn 8 V H fun b10 σ H => (.mB V (.mV V ?_))); obtain ⟨x5, q5, h⟩ := bs h; obtain ⟨v2, hv3, hr2⟩ := Z2D (rt := 32) (sz := 2) (c := Bound.cs) hMids4 q5; refine .Z1e H 0 V hNids4 V V (at?_nn q5) (hNids4 ▸ Z1A hv3) V V nofun V ?_; refine .ld v2 H 0 V hNids4 V V hv3 nofun V (.mV V (.bV [(.v (.int .i8 0)), (vi 0)] V ?_)); obtain ⟨x6, q6, h⟩ := bs h; refine .Z2X H (1 + (s1.1).toNat) (Z0C 1 V hr2) V V (at?_map q6) V V nofun V ?_; intro id3 hv4; refine .storeSt (id := id3) (j := 0) (zs := [(.int .i8 0), (.int .i64 0)]) (u := x6) (u' := (Bound.mk 0 0)) H (1 + (s1.1).toNat) (Z0C 1 V hr2) hv4 (by simp) q6 V (by simp) V V V V V V nofun fun σ H => ?_; have hMs1 : ids4.length = (s1.2.set (s1.1).toNat (x5.set (s1.1).toNat (Bound.mk 0 0))).length := hMids4.trans (Yd ..).symm; replace H : Has σ _ _ (.blk id1 43 ids4 :: (famL 32 2 Bound.cs ids4 (s1.2.set (s1.1).toNat (x5.set (s1.1).toNat (Bound.mk 0 0))) ++ [])) := H.famSet (k := 1) rfl hMids4 hv3; refine .nila H fun H => (.Zn 2 V H fun b11 σ H => (.iV V (.mV V (.nila H fun H => ?_)))); obtain rfl := sj h; exact ⟨V, ids4, hMs1, hNids4, EI V, H⟩
  refine .exit ?_; obtain rfl := sj h; exact ⟨nofun, (.inl ⟨_, ids4, hMids4, hNids4, V, V, EI V, H⟩)⟩
 ·rintro x e σ (⟨a2, ids6, hMids6, hNids6, rfl, rfl, he, H⟩ | ⟨r', rfl, rfl, hE⟩)
  ·replace h := jgo h; obtain ⟨e, rfl⟩ := he.ex; refine .then (.tR 3 V H fun b12 σ H => (.mB V (.lenM H 0 V hNids6 V V nofun V (.mV V (.nila H fun H => (.inBlock ?_)))))); obtain ⟨y2, hj2, h⟩ := bs h; obtain ⟨n2, hj2⟩ := Zc.1 hj2; refine .mono (Runs.loopO hj2 (fun s2 e σ => ∃ (ids9 : List PV), ids9.length = s2.2.length ∧ ids9.length = d.length ∧ ZL e [(5, (.buf id1 d.length 1)), (36, (vi ((d.length : Nat) : Int))), (37, (vi s2.1))] ∧ Hs σ (.blk id1 43 ids9 :: (famL 32 2 Bound.cs ids9 s2.2 ++ []))) (fun y2 x e σ => (∃ a3, ∃ (ids10 : List PV), ids10.length = a3.length ∧ ids10.length = d.length ∧ y2 = (.go a3) ∧ x = .exit 2 ∧ ZL e [(5, (.buf id1 d.length 1))] ∧ Hs σ (.blk id1 43 ids10 :: (famL 32 2 Bound.cs ids10 a3 ++ []))) ∨ (∃ r', y2 = (.ret r') ∧ x = .ret ∧ Ends CX Try.f44.results.toList (.tup [(vl (cL Bound.cs) r'.1), (vb r'.2.1), (vi r'.2.2)]) x e σ)) ⟨ids6, hMids6, hNids6, EI V, H⟩ ?_) ?_
   ·intro s2 e σ hI z h; obtain ⟨ids9, hMids9, hNids9, he, H⟩ := hI; obtain ⟨e, rfl⟩ := he.ex; unfold Z7.s1 at h; refine .tR 1 V H fun b13 σ H => (.iV V (.nila H fun H => (.then ?_))); refine .wh h V ?_ ?_ <;> intro h
    ·refine .skip (.then (.inBlock (.tR 2 V H fun b14 σ H => (.mV V (.aV V (.nila H fun H => (.tR 4 V H fun b15 σ H => (.mB V ?_)))))))); refine .mV V ?_; obtain ⟨y3, hj3, h⟩ := bs h; refine .callI (PostA := fun r A => ∃ (ids11 : List PV), ids11.length = y3.2.length ∧ ids11.length = d.length ∧ r = (vb y3.1) ∧ A = (.blk id1 43 ids11 :: famL 32 2 Bound.cs ids11 y3.2)) (cv := (.v (.fn 70))) (ys := [(.buf id1 d.length 1), (vi s2.1)]) (L := []) (.blk id1 43 ids9 :: famL 32 2 Bound.cs ids9 s2.2) H V V (fun T1 hT H => callI_of Try.func70 V (fun _ => V) V V V V ?_) nofun V ?_
     ·replace h := hj3; refine .tR 1 V H fun b16 σ H => (.aV V (.nila H fun H => (.then (.tR 3 V H fun b17 σ H => (.mB V (.lenM H 0 V hNids9 V V nofun V (.mV V (.nila H fun H => ?_)))))))); refine .inBlock ?_; obtain ⟨y4, hj4, h⟩ := bs h; obtain ⟨n3, hj4⟩ := Zc.1 hj4; refine .mono (Runs.loopO hj4 (fun s3 e σ => ∃ (ids14 : List PV), ids14.length = s3.2.length ∧ ids14.length = d.length ∧ ZL e [(0, (.buf id1 d.length 1)), (1, (vi s2.1)), (11, (vi ((d.length : Nat) : Int))), (12, (vi s3.1))] ∧ Hs σ (.blk id1 43 ids14 :: (famL 32 2 Bound.cs ids14 s3.2 ++ T1))) (fun y4 x e σ => ∃ (ids15 : List PV), ids15.length = y4.length ∧ ids15.length = d.length ∧ x = .exit 0 ∧ ZL e [(0, (.buf id1 d.length 1))] ∧ Hs σ (.blk id1 43 ids15 :: (famL 32 2 Bound.cs ids15 y4 ++ T1))) ⟨ids9, hMids9, hNids9, EI V, H⟩ ?_) ?_
      ·intro s3 e σ hI z h; obtain ⟨ids14, hMids14, hNids14, he, H⟩ := hI; obtain ⟨e, rfl⟩ := he.ex; unfold Z7.s2 at h; refine .tR 1 V H fun b18 σ H => (.iV V (.nila H fun H => (.then ?_))); refine .wh h V ?_ ?_ <;> intro h
       ·refine .skip (.then (.inBlock (.tR 2 V H fun b19 σ H => (.mV V (.aV V (.nila H fun H => (.tR 3 V H fun b20 σ H => (.mB V ?_)))))))); refine .lenM H 0 V hNids14 V V nofun V (.mV V (.nila H fun H => (.inBlock ?_))); obtain ⟨y5, hj5, h⟩ := bs h; obtain ⟨n4, hj5⟩ := Zc.1 hj5; refine .mono (Runs.loopO hj5 (fun s4 e σ => ∃ (ids18 : List PV), ids18.length = s4.2.length ∧ ids18.length = d.length ∧ ZL e [(0, (.buf id1 d.length 1)), (1, (vi s2.1)), (5, (vi s3.1)), (11, (vi ((d.length : Nat) : Int))), (12, (vi s3.1)), (16, (vi ((d.length : Nat) : Int))), (17, (vi s4.1))] ∧ Hs σ (.blk id1 43 ids18 :: (famL 32 2 Bound.cs ids18 s4.2 ++ T1))) (fun y5 x e σ => ∃ (ids19 : List PV), ids19.length = y5.length ∧ ids19.length = d.length ∧ x = .exit 2 ∧ ZL e [(0, (.buf id1 d.length 1)), (1, (vi s2.1)), (11, (vi ((d.length : Nat) : Int))), (12, (vi s3.1))] ∧ Hs σ (.blk id1 43 ids19 :: (famL 32 2 Bound.cs ids19 y5 ++ T1))) ⟨ids14, hMids14, hNids14, EI V, H⟩ ?_) ?_
        ·intro s4 e σ hI z h; obtain ⟨ids18, hMids18, hNids18, he, H⟩ := hI; obtain ⟨e, rfl⟩ := he.ex; unfold Z7.s3 at h; refine .tR 1 V H fun b21 σ H => (.iV V (.nila H fun H => (.then ?_))); refine .wh h V ?_ ?_ <;> intro h
         ·refine .skip (.then ?_); obtain ⟨y6, hj6, h⟩ := bs h; refine .mono (Q := fun x e σ => ∃ (ids20 : List PV), ids20.length = y6.length ∧ ids20.length = d.length ∧ x = .normal ∧ ZL e [(0, (.buf id1 d.length 1)), (1, (vi s2.1)), (5, (vi s3.1)), (11, (vi ((d.length : Nat) : Int))), (12, (vi s3.1)), (16, (vi ((d.length : Nat) : Int))), (17, (vi s4.1))] ∧ Hs σ (.blk id1 43 ids20 :: (famL 32 2 Bound.cs ids20 y6 ++ T1))) ?_ ?_
          ·replace h := hj6; refine .inBlock ?_; obtain ⟨y7, hj7, h⟩ := bs h; refine .mono (Q := fun x e σ => ∃ (ids21 : List PV), ids21.length = y7.length ∧ ids21.length = d.length ∧ x = .normal ∧ ZL e [(0, (.buf id1 d.length 1)), (1, (vi s2.1)), (5, (vi s3.1)), (11, (vi ((d.length : Nat) : Int))), (12, (vi s3.1)), (16, (vi ((d.length : Nat) : Int))), (17, (vi s4.1))] ∧ Hs σ (.blk id1 43 ids21 :: (famL 32 2 Bound.cs ids21 y7 ++ T1))) ?_ ?_
           ·replace h := hj7; refine .tR 2 V H fun b22 σ H => (.mV V (.aV V (.nila H fun H => (.then (.Z1W 21 V (by kernel_rfl) H fun b23 σ H B23 => (.mB V (.mV V ?_))))))); obtain ⟨x7, q7, h⟩ := bs h; obtain ⟨v3, hv5, hr3⟩ := Z2D (rt := 32) (sz := 2) (c := Bound.cs) hMids18 q7; refine .Z1e H 0 V hNids18 V V (at?_nn q7) (hNids18 ▸ Z1A hv5) V V (fun _ => .inl ⟨B23 0 _ V _ V, nofun, (fun _ => by kernel_rfl)⟩) V ?_; refine .ld v3 H 0 V hNids18 V V hv5 (fun _ => .inl ⟨B23 0 _ V _ V, nofun, (fun _ => by kernel_rfl)⟩) V (.mV V ?_); obtain ⟨x8, q8, h⟩ := bs h; refine .Z2X H (1 + (s3.1).toNat) (Z0C 1 V hr3) V V (at?_map q8) V V (fun _ id ho => .inl ⟨B23 (1 + (s3.1).toNat) _ (Z0C 1 V hr3) id ho, nofun, (fun _ => by kernel_rfl)⟩) V ?_; intro id4 hv6; refine .Z55 (id := id4) H (1 + (s3.1).toNat) (Z0C 1 V hr3) hv6 (by simp) (at?_map q8) V V V V (fun _ => .inl ⟨B23 (1 + (s3.1).toNat) _ (Z0C 1 V hr3) _ (by rw [(hv6 : (v3 : PV) = _)]; rfl), nofun, (fun _ => by kernel_rfl)⟩) V ?_; refine .mB V (.mV V ?_); obtain ⟨x9, q9, h⟩ := bs h; obtain ⟨v4, hv7, hr4⟩ := Z2D (rt := 32) (sz := 2) (c := Bound.cs) hMids18 q9; refine .Z1e H 0 V hNids18 V V (at?_nn q9) (hNids18 ▸ Z1A hv7) V V (fun _ => .inl ⟨B23 0 _ V _ V, nofun, (fun _ => by kernel_rfl)⟩) V ?_; refine .ld v4 H 0 V hNids18 V V hv7 (fun _ => .inl ⟨B23 0 _ V _ V, nofun, (fun _ => by kernel_rfl)⟩) V (.mV V ?_); obtain ⟨x10, q10, h⟩ := bs h; refine .Z2X H (1 + (s2.1).toNat) (Z0C 1 V hr4) V V (at?_map q10) V V (fun _ id ho => .inl ⟨B23 (1 + (s2.1).toNat) _ (Z0C 1 V hr4) id ho, nofun, (fun _ => by kernel_rfl)⟩) V ?_; intro id5 hv8
            refine .Z55 (id := id5) H (1 + (s2.1).toNat) (Z0C 1 V hr4) hv8 (by simp) (at?_map q10) V V V V (fun _ => .inl ⟨B23 (1 + (s2.1).toNat) _ (Z0C 1 V hr4) _ (by rw [(hv8 : (v4 : PV) = _)]; rfl), nofun, (fun _ => by kernel_rfl)⟩) V ?_; refine .cV (safe_Sum_fn (V : ZY x8 x10 = _)) V (.m1 (.tup [(.agg [(.v (.int .i8 (ZY x8 x10).1.Inf)), (vi (ZY x8 x10).1.N)]), (vi (ZY x8 x10).2)]) V V (.xV V (.xV V (.Z2U (cs := [(.v (.int .i8 0)), (vi 0)]) H (by omega) (by omega) V V fun σ H => (.storeH (cells' := [(.v (.int .i8 (ZY x8 x10).1.Inf)), (vi (ZY x8 x10).1.N)]) H 0 V V V V V V V V V (fun _ => .inr ⟨18, V, by kernel_rfl, by decide⟩) fun σ H => (.aV V (.nila H fun H => (.then ?_)))))))); refine .Z1W 13 V (by kernel_rfl) H fun b24 σ H B24 => (.mV V (.iV V (.mV V ?_))); obtain ⟨y8, hj8, h⟩ := bs h; refine .md H 10 [(50, (vb y8)), (0, (.buf id1 d.length 1)), (1, (vi s2.1)), (5, (vi s3.1)), (6, (vi s4.1)), (7, (.ptr (b23 + 18) 2 0)), (11, (vi ((d.length : Nat) : Int))), (12, (vi s3.1)), (16, (vi ((d.length : Nat) : Int))), (17, (vi s4.1))] (.blk (b23 + 18) 32 [(.v (.int .i8 (ZY x8 x10).1.Inf)), (vi (ZY x8 x10).1.N)] :: .blk id1 43 ids18 :: (famL 32 2 Bound.cs ids18 s4.2 ++ T1)) V ?_ fun e σ H => ?_
            ·refine .sp hj8 V ?_ ?_ <;> intro h
             ·refine .wt V V (.loadHA (cs := [(.v (.int .i8 (ZY x8 x10).1.Inf)), (vi (ZY x8 x10).1.N)]) H 0 V V V V V V V (fun _ => .inl ⟨B24 0 _ V _ V, nofun, (fun _ => by kernel_rfl)⟩) V (.mB V (.mV V (.wt V V ?_)))); obtain ⟨x11, q11, h⟩ := bs h; obtain ⟨v5, hv9, hr5⟩ := Z2D (rt := 32) (sz := 2) (c := Bound.cs) hMids18 q11; refine .Z1e H 1 V hNids18 V V (at?_nn q11) (hNids18 ▸ Z1A hv9) V V (fun _ => .inl ⟨B24 1 _ V _ V, nofun, (fun _ => by kernel_rfl)⟩) V ?_; refine .wt V V (.ld v5 H 1 V hNids18 V V hv9 (fun _ => .inl ⟨B24 1 _ V _ V, nofun, (fun _ => by kernel_rfl)⟩) V (.mV V (.wt V V ?_))); obtain ⟨x12, q12, h⟩ := bs h; refine .Z2X H (2 + (s3.1).toNat) (Z0C 2 V hr5) V V (at?_map q12) V V (fun _ id ho => .inl ⟨B24 (2 + (s3.1).toNat) _ (Z0C 2 V hr5) id ho, nofun, (fun _ => by kernel_rfl)⟩) V ?_; intro id6 hv10; refine .wt V V ?_; refine .Z55 (id := id6) H (2 + (s3.1).toNat) (Z0C 2 V hr5) hv10 (by simp) (at?_map q12) V V V V (fun _ => .inl ⟨B24 (2 + (s3.1).toNat) _ (Z0C 2 V hr5) _ (by rw [(hv10 : (v5 : PV) = _)]; rfl), nofun, (fun _ => by kernel_rfl)⟩) V ?_; refine .cV (Z22 (V : Z03 ((ZY x8 x10).1) x12 = _)) V (.kT V (.nil ?_)); obtain rfl := sj h; exact ⟨EI V, H.wk (by omega)⟩
             refine .ps 9 V (.kF V (.nil ?_)); obtain rfl := sj h; exact ⟨EI V, H.wk (by omega)⟩
            refine .nila H fun H => ?_; refine .wh h V ?_ ?_ <;> intro h
            ·refine .Z1W 8 V (by kernel_rfl) H fun b25 σ H B25 => (.mB V (.mV V ?_)); obtain ⟨x13, q13, h⟩ := bs h; obtain ⟨v6, hv11, hr6⟩ := Z2D (rt := 32) (sz := 2) (c := Bound.cs) hMids18 q13; refine .Z1e H 1 V hNids18 V V (at?_nn q13) (hNids18 ▸ Z1A hv11) V V (fun _ => .inl ⟨B25 1 _ V _ V, nofun, (fun _ => by kernel_rfl)⟩) V ?_; refine .ld v6 H 1 V hNids18 V V hv11 (fun _ => .inl ⟨B25 1 _ V _ V, nofun, (fun _ => by kernel_rfl)⟩) V (.mV V (.loadHA (cs := [(.v (.int .i8 (ZY x8 x10).1.Inf)), (vi (ZY x8 x10).1.N)]) H 0 V V V V V V V (fun _ => .inl ⟨B25 0 _ V _ V, nofun, (fun _ => by kernel_rfl)⟩) V ?_)); obtain ⟨x14, q14, h⟩ := bs h; refine .Z2X H (2 + (s3.1).toNat) (Z0C 2 V hr6) V V (at?_map q14) V V (fun _ id ho => .inl ⟨B25 (2 + (s3.1).toNat) _ (Z0C 2 V hr6) id ho, nofun, (fun _ => by kernel_rfl)⟩) V ?_; intro id7 hv12; refine .storeSt (id := id7) (j := 0) (zs := [(.int .i8 (ZY x8 x10).1.Inf), (.int .i64 (ZY x8 x10).1.N)]) (u := x14) (u' := ((ZY x8 x10).1)) H (2 + (s3.1).toNat) (Z0C 2 V hr6) hv12 (by simp) q14 V (by simp) V V V V V V (fun _ => .inl ⟨B25 (2 + (s3.1).toNat) _ (Z0C 2 V hr6) _ (by rw [(hv12 : (v6 : PV) = _)]; rfl), (fun _ => by kernel_rfl), nofun⟩) fun σ H => ?_; have hMs2 : ids18.length = (s4.2.set (s3.1).toNat (x13.set (s4.1).toNat ((ZY x8 x10).1))).length := hMids18.trans (Yd ..).symm; replace H : Has σ _ _ (.blk (b23 + 18) 32 [(.v (.int .i8 (ZY x8 x10).1.Inf)), (vi (ZY x8 x10).1.N)] :: .blk id1 43 ids18 :: (famL 32 2 Bound.cs ids18 (s4.2.set (s3.1).toNat (x13.set (s4.1).toNat ((ZY x8 x10).1))) ++ T1)) := H.famSet (k := 2) rfl hMids18 hv11
             refine .nila H fun H => ?_; obtain rfl := sj h; exact ⟨ids18, hMs2, hNids18, V, EI V, (H.erase 0)⟩
            refine .skip ?_; obtain rfl := sj h; exact ⟨ids18, hMids18, hNids18, V, EI V, (H.erase 0)⟩
           ·rintro x e σ ⟨ids22, hMids22, hNids22, rfl, he, H⟩; obtain ⟨e, rfl⟩ := he.ex; obtain rfl := sj h; exact ⟨ids22, hMids22, hNids22, V, EI V, H⟩
          ·rintro x e σ ⟨ids23, hMids23, hNids23, rfl, he, H⟩; obtain ⟨e, rfl⟩ := he.ex; refine .Zn 2 V H fun b26 σ H => (.iV V (.mV V (.nila H fun H => ?_))); obtain rfl := sj h; exact ⟨V, ids23, hMids23, hNids23, EI V, H⟩
         refine .exit ?_; obtain rfl := sj h; exact ⟨nofun, ⟨ids18, hMids18, hNids18, V, EI V, H⟩⟩
        ·rintro x e σ ⟨ids24, hMids24, hNids24, rfl, he, H⟩; obtain ⟨e, rfl⟩ := he.ex; refine .Zn 2 V H fun b27 σ H => (.iV V (.mV V (.nila H fun H => ?_))); obtain rfl := sj h; exact ⟨V, ids24, hMids24, hNids24, EI V, H⟩
       refine .exit ?_; obtain rfl := sj h; exact ⟨nofun, ⟨ids14, hMids14, hNids14, V, EI V, H⟩⟩
      ·rintro x e σ ⟨ids25, hMids25, hNids25, rfl, he, H⟩; obtain ⟨e, rfl⟩ := he.ex; refine .then (.tR 3 V H fun b28 σ H => (.mB V (.lenM H 0 V hNids25 V V nofun V (.mV V (.nila H fun H => (.inBlock ?_)))))); obtain ⟨y9, hj9, h⟩ := bs h; obtain ⟨n5, hj9⟩ := Zc.1 hj9; refine .mono (Runs.loopO hj9 (fun s5 e σ => ZL e [(0, (.buf id1 d.length 1)), (61, (vi ((d.length : Nat) : Int))), (62, (vi s5))] ∧ Hs σ (.blk id1 43 ids25 :: (famL 32 2 Bound.cs ids25 y4 ++ T1))) (fun y9 x e σ => (∃ a4, y9 = (.go a4) ∧ x = .exit 4 ∧ ZL e [] ∧ Hs σ (.blk id1 43 ids25 :: (famL 32 2 Bound.cs ids25 y4 ++ T1))) ∨ (∃ a5, y9 = (.ret a5) ∧ x = .ret ∧ ZL e [(4, (vb false))] ∧ Hs σ (.blk id1 43 ids25 :: (famL 32 2 Bound.cs ids25 y4 ++ T1)))) ⟨EI V, H⟩ ?_) ?_
       ·intro s5 e σ hI z h; obtain ⟨he, H⟩ := hI; obtain ⟨e, rfl⟩ := he.ex; unfold Z7.s4 at h; refine .tR 1 V H fun b29 σ H => (.iV V (.nila H fun H => (.then ?_))); refine .wh h V ?_ ?_ <;> intro h
        ·refine .skip (.then (.inBlock (.tR 2 V H fun b30 σ H => (.mV V (.aV V (.nila H fun H => (.tR 9 V H fun b31 σ H => (.mB V ?_)))))))); refine .mV V ?_; obtain ⟨x15, q15, h⟩ := bs h; obtain ⟨v7, hv13, hr7⟩ := Z2D (rt := 32) (sz := 2) (c := Bound.cs) hMids25 q15; refine .Z1e H 0 V hNids25 V V (at?_nn q15) (hNids25 ▸ Z1A hv13) V V nofun V ?_; refine .ld v7 H 0 V hNids25 V V hv13 nofun V (.mV V ?_); obtain ⟨x16, q16, h⟩ := bs h; refine .Z2X H (1 + (s5).toNat) (Z0C 1 V hr7) V V (at?_map q16) V V nofun V ?_; intro id8 hv14; refine .Z55 (id := id8) H (1 + (s5).toNat) (Z0C 1 V hr7) hv14 (by simp) (at?_map q16) V V V V nofun V ?_; refine .bV [(.v (.int .i8 0)), (vi 0)] V (.cV (Z22 (V : Z03 x16 (Bound.mk 0 0) = _)) V (.nila H fun H => ?_)); refine .wh h V ?_ ?_ <;> intro h
         ·refine .tR 1 V H fun b32 σ H => (.aV V (.nila H fun H => (.ret ?_))); obtain rfl := sj h; exact ⟨nofun, (.inr ⟨_, V, V, EI V, H⟩)⟩
         refine .skip (.Zn 2 V H fun b33 σ H => (.iV V (.mV V (.nila H fun H => ?_)))); obtain rfl := sj h; exact ⟨V, EI V, H⟩
        refine .exit ?_; obtain rfl := sj h; exact ⟨nofun, (.inl ⟨_, V, V, U, H⟩)⟩
       ·rintro x e σ (⟨a6, rfl, rfl, he, H⟩ | ⟨a7, rfl, rfl, he, H⟩)
        ·replace h := jgo h; obtain ⟨e, rfl⟩ := he.ex; refine .tR 1 V H fun b34 σ H => (.aV V (.nila H fun H => (.ret ?_))); obtain rfl := sj h; exact ⟨.inr V, _, Z1N H (.tmp (v := (vb true)) V .nil), _, ⟨ids25, hMids25, hNids25, V, V⟩, H⟩
        ·replace h := jret h; obtain ⟨e, rfl⟩ := he.ex; obtain rfl := sj h; exact ⟨.inr V, _, Z1N H (.tmp (v := (vb false)) V .nil), _, ⟨ids25, hMids25, hNids25, V, V⟩, H⟩
     ·rintro _ _ σ ⟨ids11, hMids11, hNids11, rfl, rfl⟩ H; refine .tV V (.nila H fun H => ?_); refine .wh h V ?_ ?_ <;> intro h
      ·refine .tR 3 V H fun b35 σ H => (.a1 .nils V V (.aV V (.aV V (.nila H fun H => (.ret ?_))))); obtain rfl := sj h; exact ⟨nofun, (.inr ⟨_, V, V, (Ends.H (xs := [.nils, (vb false), (vi 0)]) (.inr V) H (.tmp (v := .nils) V (.tmp (v := (vb false)) V (.tmp (v := (vi 0)) V .nil))) (.two (.cons (.c .n) (.cons (.c (.v _)) (.cons (.c (.v _)) .nil)))))⟩)⟩
      refine .skip (.Zn 2 V H fun b36 σ H => (.iV V (.mV V (.nila H fun H => ?_)))); obtain rfl := sj h; exact ⟨V, ids11, hMids11, hNids11, EI V, H⟩
    refine .exit ?_; obtain rfl := sj h; exact ⟨nofun, (.inl ⟨_, ids9, hMids9, hNids9, V, V, EI V, H⟩)⟩
   ·rintro x e σ (⟨a8, ids26, hMids26, hNids26, rfl, rfl, he, H⟩ | ⟨r', rfl, rfl, hE⟩)
    ·replace h := jgo h; obtain ⟨e, rfl⟩ := he.ex; refine .tR 4 V H fun b37 σ H => (.mB V (.aB V (.aV V (.aV V (.nila H fun H => (.ret ?_)))))); obtain rfl := sj h; exact (Ends.M (c := Bound.cs) (T := []) (.inr V) H 0 V V hMids26 hNids26 (Z1N H (.tmp (v := (.buf id1 d.length 1)) V (.tmp (v := (vb true)) V (.tmp (v := (vi 0)) V .nil)))) V V)
    ·replace h := jret h; obtain rfl := sj h; exact hE
  ·replace h := jret h; obtain rfl := sj h; exact hE
theorem safe_Sub_fn {a : Int} {b : Int} {r : Int × Int} (h : Z0n a b = r) : Fn CX 21 [(vi a), (vi b)] (.tup [(vi r.1), (vi r.2)]) := by
 refine Fn.go Try.func21 V fun σ H => ?_; unfold Z0n at h; refine .tR 2 V H fun b1 σ H => (.aV V (.aV V (.nila H fun H => (.tR 4 V H fun b2 σ H => (.mV V (.mV V (.iV V (.aV V ?_)))))))); refine .nila H fun H => (.then (.tR 10 V H fun b3 σ H => (.mV V (.mV V (.iV V (.mV V (.iV V (.neB (b := (decide ((w64 (a - b)) < a))) (b' := (decide (b > 0))) V V V V ?_)))))))); refine .mV V ?_; refine .md H 3 [(19, (vb (((decide ((w64 (a - b)) < a)) != (decide (b > 0))) && (b != 0)))), (6, (vi (w64 (a - b))))] [] V ?_ fun e σ H => ?_
 ·refine .split V V ?_ ?_ <;> intro hc1
  ·refine .mV V (.iV V (.kT V (.nil ?_))); exact ⟨⟨Z2h hc1, V, U⟩, H.wk (by omega)⟩
  ·refine .ps 2 V (.kF V (.nil ?_)); exact ⟨⟨Z2n hc1, V, U⟩, H.wk (by omega)⟩
 refine .nila H fun H => ?_; refine .wh h V ?_ ?_ <;> intro h
 ·refine .tR 2 V H fun b4 σ H => (.aV V (.aV V (.nila H fun H => (.ret ?_)))); subst h; exact Ends.eR V
 refine .skip (.tR 3 V H fun b5 σ H => (.mV V (.aV V (.aV V (.nila H fun H => (.ret ?_)))))); subst h; exact Ends.eR V
theorem Z4O {d : (List (List Bound))} {ticks : (List Int)} {r : Bool} (h : ZS d ticks = some r) : Fn CX 39 [(vl (cL Bound.cs) d), (vl (cI .i64) ticks)] (vb r) := by
 refine Fn.go Try.func39 V fun σ H => ?_; unfold ZS at h; refine .tR 1 V H fun b1 σ H => (.aV V (.nila H fun H => (.then (.tR 10 V H fun b2 σ H => (.mV V ?_))))); obtain ⟨x1, q1, h⟩ := bs h; refine .cV (Z31 q1) V (.tV V (.mV V ?_)); refine .md H 6 [(20, (vb ((!x1) || ((ticks.length : Int) != (d.length : Int))))), (0, (vl (cL Bound.cs) d)), (1, (vl (cI .i64) ticks))] [] rfl ?_ fun e σ H => ?_
 ·refine .split V V ?_ ?_ <;> intro hc1
  ·refine .ps 5 V (.kT V (.nil ?_)); exact ⟨⟨or_T hc1, V, V, U⟩, H.wk (by omega)⟩
  ·refine .mV V (.nV V (.mV V (.nV V (.iV V (.kF V (.nil ?_)))))); exact ⟨⟨or_F hc1, V, V, U⟩, H.wk (by omega)⟩
 refine .nila H fun H => ?_; refine .wh h V ?_ ?_ <;> intro h
 ·refine .tR 1 V H fun b3 σ H => (.aV V (.nila H fun H => (.ret ?_))); obtain rfl := sj h; exact Ends.eR V
 refine .skip (.then (.tR 3 V H fun b4 σ H => (.mV V (.nV V (.mV V (.nila H fun H => (.inBlock ?_))))))); obtain ⟨y1, hj1, h⟩ := bs h; obtain ⟨n1, hj1⟩ := Zc.1 hj1; refine .mono (Runs.loopO hj1 (fun s1 e σ => ZL e [(1, (vl (cI .i64) ticks)), (21, (vl (cL Bound.cs) d)), (22, (vi (d.length : Int))), (23, (vi s1))] ∧ Hs σ []) (fun y1 x e σ => (∃ a1, y1 = (.go a1) ∧ x = .exit 0 ∧ ZL e [] ∧ Hs σ []) ∨ (∃ r', y1 = (.ret r') ∧ x = .ret ∧ Ends CX Try.f39.results.toList (vb r') x e σ)) ⟨EI V, H⟩ ?_) ?_
 ·intro s1 e σ hI z h; obtain ⟨he, H⟩ := hI; obtain ⟨e, rfl⟩ := he.ex; unfold ZS.s0 at h; refine .tR 1 V H fun b5 σ H => (.iV V (.nila H fun H => (.then ?_))); refine .wh h V ?_ ?_ <;> intro h
  ·refine .skip (.then (.inBlock (.tR 5 V H fun b6 σ H => (.mV V ?_)))); obtain ⟨x2, q2, h⟩ := bs h; refine .jV q2 V (.pV V (.aV V (.aV V (.nila H fun H => (.tR 3 V H fun b7 σ H => (.mV V (.nV V (.mV V ?_)))))))); refine .nila H fun H => (.inBlock ?_); obtain ⟨y2, hj2, h⟩ := bs h; obtain ⟨n2, hj2⟩ := Zc.1 hj2; refine .mono (Runs.loopO hj2 (fun s2 e σ => ZL e [(1, (vl (cI .i64) ticks)), (5, (vi s1)), (21, (vl (cL Bound.cs) d)), (22, (vi (d.length : Int))), (23, (vi s1)), (28, (vl Bound.cs x2)), (29, (vi (x2.length : Int))), (30, (vi s2))] ∧ Hs σ []) (fun y2 x e σ => (∃ a2, y2 = (.go a2) ∧ x = .exit 2 ∧ ZL e [(1, (vl (cI .i64) ticks)), (21, (vl (cL Bound.cs) d)), (22, (vi (d.length : Int))), (23, (vi s1))] ∧ Hs σ []) ∨ (∃ r', y2 = (.ret r') ∧ x = .ret ∧ Ends CX Try.f39.results.toList (vb r') x e σ)) ⟨EI V, H⟩ ?_) ?_
   ·intro s2 e σ hI z h; obtain ⟨he, H⟩ := hI; obtain ⟨e, rfl⟩ := he.ex; unfold ZS.s1 at h; refine .tR 1 V H fun b8 σ H => (.iV V (.nila H fun H => (.then ?_))); refine .wh h V ?_ ?_ <;> intro h
    ·refine .skip (.then ?_); obtain ⟨y3, hj3, h⟩ := bs h; refine .mono (Q := fun x e σ => (∃ a3, y3 = (.go a3) ∧ x = .normal ∧ ZL e [(1, (vl (cI .i64) ticks)), (5, (vi s1)), (21, (vl (cL Bound.cs) d)), (22, (vi (d.length : Int))), (23, (vi s1)), (28, (vl Bound.cs x2)), (29, (vi (x2.length : Int))), (30, (vi s2))] ∧ Hs σ []) ∨ (∃ r', y3 = (.ret r') ∧ x = .ret ∧ Ends CX Try.f39.results.toList (vb r') x e σ)) ?_ ?_
     ·replace h := hj3; refine .inBlock ?_; obtain ⟨y4, hj4, h⟩ := bs h; refine .mono (Q := fun x e σ => (∃ a4, y4 = (.go a4) ∧ x = .normal ∧ ZL e [(1, (vl (cI .i64) ticks)), (5, (vi s1)), (21, (vl (cL Bound.cs) d)), (22, (vi (d.length : Int))), (23, (vi s1)), (28, (vl Bound.cs x2)), (29, (vi (x2.length : Int))), (30, (vi s2))] ∧ Hs σ []) ∨ (∃ r', y4 = (.ret r') ∧ x = .ret ∧ Ends CX Try.f39.results.toList (vb r') x e σ)) ?_ ?_
      ·replace h := hj4; refine .tR 6 V H fun b9 σ H => (.mV V ?_); obtain ⟨x3, q3, h⟩ := bs h; refine .jV q3 V (.qV [(.int .i8 x3.Inf), (.int .i64 x3.N)] V (.Z2U (cs := [(.v (.int .i8 0)), (vi 0)]) H (by omega) (by omega) V V fun σ H => (.aV V (.sV [(.v (.int .i8 x3.Inf)), (vi x3.N)] H 0 V fun σ H => (.nila H fun H => (.then (.Z1W 14 V (by kernel_rfl) H fun b10 σ H B10 => (.mV V ?_)))))))); refine .mV V ?_; obtain ⟨x4, q4, h⟩ := bs h; refine .jV q4 V (.pV V (.mV V (.mV V ?_))); obtain ⟨x5, q5, h⟩ := bs h; refine .jV q5 V (.pV V (.cV (safe_Sub_fn V) V (.m1 (.tup [(vi (Z0n x4 x5).1), (vi (Z0n x4 x5).2)]) V V (.xV V (.xV V (.aV V (.aV V (.nila H fun H => ?_)))))))); refine .inBlock ?_; obtain ⟨y5, hj5, h⟩ := bs h; refine .mono (Q := fun x e σ => (∃ a5, y5 = (.go a5) ∧ x = .normal ∧ ZL e [(1, (vl (cI .i64) ticks)), (5, (vi s1)), (21, (vl (cL Bound.cs) d)), (22, (vi (d.length : Int))), (23, (vi s1)), (28, (vl Bound.cs x2)), (29, (vi (x2.length : Int))), (30, (vi s2))] ∧ Hs σ []) ∨ (∃ r', y5 = (.ret r') ∧ x = .ret ∧ Ends CX Try.f39.results.toList (vb r') x e σ)) ?_ ?_
       ·replace h := hj5; refine .tR 4 V H fun b11 σ H => (.fV H 0 V (.lV H 0 V (.iV V (.aV V (.nila H fun H => ?_))))); refine .wh h V ?_ ?_ <;> intro h
        ·refine .skip ?_; obtain rfl := sj h; exact (.inl ⟨_, V, V, EI V, (H.erase 0)⟩)
        refine .then ?_; refine .jn h .normal (fun y6 => [(1, (vl (cI .i64) ticks)), (5, (vi s1)), (21, (vl (cL Bound.cs) d)), (22, (vi (d.length : Int))), (23, (vi s1)), (28, (vl Bound.cs x2)), (29, (vi (x2.length : Int))), (30, (vi s2)), (51, (vb y6))]) (fun y6 => []) (fun y6 h => ?_) fun y6 e σ H h => ?_
        ·refine .then (.Z1W 14 V (by kernel_rfl) H fun b12 σ H B12 => (.mV V (.iV V (.mV V ?_)))); obtain ⟨y7, hj7, h⟩ := bs h; refine .md H 10 [(64, (vb y7)), (1, (vl (cI .i64) ticks)), (5, (vi s1)), (8, (.ptr (b9 + 3) 2 0)), (9, (vi (Z0n x4 x5).1)), (10, (vi (Z0n x4 x5).2)), (21, (vl (cL Bound.cs) d)), (22, (vi (d.length : Int))), (23, (vi s1)), (28, (vl Bound.cs x2)), (29, (vi (x2.length : Int))), (30, (vi s2))] [.blk (b9 + 3) 32 [(.v (.int .i8 x3.Inf)), (vi x3.N)]] V ?_ fun e σ H => ?_
         ·refine .sp hj7 V ?_ ?_ <;> intro h
          ·refine .mV V (.mV V (.wt V V ?_)); obtain ⟨x6, q6, h⟩ := bs h; refine .jV q6 V (.pV V (.mV V (.mV V (.wt V V ?_)))); obtain ⟨x7, q7, h⟩ := bs h; refine .jV q7 V (.pV V (.iV V (.kT V (.nil ?_)))); obtain rfl := sj h; exact ⟨EI V, H.wk (by omega)⟩
          refine .ps 9 V (.kF V (.nil ?_)); obtain rfl := sj h; exact ⟨EI V, H.wk (by omega)⟩
         refine .aV V (.nila H fun H => ?_); refine .wh h V ?_ ?_ <;> intro h
         ·refine .skip ?_; obtain rfl := sj h; exact ⟨V, EI V, (H.erase 0)⟩
         refine .Zn 9 V H fun b13 σ H => (.mV V (.iV V (.mV V ?_))); refine .md H 5 [(72, (vb ((((Z0n x4 x5).2) == 0) && (decide (((Z0n x4 x5).1) > x3.N))))), (1, (vl (cI .i64) ticks)), (5, (vi s1)), (21, (vl (cL Bound.cs) d)), (22, (vi (d.length : Int))), (23, (vi s1)), (28, (vl Bound.cs x2)), (29, (vi (x2.length : Int))), (30, (vi s2))] [] V ?_ fun e σ H => ?_
         ·refine .split V V ?_ ?_ <;> intro hc8
          ·refine .mV V (.fV H 0 V (.lV H 0 V (.iV V (.kT V (.nil ?_))))); exact ⟨⟨Z2h hc8, V, V, V, V, V, V, V, V, U⟩, (H.erase 0).wk (by omega)⟩
          ·refine .ps 4 V (.kF V (.nil ?_)); exact ⟨⟨Z2n hc8, V, V, V, V, V, V, V, V, U⟩, (H.erase 0).wk (by omega)⟩
         refine .aV V (.nila H fun H => ?_); obtain rfl := sj h; exact ⟨V, EI V, H⟩
        refine .wh h V ?_ ?_ <;> intro h
        ·refine .tR 1 V H fun b14 σ H => (.aV V (.nila H fun H => (.ret ?_))); obtain rfl := sj h; exact (.inr ⟨_, V, V, (Ends.H (xs := [(vb false)]) (.inr V) H (.tmp (v := (vb false)) V .nil) (.one (.c (.v _))))⟩)
        refine .skip ?_; obtain rfl := sj h; exact (.inl ⟨_, V, V, EI V, H⟩)
       ·rintro x e σ (⟨a6, rfl, rfl, he, H⟩ | ⟨r', rfl, rfl, hE⟩)
        ·replace h := jgo h; obtain ⟨e, rfl⟩ := he.ex; obtain rfl := sj h; exact (.inl ⟨_, V, V, EI V, H⟩)
        ·replace h := jret h; obtain rfl := sj h; exact (.inr ⟨_, V, V, hE⟩)
      ·rintro x e σ (⟨a7, rfl, rfl, he, H⟩ | ⟨r', rfl, rfl, hE⟩)
       ·replace h := jgo h; obtain ⟨e, rfl⟩ := he.ex; obtain rfl := sj h; exact (.inl ⟨_, V, V, EI V, H⟩)
       ·replace h := jret h; obtain rfl := sj h; exact (.inr ⟨_, V, V, hE⟩)
     ·rintro x e σ (⟨a8, rfl, rfl, he, H⟩ | ⟨r', rfl, rfl, hE⟩)
      ·replace h := jgo h; obtain ⟨e, rfl⟩ := he.ex; refine .Zn 2 V H fun b15 σ H => (.iV V (.mV V (.nila H fun H => ?_))); obtain rfl := sj h; exact ⟨V, EI V, H⟩
      ·replace h := jret h; obtain rfl := sj h; exact ⟨nofun, (.inr ⟨_, V, V, hE⟩)⟩
    refine .exit ?_; obtain rfl := sj h; exact ⟨nofun, (.inl ⟨_, V, V, EI V, H⟩)⟩
   ·rintro x e σ (⟨a9, rfl, rfl, he, H⟩ | ⟨r', rfl, rfl, hE⟩)
    ·replace h := jgo h; obtain ⟨e, rfl⟩ := he.ex; refine .Zn 2 V H fun b16 σ H => (.iV V (.mV V (.nila H fun H => ?_))); obtain rfl := sj h; exact ⟨V, EI V, H⟩
    ·replace h := jret h; obtain rfl := sj h; exact ⟨nofun, (.inr ⟨_, V, V, hE⟩)⟩
  refine .exit ?_; obtain rfl := sj h; exact ⟨nofun, (.inl ⟨_, V, V, U, H⟩)⟩
 ·rintro x e σ (⟨a10, rfl, rfl, he, H⟩ | ⟨r', rfl, rfl, hE⟩)
  ·replace h := jgo h; obtain ⟨e, rfl⟩ := he.ex; refine .tR 1 V H fun b17 σ H => (.aV V (.nila H fun H => (.ret ?_))); obtain rfl := sj h; exact Ends.eR V
  ·replace h := jret h; obtain rfl := sj h; exact hE
theorem Za {n : Int} {r : Bound} (h : Z1 n = r) : Fn CX 62 [(vi n)] (.agg (vs (Bound.cs r))) := by
 refine Fn.go Try.func62 V fun σ H => ?_; unfold Z1 at h; refine .tR 1 V H fun b1 σ H => (.Z2U (cs := [(.v (.int .i8 0)), (vi 0)]) H (by omega) (by omega) V V fun σ H => (.nila H fun H => (.tR 3 V H fun b2 σ H => (.mV V (.bV [(.v (.int .i8 0)), (vi n)] V (.sV [(.v (.int .i8 0)), (vi n)] H 0 V fun σ H => (.nila H fun H => (.ret ?_)))))))); subst h; exact (Ends.H (xs := [(.agg [(.v (.int .i8 0)), (vi n)])]) (.inr V) H (.agg (cs := [(.v (.int .i8 0)), (vi n)]) 0 V V V V V V V .nil) (.one (.p V)))
theorem Z0Q {m : (List (List Bound))} {n : Int} {r : Bool} (h : ZA m n = some r) : Fn CX 48 [(vl (cL Bound.cs) m), (vi n)] (vb r) := by
 refine Fn.go Try.func48 V fun σ H => ?_; unfold ZA at h; refine .tR 1 V H fun b1 σ H => (.aV V (.nila H fun H => (.then (.tR 3 V H fun b2 σ H => (.mV V (.nV V (.mV V (.nila H fun H => ?_)))))))); refine .inBlock ?_; obtain ⟨y1, hj1, h⟩ := bs h; obtain ⟨n1, hj1⟩ := Zc.1 hj1; refine .mono (Runs.loopO hj1 (fun s1 e σ => ZL e [(0, (vl (cL Bound.cs) m)), (1, (vi n)), (7, (vl (cL Bound.cs) m)), (8, (vi (m.length : Int))), (9, (vi s1))] ∧ Hs σ []) (fun y1 x e σ => (∃ a1, y1 = (.go a1) ∧ x = .exit 0 ∧ ZL e [(0, (vl (cL Bound.cs) m)), (1, (vi n))] ∧ Hs σ []) ∨ (∃ r', y1 = (.ret r') ∧ x = .ret ∧ Ends CX Try.f48.results.toList (vb r') x e σ)) ⟨EI V, H⟩ ?_) ?_
 ·intro s1 e σ hI z h; obtain ⟨he, H⟩ := hI; obtain ⟨e, rfl⟩ := he.ex; unfold ZA.s0 at h; refine .tR 1 V H fun b3 σ H => (.iV V (.nila H fun H => (.then ?_))); refine .wh h V ?_ ?_ <;> intro h
  ·refine .skip (.then (.inBlock (.tR 3 V H fun b4 σ H => ?_))); obtain ⟨x1, q1, h⟩ := bs h; refine .jV q1 V (.pV V (.aV V (.nila H fun H => (.tR 4 V H fun b5 σ H => (.mV V (.nV V (.mV V (.iV V ?_)))))))); refine .nila H fun H => ?_; refine .wh h V ?_ ?_ <;> intro h
   ·refine .tR 1 V H fun b6 σ H => (.aV V (.nila H fun H => (.ret ?_))); obtain rfl := sj h; exact ⟨nofun, (.inr ⟨_, V, V, (Ends.H (xs := [(vb false)]) (.inr V) H (.tmp (v := (vb false)) V .nil) (.one (.c (.v _))))⟩)⟩
   refine .skip (.Zn 2 V H fun b7 σ H => (.iV V (.mV V (.nila H fun H => ?_)))); obtain rfl := sj h; exact ⟨V, EI V, H⟩
  refine .exit ?_; obtain rfl := sj h; exact ⟨nofun, (.inl ⟨_, V, V, EI V, H⟩)⟩
 ·rintro x e σ (⟨a2, rfl, rfl, he, H⟩ | ⟨r', rfl, rfl, hE⟩)
  ·replace h := jgo h; obtain ⟨e, rfl⟩ := he.ex; refine .tR 5 V H fun b8 σ H => (.mV V (.nV V (.mV V (.iV V (.aV V (.nila H fun H => (.ret ?_))))))); obtain rfl := sj h; exact Ends.eR V
  ·replace h := jret h; obtain rfl := sj h; exact hE
theorem Z42 {a : (List (List Bound))} {b : (List (List Bound))} {r : Bool} (h : ZU a b = some r) : Fn CX 46 [(vl (cL Bound.cs) a), (vl (cL Bound.cs) b)] (vb r) := by
 refine Fn.go Try.func46 V fun σ H => ?_; unfold ZU at h; refine .tR 1 V H fun b1 σ H => (.aV V (.nila H fun H => (.then (.tR 5 V H fun b2 σ H => (.mV V (.nV V (.mV V (.nV V ?_)))))))); refine .iV V (.nila H fun H => ?_); refine .wh h V ?_ ?_ <;> intro h
 ·refine .tR 1 V H fun b3 σ H => (.aV V (.nila H fun H => (.ret ?_))); obtain rfl := sj h; exact Ends.eR V
 refine .skip (.then (.tR 1 V H fun b4 σ H => (.aV V (.nila H fun H => (.inBlock ?_))))); obtain ⟨y1, hj1, h⟩ := bs h; obtain ⟨n1, hj1⟩ := Zc.1 hj1; refine .mono (Runs.loopO hj1 (fun s1 e σ => ZL e [(0, (vl (cL Bound.cs) a)), (1, (vl (cL Bound.cs) b)), (5, (vi s1))] ∧ Hs σ []) (fun y1 x e σ => (∃ a1, y1 = (.go a1) ∧ x = .exit 0 ∧ ZL e [] ∧ Hs σ []) ∨ (∃ r', y1 = (.ret r') ∧ x = .ret ∧ Ends CX Try.f46.results.toList (vb r') x e σ)) ⟨EI V, H⟩ ?_) ?_
 ·intro s1 e σ hI z h; obtain ⟨he, H⟩ := hI; obtain ⟨e, rfl⟩ := he.ex; unfold ZU.s0 at h; refine .then (.tR 4 V H fun b5 σ H => (.mV V (.mV V (.nV V (.iV V (.nila H fun H => ?_)))))); refine .wh h V ?_ ?_ <;> intro h
  ·refine .skip (.then (.inBlock (.then (.then (.Z1W 11 V (by kernel_rfl) H fun b6 σ H B6 => (.mV V (.mV V ?_))))))); obtain ⟨x1, q1, h⟩ := bs h; refine .jV q1 V (.pV V (.nV V (.mV V (.mV V ?_)))); obtain ⟨x2, q2, h⟩ := bs h; refine .jV q2 V (.pV V (.nV V (.iV V (.nila H fun H => ?_)))); refine .wh h V ?_ ?_ <;> intro h
   ·refine .tR 1 V H fun b7 σ H => (.aV V (.nila H fun H => (.ret ?_))); obtain rfl := sj h; exact ⟨nofun, (.inr ⟨_, V, V, (Ends.H (xs := [(vb false)]) (.inr V) H (.tmp (v := (vb false)) V .nil) (.one (.c (.v _))))⟩)⟩
   refine .skip (.tR 1 V H fun b8 σ H => (.aV V (.nila H fun H => (.inBlock ?_)))); obtain ⟨y2, hj2, h⟩ := bs h; obtain ⟨n2, hj2⟩ := Zc.1 hj2; refine .mono (Runs.loopO hj2 (fun s2 e σ => ZL e [(0, (vl (cL Bound.cs) a)), (1, (vl (cL Bound.cs) b)), (5, (vi s1)), (6, (vi s2))] ∧ Hs σ []) (fun y2 x e σ => (∃ a2, y2 = (.go a2) ∧ x = .exit 2 ∧ ZL e [(0, (vl (cL Bound.cs) a)), (1, (vl (cL Bound.cs) b)), (5, (vi s1))] ∧ Hs σ []) ∨ (∃ r', y2 = (.ret r') ∧ x = .ret ∧ Ends CX Try.f46.results.toList (vb r') x e σ)) ⟨EI V, H⟩ ?_) ?_
   ·intro s2 e σ hI z h; obtain ⟨he, H⟩ := hI; obtain ⟨e, rfl⟩ := he.ex; unfold ZU.s1 at h; refine .then (.tR 7 V H fun b9 σ H => (.mV V (.mV V (.mV V ?_)))); obtain ⟨x3, q3, h⟩ := bs h; refine .jV q3 V (.pV V (.nV V (.iV V (.nila H fun H => ?_)))); refine .wh h V ?_ ?_ <;> intro h
    ·refine .skip (.then (.inBlock (.then (.Z1W 15 V (by kernel_rfl) H fun b10 σ H B10 => (.mV V (.mV V ?_)))))); obtain ⟨x4, q4, h⟩ := bs h; refine .jV q4 V (.pV V (.mV V ?_)); obtain ⟨x5, q5, h⟩ := bs h; refine .jV q5 V (.qV [(.int .i8 x5.Inf), (.int .i64 x5.N)] V (.mV V (.mV V ?_))); obtain ⟨x6, q6, h⟩ := bs h; refine .jV q6 V (.pV V (.mV V ?_)); obtain ⟨x7, q7, h⟩ := bs h; refine .jV q7 V (.qV [(.int .i8 x7.Inf), (.int .i64 x7.N)] V (.binA (u := (.agg [(.v (.int .i8 x5.Inf)), (vi x5.N)])) (w := (.agg [(.v (.int .i8 x7.Inf)), (vi x7.N)])) (r := .bool (!((x5.Inf == x7.Inf) && ((x5.N == x7.N) && true)))) V V (by kernel_rfl) (fun _ => ask_eqA V V V V) V (.nila H fun H => ?_))); refine .wh h V ?_ ?_ <;> intro h
     ·refine .tR 1 V H fun b11 σ H => (.aV V (.nila H fun H => (.ret ?_))); obtain rfl := sj h; exact ⟨nofun, (.inr ⟨_, V, V, (Ends.H (xs := [(vb false)]) (.inr V) H (.tmp (v := (vb false)) V .nil) (.one (.c (.v _))))⟩)⟩
     refine .skip (.Zn 3 V H fun b12 σ H => (.mV V (.iV V (.aV V (.nila H fun H => ?_))))); obtain rfl := sj h; exact ⟨V, EI V, H⟩
    refine .exit ?_; obtain rfl := sj h; exact ⟨nofun, (.inl ⟨_, V, V, EI V, H⟩)⟩
   ·rintro x e σ (⟨a3, rfl, rfl, he, H⟩ | ⟨r', rfl, rfl, hE⟩)
    ·replace h := jgo h; obtain ⟨e, rfl⟩ := he.ex; refine .Zn 3 V H fun b13 σ H => (.mV V (.iV V (.aV V (.nila H fun H => ?_)))); obtain rfl := sj h; exact ⟨V, EI V, H⟩
    ·replace h := jret h; obtain rfl := sj h; exact ⟨nofun, (.inr ⟨_, V, V, hE⟩)⟩
  refine .exit ?_; obtain rfl := sj h; exact ⟨nofun, (.inl ⟨_, V, V, U, H⟩)⟩
 ·rintro x e σ (⟨a4, rfl, rfl, he, H⟩ | ⟨r', rfl, rfl, hE⟩)
  ·replace h := jgo h; obtain ⟨e, rfl⟩ := he.ex; refine .tR 1 V H fun b14 σ H => (.aV V (.nila H fun H => (.ret ?_))); obtain rfl := sj h; exact Ends.eR V
  ·replace h := jret h; obtain rfl := sj h; exact hE
theorem Z3H {r : Bool} (h : Z0P = some r) : Fn CX 35 [] (vb r) := by
 refine Fn.go Try.func35 V fun σ H => ?_; unfold Z0P at h; refine .tR 1 V H fun b1 σ H => (.aV V (.nila H fun H => (.tR 11 V H fun b2 σ H => (.cV (Za V) V (.bV [(vi 0), (vi 1), (.v (.int .i8 (Z1 5).Inf)), (vi (Z1 5).N)] V (.cV (Za V) V (.bV [(vi 1), (vi 0), (.v (.int .i8 (Z1 (-2)).Inf)), (vi (Z1 (-2)).N)] V (.Z2t (sz := 4) ([(epactlaw24_Set.mk 0 1 (Z1 5)), (epactlaw24_Set.mk 1 0 (Z1 (-2)))].map epactlaw24_Set.cs) H (by omega) (by omega) V V V V V V V V V fun σ H => ?_)))))))); obtain ⟨x1, q1, h⟩ := bs h; refine .callX (xs := [(vi 2), (.buf (b2 + 4) 2 4)]) (ys := [(vi 2), (vl epactlaw24_Set.cs [(epactlaw24_Set.mk 0 1 (Z1 5)), (epactlaw24_Set.mk 1 0 (Z1 (-2)))])]) H V (.cons (.c (.v _)) (.cons (.c (.s 0 V)) .nil)) (Z0X q1) V V nofun V fun σ H => (.m1 (.tup [(vl (cL Bound.cs) x1.1), (vb x1.2)]) V V (.xV V (.xV V (.aV V (.aV V (.nila H fun H => (.tR 9 V H fun b3 σ H => (.mV V ?_)))))))); obtain ⟨x2, q2, h⟩ := bs h; refine .cV (Z1S q2) V (.m1 (.tup [(vl (cL Bound.cs) x2.1), (vb x2.2.1), (vi x2.2.2)]) V V (.xV V (.xV V (.xV V (.aV V (.aV V (.aV V (.nila H fun H => ?_)))))))); refine .tR 13 V H fun b4 σ H => (.cV (Za V) V (.bV [(vi 0), (vi 1), (.v (.int .i8 (Z1 5).Inf)), (vi (Z1 5).N)] V (.cV (Za V) V (.bV [(vi 1), (vi 0), (.v (.int .i8 (Z1 (-2)).Inf)), (vi (Z1 (-2)).N)] V (.cV (Za V) V (.bV [(vi 1), (vi 2), (.v (.int .i8 (Z1 1).Inf)), (vi (Z1 1).N)] V (.Z2t (sz := 4) ([(epactlaw24_Set.mk 0 1 (Z1 5)), (epactlaw24_Set.mk 1 0 (Z1 (-2))), (epactlaw24_Set.mk 1 2 (Z1 1))].map epactlaw24_Set.cs) H (by omega) (by omega) V V V V V V V V V fun σ H => ?_)))))))
 obtain ⟨x3, q3, h⟩ := bs h; refine .callX (xs := [(vi 3), (.buf (b4 + 6) 3 4)]) (ys := [(vi 3), (vl epactlaw24_Set.cs [(epactlaw24_Set.mk 0 1 (Z1 5)), (epactlaw24_Set.mk 1 0 (Z1 (-2))), (epactlaw24_Set.mk 1 2 (Z1 1))])]) H V (.cons (.c (.v _)) (.cons (.c (.s 0 V)) .nil)) (Z0X q3) V V nofun V fun σ H => (.m1 (.tup [(vl (cL Bound.cs) x3.1), (vb x3.2)]) V V (.xV V (.xV V (.aV V (.aV V (.nila H fun H => (.tR 9 V H fun b5 σ H => (.mV V ?_)))))))); obtain ⟨x4, q4, h⟩ := bs h; refine .cV (Z1S q4) V (.m1 (.tup [(vl (cL Bound.cs) x4.1), (vb x4.2.1), (vi x4.2.2)]) V V (.xV V (.xV V (.xV V (.aV V (.aV V (.aV V (.nila H fun H => ?_)))))))); refine .tR 11 V H fun b6 σ H => (.cV (Za V) V (.bV [(vi 0), (vi 1), (.v (.int .i8 (Z1 5).Inf)), (vi (Z1 5).N)] V (.cV (Za V) V (.bV [(vi 1), (vi 0), (.v (.int .i8 (Z1 (-6)).Inf)), (vi (Z1 (-6)).N)] V (.Z2t (sz := 4) ([(epactlaw24_Set.mk 0 1 (Z1 5)), (epactlaw24_Set.mk 1 0 (Z1 (-6)))].map epactlaw24_Set.cs) H (by omega) (by omega) V V V V V V V V V fun σ H => ?_))))); obtain ⟨x5, q5, h⟩ := bs h; refine .callX (xs := [(vi 2), (.buf (b6 + 4) 2 4)]) (ys := [(vi 2), (vl epactlaw24_Set.cs [(epactlaw24_Set.mk 0 1 (Z1 5)), (epactlaw24_Set.mk 1 0 (Z1 (-6)))])]) H V (.cons (.c (.v _)) (.cons (.c (.s 0 V)) .nil)) (Z0X q5) V V nofun V fun σ H => (.m1 (.tup [(vl (cL Bound.cs) x5.1), (vb x5.2)]) V V (.xV V (.xV V (.aV V (.aV V (.nila H fun H => (.tR 9 V H fun b7 σ H => (.mV V ?_))))))))
 obtain ⟨x6, q6, h⟩ := bs h; refine .cV (Z1S q6) V (.m1 (.tup [(vl (cL Bound.cs) x6.1), (vb x6.2.1), (vi x6.2.2)]) V V (.xV V (.xV V (.xV V (.aV V (.aV V (.aV V (.nila H fun H => ?_)))))))); refine .tR 6 V H fun b8 σ H => ?_; obtain ⟨x7, q7, h⟩ := bs h; refine .cV (Z5u q7) V (.m1 (.tup [(vl (cL Bound.cs) x7.1), (vi x7.2)]) V V (.xV V (.xV V (.aV V (.aV V (.nila H fun H => (.then (.tR 47 V H fun b9 σ H => ?_)))))))); refine .mV V (.tV V (.mV V ?_)); refine .md H 3 [(74, (vb ((!x1.2) || (!x3.2)))), (1, (vl (cL Bound.cs) x1.1)), (3, (vl (cL Bound.cs) x2.1)), (4, (vb x2.2.1)), (5, (vi x2.2.2)), (8, (vl (cL Bound.cs) x4.1)), (9, (vb x4.2.1)), (10, (vi x4.2.2)), (12, (vb x5.2)), (14, (vb x6.2.1)), (15, (vi x6.2.2)), (16, (vl (cL Bound.cs) x7.1)), (17, (vi x7.2))] [] rfl ?_ fun e σ H => ?_
 ·refine .split V V ?_ ?_ <;> intro hc1
  ·refine .ps 2 V (.kT V (.nil ?_)); exact ⟨⟨or_T hc1, V, V, V, V, V, V, V, V, V, V, V, V, U⟩, (((H.erase 2).erase 1).erase 0).wk (by omega)⟩
  ·refine .mV V (.tV V (.kF V (.nil ?_))); exact ⟨⟨or_F hc1, V, V, V, V, V, V, V, V, V, V, V, V, U⟩, (((H.erase 2).erase 1).erase 0).wk (by omega)⟩
 refine .mV V ?_; refine .md H 3 [(78, (vb (((!x1.2) || (!x3.2)) || (!x5.2)))), (1, (vl (cL Bound.cs) x1.1)), (3, (vl (cL Bound.cs) x2.1)), (4, (vb x2.2.1)), (5, (vi x2.2.2)), (8, (vl (cL Bound.cs) x4.1)), (9, (vb x4.2.1)), (10, (vi x4.2.2)), (14, (vb x6.2.1)), (15, (vi x6.2.2)), (16, (vl (cL Bound.cs) x7.1)), (17, (vi x7.2))] [] rfl ?_ fun e σ H => ?_
 ·refine .split V V ?_ ?_ <;> intro hc2
  ·refine .ps 2 V (.kT V (.nil ?_)); exact ⟨⟨or_T hc2, V, V, V, V, V, V, V, V, V, V, V, U⟩, H.wk (by omega)⟩
  ·refine .mV V (.tV V (.kF V (.nil ?_))); exact ⟨⟨or_F hc2, V, V, V, V, V, V, V, V, V, V, V, U⟩, H.wk (by omega)⟩
 refine .mV V ?_; refine .md H 3 [(82, (vb ((((!x1.2) || (!x3.2)) || (!x5.2)) || (!x2.2.1)))), (1, (vl (cL Bound.cs) x1.1)), (3, (vl (cL Bound.cs) x2.1)), (5, (vi x2.2.2)), (8, (vl (cL Bound.cs) x4.1)), (9, (vb x4.2.1)), (10, (vi x4.2.2)), (14, (vb x6.2.1)), (15, (vi x6.2.2)), (16, (vl (cL Bound.cs) x7.1)), (17, (vi x7.2))] [] rfl ?_ fun e σ H => ?_
 ·refine .split V V ?_ ?_ <;> intro hc3
  ·refine .ps 2 V (.kT V (.nil ?_)); exact ⟨⟨or_T hc3, V, V, V, V, V, V, V, V, V, V, U⟩, H.wk (by omega)⟩
  ·refine .mV V (.tV V (.kF V (.nil ?_))); exact ⟨⟨or_F hc3, V, V, V, V, V, V, V, V, V, V, U⟩, H.wk (by omega)⟩
 refine .mV V ?_; refine .md H 3 [(86, (vb (((((!x1.2) || (!x3.2)) || (!x5.2)) || (!x2.2.1)) || (!x4.2.1)))), (1, (vl (cL Bound.cs) x1.1)), (3, (vl (cL Bound.cs) x2.1)), (5, (vi x2.2.2)), (8, (vl (cL Bound.cs) x4.1)), (10, (vi x4.2.2)), (14, (vb x6.2.1)), (15, (vi x6.2.2)), (16, (vl (cL Bound.cs) x7.1)), (17, (vi x7.2))] [] rfl ?_ fun e σ H => ?_
 ·refine .split V V ?_ ?_ <;> intro hc4
  ·refine .ps 2 V (.kT V (.nil ?_)); exact ⟨⟨or_T hc4, V, V, V, V, V, V, V, V, V, U⟩, H.wk (by omega)⟩
  ·refine .mV V (.tV V (.kF V (.nil ?_))); exact ⟨⟨or_F hc4, V, V, V, V, V, V, V, V, V, U⟩, H.wk (by omega)⟩
 refine .mV V ?_; refine .md H 2 [(89, (vb ((((((!x1.2) || (!x3.2)) || (!x5.2)) || (!x2.2.1)) || (!x4.2.1)) || x6.2.1))), (1, (vl (cL Bound.cs) x1.1)), (3, (vl (cL Bound.cs) x2.1)), (5, (vi x2.2.2)), (8, (vl (cL Bound.cs) x4.1)), (10, (vi x4.2.2)), (15, (vi x6.2.2)), (16, (vl (cL Bound.cs) x7.1)), (17, (vi x7.2))] [] rfl ?_ fun e σ H => ?_
 ·refine .split V V ?_ ?_ <;> intro hc5
  ·refine .ps 1 V (.kT V (.nil ?_)); exact ⟨⟨or_T hc5, V, V, V, V, V, V, V, V, U⟩, H.wk (by omega)⟩
  ·refine .mV V (.kF V (.nil ?_)); exact ⟨⟨or_F hc5, V, V, V, V, V, V, V, V, U⟩, H.wk (by omega)⟩
 refine .mV V ?_; refine .md H 3 [(93, (vb (((((((!x1.2) || (!x3.2)) || (!x5.2)) || (!x2.2.1)) || (!x4.2.1)) || x6.2.1) || (x2.2.2 != 0)))), (1, (vl (cL Bound.cs) x1.1)), (3, (vl (cL Bound.cs) x2.1)), (8, (vl (cL Bound.cs) x4.1)), (10, (vi x4.2.2)), (15, (vi x6.2.2)), (16, (vl (cL Bound.cs) x7.1)), (17, (vi x7.2))] [] rfl ?_ fun e σ H => ?_
 ·refine .split V V ?_ ?_ <;> intro hc6
  ·refine .ps 2 V (.kT V (.nil ?_)); exact ⟨⟨or_T hc6, V, V, V, V, V, V, V, U⟩, H.wk (by omega)⟩
  ·refine .mV V (.iV V (.kF V (.nil ?_))); exact ⟨⟨or_F hc6, V, V, V, V, V, V, V, U⟩, H.wk (by omega)⟩
 refine .mV V ?_; refine .md H 3 [(97, (vb ((((((((!x1.2) || (!x3.2)) || (!x5.2)) || (!x2.2.1)) || (!x4.2.1)) || x6.2.1) || (x2.2.2 != 0)) || (x4.2.2 != 0)))), (1, (vl (cL Bound.cs) x1.1)), (3, (vl (cL Bound.cs) x2.1)), (8, (vl (cL Bound.cs) x4.1)), (15, (vi x6.2.2)), (16, (vl (cL Bound.cs) x7.1)), (17, (vi x7.2))] [] rfl ?_ fun e σ H => ?_
 ·refine .split V V ?_ ?_ <;> intro hc7
  ·refine .ps 2 V (.kT V (.nil ?_)); exact ⟨⟨or_T hc7, V, V, V, V, V, V, U⟩, H.wk (by omega)⟩
  ·refine .mV V (.iV V (.kF V (.nil ?_))); exact ⟨⟨or_F hc7, V, V, V, V, V, V, U⟩, H.wk (by omega)⟩
 refine .mV V ?_; refine .md H 3 [(101, (vb (((((((((!x1.2) || (!x3.2)) || (!x5.2)) || (!x2.2.1)) || (!x4.2.1)) || x6.2.1) || (x2.2.2 != 0)) || (x4.2.2 != 0)) || (x6.2.2 != 0)))), (1, (vl (cL Bound.cs) x1.1)), (3, (vl (cL Bound.cs) x2.1)), (8, (vl (cL Bound.cs) x4.1)), (16, (vl (cL Bound.cs) x7.1)), (17, (vi x7.2))] [] rfl ?_ fun e σ H => ?_
 ·refine .split V V ?_ ?_ <;> intro hc8
  ·refine .ps 2 V (.kT V (.nil ?_)); exact ⟨⟨or_T hc8, V, V, V, V, V, U⟩, H.wk (by omega)⟩
  ·refine .mV V (.iV V (.kF V (.nil ?_))); exact ⟨⟨or_F hc8, V, V, V, V, V, U⟩, H.wk (by omega)⟩
 refine .mV V ?_; refine .md H 3 [(105, (vb ((((((((((!x1.2) || (!x3.2)) || (!x5.2)) || (!x2.2.1)) || (!x4.2.1)) || x6.2.1) || (x2.2.2 != 0)) || (x4.2.2 != 0)) || (x6.2.2 != 0)) || (x7.2 != 0)))), (1, (vl (cL Bound.cs) x1.1)), (3, (vl (cL Bound.cs) x2.1)), (8, (vl (cL Bound.cs) x4.1)), (16, (vl (cL Bound.cs) x7.1))] [] rfl ?_ fun e σ H => ?_
 ·refine .split V V ?_ ?_ <;> intro hc9
  ·refine .ps 2 V (.kT V (.nil ?_)); exact ⟨⟨or_T hc9, V, V, V, V, U⟩, H.wk (by omega)⟩
  ·refine .mV V (.iV V (.kF V (.nil ?_))); exact ⟨⟨or_F hc9, V, V, V, V, U⟩, H.wk (by omega)⟩
 refine .mV V ?_; obtain ⟨y1, hj1, h⟩ := bs h; refine .md H 4 [(110, (vb y1)), (1, (vl (cL Bound.cs) x1.1)), (3, (vl (cL Bound.cs) x2.1)), (8, (vl (cL Bound.cs) x4.1)), (16, (vl (cL Bound.cs) x7.1))] [] V ?_ fun e σ H => ?_
 ·refine .sp hj1 V ?_ ?_ <;> intro h
  ·refine .ps 3 V (.kT V (.nil ?_)); obtain rfl := sj h; exact ⟨EI V, H.wk (by omega)⟩
  refine .mV V (.wt V V ?_); obtain ⟨x8, q8, h⟩ := bs h; refine .cV (Z0Q q8) V (.tV V (.kF V (.nil ?_))); obtain rfl := sj h; exact ⟨EI V, H.wk (by omega)⟩
 refine .mV V ?_; obtain ⟨y2, hj2, h⟩ := bs h; refine .md H 4 [(115, (vb y2)), (1, (vl (cL Bound.cs) x1.1)), (3, (vl (cL Bound.cs) x2.1)), (8, (vl (cL Bound.cs) x4.1)), (16, (vl (cL Bound.cs) x7.1))] [] V ?_ fun e σ H => ?_
 ·refine .sp hj2 V ?_ ?_ <;> intro h
  ·refine .ps 3 V (.kT V (.nil ?_)); obtain rfl := sj h; exact ⟨EI V, H.wk (by omega)⟩
  refine .mV V (.wt V V ?_); obtain ⟨x9, q9, h⟩ := bs h; refine .cV (Z0Q q9) V (.tV V (.kF V (.nil ?_))); obtain rfl := sj h; exact ⟨EI V, H.wk (by omega)⟩
 refine .nila H fun H => ?_; refine .wh h V ?_ ?_ <;> intro h
 ·refine .tR 1 V H fun b10 σ H => (.aV V (.nila H fun H => (.ret ?_))); obtain rfl := sj h; exact Ends.eR V
 refine .skip (.then (.Z1W 42 V (by kernel_rfl) H fun b11 σ H B11 => (.mV V (.mV V ?_)))); obtain ⟨x10, q10, h⟩ := bs h; refine .cV (Z42 q10) V (.mV V ?_); obtain ⟨y3, hj3, h⟩ := bs h; refine .md H 8 [(127, (vb y3)), (1, (vl (cL Bound.cs) x1.1)), (16, (vl (cL Bound.cs) x7.1))] [] V ?_ fun e σ H => ?_
 ·refine .sp hj3 V ?_ ?_ <;> intro h
  ·refine .mV V (.wt V V ?_); obtain ⟨x11, q11, h⟩ := bs h; refine .jV q11 V (.pV V (.wt V V ?_)); obtain ⟨x12, q12, h⟩ := bs h; refine .jV q12 V (.qV [(.int .i8 x12.Inf), (.int .i64 x12.N)] V (.cV (Za V) V (.wt V V (.binA (u := (.agg [(.v (.int .i8 x12.Inf)), (vi x12.N)])) (w := (.agg [(.v (.int .i8 (Z1 6).Inf)), (vi (Z1 6).N)])) (r := .bool ((x12.Inf == ((Z1 6).Inf)) && ((x12.N == ((Z1 6).N)) && true))) V V (by kernel_rfl) (fun _ => ask_eqA V V V V) V (.kT V (.nil ?_)))))); obtain rfl := sj h; exact ⟨EI V, H.wk (by omega)⟩
  refine .ps 7 V (.kF V (.nil ?_)); obtain rfl := sj h; exact ⟨EI V, H.wk (by omega)⟩
 refine .mV V ?_; obtain ⟨y4, hj4, h⟩ := bs h; refine .md H 8 [(136, (vb y4)), (1, (vl (cL Bound.cs) x1.1)), (16, (vl (cL Bound.cs) x7.1))] [] V ?_ fun e σ H => ?_
 ·refine .sp hj4 V ?_ ?_ <;> intro h
  ·refine .mV V (.wt V V ?_); obtain ⟨x13, q13, h⟩ := bs h; refine .jV q13 V (.pV V (.wt V V ?_)); obtain ⟨x14, q14, h⟩ := bs h; refine .jV q14 V (.qV [(.int .i8 x14.Inf), (.int .i64 x14.N)] V (.cV (Za V) V (.wt V V (.binA (u := (.agg [(.v (.int .i8 x14.Inf)), (vi x14.N)])) (w := (.agg [(.v (.int .i8 (Z1 0).Inf)), (vi (Z1 0).N)])) (r := .bool ((x14.Inf == ((Z1 0).Inf)) && ((x14.N == ((Z1 0).N)) && true))) V V (by kernel_rfl) (fun _ => ask_eqA V V V V) V (.kT V (.nil ?_)))))); obtain rfl := sj h; exact ⟨EI V, H.wk (by omega)⟩
  refine .ps 7 V (.kF V (.nil ?_)); obtain rfl := sj h; exact ⟨EI V, H.wk (by omega)⟩
 refine .mV V ?_; obtain ⟨y5, hj5, h⟩ := bs h; refine .md H 8 [(145, (vb y5)), (1, (vl (cL Bound.cs) x1.1))] [] V ?_ fun e σ H => ?_
 ·refine .sp hj5 V ?_ ?_ <;> intro h
  ·refine .mV V (.wt V V ?_); obtain ⟨x15, q15, h⟩ := bs h; refine .jV q15 V (.pV V (.wt V V ?_)); obtain ⟨x16, q16, h⟩ := bs h; refine .jV q16 V (.qV [(.int .i8 x16.Inf), (.int .i64 x16.N)] V (.bV [(.v (.int .i8 1)), (vi 0)] V (.wt V V (.binA (u := (.agg [(.v (.int .i8 x16.Inf)), (vi x16.N)])) (w := (.agg [(.v (.int .i8 1)), (vi 0)])) (r := .bool ((x16.Inf == 1) && ((x16.N == 0) && true))) V V (by kernel_rfl) (fun _ => ask_eqA V V V V) V (.kT V (.nil ?_)))))); obtain rfl := sj h; exact ⟨EI V, H.wk (by omega)⟩
  refine .ps 7 V (.kF V (.nil ?_)); obtain rfl := sj h; exact ⟨EI V, H.wk (by omega)⟩
 refine .mV V ?_; obtain ⟨y6, hj6, h⟩ := bs h; refine .md H 4 [(150, (vb y6)), (1, (vl (cL Bound.cs) x1.1))] [] V ?_ fun e σ H => ?_
 ·refine .sp hj6 V ?_ ?_ <;> intro h
  ·refine .mV V (.wt V V (.Z2t (sz := 1) ([3, 7].map (cI .i64)) H (by omega) (by omega) V V V V V V V V V fun σ H => (.wt V V ?_))); obtain ⟨x17, q17, h⟩ := bs h; refine .callX (xs := [(vl (cL Bound.cs) x1.1), (.buf (b11 + 32) 2 1)]) (ys := [(vl (cL Bound.cs) x1.1), (vl (cI .i64) [3, 7])]) H V (.cons (.c (.v _)) (.cons (.c (.s 0 V)) .nil)) (Z4O q17) V V (fun _ => by kernel_rfl) V fun σ H => (.kT V (.nil ?_)); obtain rfl := sj h; exact ⟨EI V, (H.erase 0).wk (by omega)⟩
  refine .ps 3 V (.kF V (.nil ?_)); obtain rfl := sj h; exact ⟨EI V, H.wk (by omega)⟩
 refine .mV V ?_; obtain ⟨y7, hj7, h⟩ := bs h; refine .md H 5 [(156, (vb y7))] [] V ?_ fun e σ H => ?_
 ·refine .sp hj7 V ?_ ?_ <;> intro h
  ·refine .mV V (.wt V V (.Z2t (sz := 1) ([3, 9].map (cI .i64)) H (by omega) (by omega) V V V V V V V V V fun σ H => (.wt V V ?_))); obtain ⟨x18, q18, h⟩ := bs h; refine .callX (xs := [(vl (cL Bound.cs) x1.1), (.buf (b11 + 37) 2 1)]) (ys := [(vl (cL Bound.cs) x1.1), (vl (cI .i64) [3, 9])]) H V (.cons (.c (.v _)) (.cons (.c (.s 0 V)) .nil)) (Z4O q18) V V (fun _ => by kernel_rfl) V fun σ H => (.tV V (.kT V (.nil ?_))); obtain rfl := sj h; exact ⟨EI V, (H.erase 0).wk (by omega)⟩
  refine .ps 4 V (.kF V (.nil ?_)); obtain rfl := sj h; exact ⟨EI V, H.wk (by omega)⟩
 refine .aV V (.nila H fun H => (.ret ?_)); obtain rfl := sj h; exact Ends.eR V
theorem Z0W {r : Bool} (h : ZM = r) : Fn CX 35 [] (vb r) := by
 subst h; exact Z3H Z2w
end Go.Dn

namespace Go.Dn
open Go Go.Proofs
set_option maxRecDepth 100000
set_option maxHeartbeats 4000000
end Go.Dn

namespace Go.Dn
open Go Go.Proofs
set_option maxRecDepth 100000
set_option maxHeartbeats 4000000
theorem Z2v {n : Int} {l : (List epactlaw24_Set)} {x' : epactlaw24_Set} {r : Bool} (h : ZD n l x' = some r) : Fn CX 12 [(.v (.int .u8 n)), (vl epactlaw24_Set.cs l), (.agg (vs (epactlaw24_Set.cs x')))] (vb r) := by
 refine Fn.go Try.func12 V fun σ H => ?_; unfold ZD at h; refine .tR 2 V H fun b1 σ H => (.boxH (cs := [(vi x'.I), (vi x'.J), (.v (.int .i8 x'.Most.Inf)), (vi x'.Most.N)]) H (by omega) (by omega) V V V fun σ H => (.aV V (.nila H fun H => (.tR 6 V H fun b2 σ H => (.mV V (.rem (m := n) (m' := 23) V V (by decide) V (.iV V (.mV V ?_)))))))); obtain ⟨x1, q1, h⟩ := bs h; refine .cV (Z3f q1) V (.aV V (.nila H fun H => (.then (.tR 3 V H fun b3 σ H => (.mV V (.nV V (.iV V (.nila H fun H => ?_)))))))); refine .wh h V ?_ ?_ <;> intro h
 ·refine .tR 1 V H fun b4 σ H => (.aV V (.nila H fun H => (.ret ?_))); obtain rfl := sj h; exact Ends.eR V
 refine .skip (.then (.Z1W 14 V (by kernel_rfl) H fun b5 σ H B5 => (.Z2J H 0 V V V V V (fun _ => .inl ⟨B5 0 _ V _ V, nofun, (fun _ => by kernel_rfl)⟩) V (.ld (vi x'.I) H 0 V V V V V (fun _ => .inl ⟨B5 0 _ V _ V, nofun, (fun _ => by kernel_rfl)⟩) V (.iV V (.mV V (.nV V ?_))))))); obtain ⟨u1, q2, h⟩ := bs h; refine .rem (m := (iAnd .i64 x'.I 255)) (m' := (x1.length : Int)) V V (nz_ne q2) V (.Z2J H 0 V V V V V (fun _ => .inl ⟨B5 0 _ V _ V, nofun, (fun _ => by kernel_rfl)⟩) V (.ld (vi x'.J) H 0 V V V V V (fun _ => .inl ⟨B5 0 _ V _ V, nofun, (fun _ => by kernel_rfl)⟩) V (.iV V (.mV V (.nV V ?_))))); obtain ⟨u2, q3, h⟩ := bs h; refine .rem (m := (iAnd .i64 x'.J 255)) (m' := (x1.length : Int)) V V (nz_ne q3) V (.aV V (.aV V (.nila H fun H => (.then (.tR 3 V H fun b6 σ H => (.mV V (.mV V (.iV V ?_)))))))); refine .nila H fun H => ?_; refine .wh h V ?_ ?_ <;> intro h
 ·refine .tR 2 V H fun b7 σ H => (.cV (Z0W V) V (.aV V (.nila H fun H => (.ret ?_)))); obtain rfl := sj h; exact Ends.eR V
 refine .skip (.tR 5 V H fun b8 σ H => (.fV H 0 V (.fV H 0 V (.lV H 0 V (.rem (m := x'.Most.N) (m' := 1001) V V (by decide) V (.aV V (.nila H fun H => (.tR 9 V H fun b9 σ H => ?_)))))))); refine .mV V ?_; obtain ⟨x2, q4, h⟩ := bs h; refine .cV (Z1S q4) V (.m1 (.tup [(vl (cL Bound.cs) x2.1), (vb x2.2.1), (vi x2.2.2)]) V V (.xV V (.xV V (.xV V (.aV V (.aV V (.aV V (.nila H fun H => ?_)))))))); refine .tR 11 V H fun b10 σ H => (.mV V (.mV V (.mV V (.mV V (.bV [(.v (.int .i8 0)), (vi (x'.Most.N.tmod 1001))] V ?_))))); obtain ⟨x3, q5, h⟩ := bs h; refine .cV (Z61 q5) V (.m1 (.tup [(vl (cL Bound.cs) x3.1), (vi x3.2)]) V V (.xV V (.xV V (.aV V (.aV V (.nila H fun H => (.tR 9 V H fun b11 σ H => (.mV V ?_)))))))); obtain ⟨x4, q6, h⟩ := bs h; refine .cV (Z1S q6) V (.m1 (.tup [(vl (cL Bound.cs) x4.1), (vb x4.2.1), (vi x4.2.2)]) V V (.xV V (.xV V (.xV V (.aV V (.aV V (.aV V (.nila H fun H => ?_)))))))); refine .then (.tR 17 V H fun b12 σ H => (.mV V (.iV V (.mV V ?_)))); refine .md H 3 [(76, (vb ((x2.2.2 != 0) || (x3.2 != 0)))), (7, (vl (cL Bound.cs) x1)), (8, (vi ((iAnd .i64 x'.I 255).tmod (x1.length : Int)))), (9, (vi ((iAnd .i64 x'.J 255).tmod (x1.length : Int)))), (10, (vi (x'.Most.N.tmod 1001))), (11, (vl (cL Bound.cs) x2.1)), (12, (vb x2.2.1)), (16, (vl (cL Bound.cs) x4.1)), (17, (vb x4.2.1)), (18, (vi x4.2.2))] [] rfl ?_ fun e σ H => ?_
 ·refine .split V V ?_ ?_ <;> intro hc3
  ·refine .ps 2 V (.kT V (.nil ?_)); exact ⟨⟨or_T hc3, V, V, V, V, V, V, V, V, V, U⟩, (H.erase 0).wk (by omega)⟩
  ·refine .mV V (.iV V (.kF V (.nil ?_))); exact ⟨⟨or_F hc3, V, V, V, V, V, V, V, V, V, U⟩, (H.erase 0).wk (by omega)⟩
 refine .mV V ?_; refine .md H 3 [(80, (vb (((x2.2.2 != 0) || (x3.2 != 0)) || (x4.2.2 != 0)))), (7, (vl (cL Bound.cs) x1)), (8, (vi ((iAnd .i64 x'.I 255).tmod (x1.length : Int)))), (9, (vi ((iAnd .i64 x'.J 255).tmod (x1.length : Int)))), (10, (vi (x'.Most.N.tmod 1001))), (11, (vl (cL Bound.cs) x2.1)), (12, (vb x2.2.1)), (16, (vl (cL Bound.cs) x4.1)), (17, (vb x4.2.1))] [] rfl ?_ fun e σ H => ?_
 ·refine .split V V ?_ ?_ <;> intro hc4
  ·refine .ps 2 V (.kT V (.nil ?_)); exact ⟨⟨or_T hc4, V, V, V, V, V, V, V, V, U⟩, H.wk (by omega)⟩
  ·refine .mV V (.iV V (.kF V (.nil ?_))); exact ⟨⟨or_F hc4, V, V, V, V, V, V, V, V, U⟩, H.wk (by omega)⟩
 refine .mV V ?_; refine .md H 6 [(87, (vb ((((x2.2.2 != 0) || (x3.2 != 0)) || (x4.2.2 != 0)) || (x4.2.1 && (!x2.2.1))))), (7, (vl (cL Bound.cs) x1)), (8, (vi ((iAnd .i64 x'.I 255).tmod (x1.length : Int)))), (9, (vi ((iAnd .i64 x'.J 255).tmod (x1.length : Int)))), (10, (vi (x'.Most.N.tmod 1001))), (11, (vl (cL Bound.cs) x2.1)), (12, (vb x2.2.1)), (16, (vl (cL Bound.cs) x4.1)), (17, (vb x4.2.1))] [] rfl ?_ fun e σ H => ?_
 ·refine .split V V ?_ ?_ <;> intro hc5
  ·refine .ps 5 V (.kT V (.nil ?_)); exact ⟨⟨or_T hc5, V, V, V, V, V, V, V, V, U⟩, H.wk (by omega)⟩
  ·refine .mV V (.mV V ?_); refine .md H 3 [(86, (vb (x4.2.1 && (!x2.2.1)))), (7, (vl (cL Bound.cs) x1)), (8, (vi ((iAnd .i64 x'.I 255).tmod (x1.length : Int)))), (9, (vi ((iAnd .i64 x'.J 255).tmod (x1.length : Int)))), (10, (vi (x'.Most.N.tmod 1001))), (11, (vl (cL Bound.cs) x2.1)), (12, (vb x2.2.1)), (16, (vl (cL Bound.cs) x4.1)), (17, (vb x4.2.1)), (81, (vb false))] [] V ?_ fun e σ H => ?_
   ·refine .split V V ?_ ?_ <;> intro hc6
    ·refine .mV V (.tV V (.kT V (.nil ?_))); exact ⟨⟨Z2h hc6, V, V, V, V, V, V, V, V, V, U⟩, H.wk (by omega)⟩
    ·refine .ps 2 V (.kF V (.nil ?_)); exact ⟨⟨Z2n hc6, V, V, V, V, V, V, V, V, V, U⟩, H.wk (by omega)⟩
   refine .kF V (.nil ?_); exact ⟨⟨or_F hc5, V, V, V, V, V, V, V, V, U⟩, H.wk (by omega)⟩
 refine .nila H fun H => ?_; refine .wh h V ?_ ?_ <;> intro h
 ·refine .tR 1 V H fun b13 σ H => (.aV V (.nila H fun H => (.ret ?_))); obtain rfl := sj h; exact Ends.eR V
 refine .skip (.then (.tR 2 V H fun b14 σ H => (.mV V (.tV V (.nila H fun H => ?_))))); refine .wh h V ?_ ?_ <;> intro h
 ·refine .tR 2 V H fun b15 σ H => (.cV (Z0W V) V (.aV V (.nila H fun H => (.ret ?_)))); obtain rfl := sj h; exact Ends.eR V
 refine .skip (.then (.tR 15 V H fun b16 σ H => (.mV V (.mV V (.nV V ?_))))); obtain ⟨x5, q7, h⟩ := bs h; refine .cV (Z0Q q7) V (.tV V (.mV V ?_)); obtain ⟨y1, hj1, h⟩ := bs h; refine .md H 9 [(105, (vb y1)), (8, (vi ((iAnd .i64 x'.I 255).tmod (x1.length : Int)))), (9, (vi ((iAnd .i64 x'.J 255).tmod (x1.length : Int)))), (10, (vi (x'.Most.N.tmod 1001))), (11, (vl (cL Bound.cs) x2.1)), (16, (vl (cL Bound.cs) x4.1)), (17, (vb x4.2.1))] [] V ?_ fun e σ H => ?_
 ·refine .sp hj1 V ?_ ?_ <;> intro h
  ·refine .ps 8 V (.kT V (.nil ?_)); obtain rfl := sj h; exact ⟨EI V, H.wk (by omega)⟩
  refine .mV V (.mV V ?_); obtain ⟨y2, hj2, h⟩ := bs h; refine .md H 6 [(104, (vb y2)), (8, (vi ((iAnd .i64 x'.I 255).tmod (x1.length : Int)))), (9, (vi ((iAnd .i64 x'.J 255).tmod (x1.length : Int)))), (10, (vi (x'.Most.N.tmod 1001))), (11, (vl (cL Bound.cs) x2.1)), (16, (vl (cL Bound.cs) x4.1)), (17, (vb x4.2.1)), (96, (vb false))] [] V ?_ fun e σ H => ?_
  ·refine .sp hj2 V ?_ ?_ <;> intro h
   ·refine .mV V (.mV V (.nV V (.wt V V ?_))); obtain ⟨x6, q8, h⟩ := bs h; refine .cV (Z0Q q8) V (.tV V (.kT V (.nil ?_))); obtain rfl := sj h; exact ⟨EI V, H.wk (by omega)⟩
   refine .ps 5 V (.kF V (.nil ?_)); obtain rfl := sj h; exact ⟨EI V, H.wk (by omega)⟩
  refine .kF V (.nil ?_); obtain rfl := sj h; exact ⟨EI V, H.wk (by omega)⟩
 refine .nila H fun H => ?_; refine .wh h V ?_ ?_ <;> intro h
 ·refine .tR 1 V H fun b17 σ H => (.aV V (.nila H fun H => (.ret ?_))); obtain rfl := sj h; exact Ends.eR V
 refine .skip (.then (.tR 2 V H fun b18 σ H => (.mV V (.tV V (.nila H fun H => ?_))))); refine .wh h V ?_ ?_ <;> intro h
 ·refine .tR 9 V H fun b19 σ H => (.mV V (.mV V ?_)); obtain ⟨x7, q9, h⟩ := bs h; refine .jV q9 V (.pV V (.mV V ?_)); obtain ⟨x8, q10, h⟩ := bs h; refine .jV q10 V (.qV [(.int .i8 x8.Inf), (.int .i64 x8.N)] V (.Z2U (cs := [(.v (.int .i8 0)), (vi 0)]) H (by omega) (by omega) V V fun σ H => (.sV [(.v (.int .i8 x8.Inf)), (vi x8.N)] H 0 V fun σ H => (.nila H fun H => (.tR 14 V H fun b20 σ H => (.fV H 0 V (.lV H 0 V (.iV V ?_)))))))); refine .mV V ?_; refine .md H 6 [(124, (vb ((x8.Inf == 0) && (decide ((w64 (x8.N + (x'.Most.N.tmod 1001))) < 0)))))] [] V ?_ fun e σ H => ?_
  ·refine .split V V ?_ ?_ <;> intro hc13
   ·refine .fV H 0 V (.lV H 0 V (.mV V (.iV V (.iV V (.kT V (.nil ?_)))))); exact ⟨⟨Z2h hc13, U⟩, (H.erase 0).wk (by omega)⟩
   ·refine .ps 5 V (.kF V (.nil ?_)); exact ⟨⟨Z2n hc13, U⟩, (H.erase 0).wk (by omega)⟩
  refine .mV V ?_; refine .md H 2 [(127, (vb (((x8.Inf == 0) && (decide ((w64 (x8.N + (x'.Most.N.tmod 1001))) < 0))) && ZM)))] [] V ?_ fun e σ H => ?_
  ·refine .split V V ?_ ?_ <;> intro hc14
   ·refine .cV (Z0W V) V (.kT V (.nil ?_)); exact ⟨⟨Z2h hc14, U⟩, H.wk (by omega)⟩
   ·refine .ps 1 V (.kF V (.nil ?_)); exact ⟨⟨Z2n hc14, U⟩, H.wk (by omega)⟩
  refine .aV V (.nila H fun H => (.ret ?_)); obtain rfl := sj h; exact Ends.eR V
 refine .skip (.then (.tR 3 V H fun b21 σ H => (.mV V (.nV V (.mV V (.nila H fun H => (.inBlock ?_))))))); obtain ⟨y3, hj3, h⟩ := bs h; obtain ⟨n1, hj3⟩ := Zc.1 hj3; refine .mono (Runs.loopO hj3 (fun s1 e σ => ZL e [(8, (vi ((iAnd .i64 x'.I 255).tmod (x1.length : Int)))), (9, (vi ((iAnd .i64 x'.J 255).tmod (x1.length : Int)))), (10, (vi (x'.Most.N.tmod 1001))), (11, (vl (cL Bound.cs) x2.1)), (16, (vl (cL Bound.cs) x4.1)), (129, (vi (x2.1.length : Int))), (130, (vi s1))] ∧ Hs σ []) (fun y3 x e σ => (∃ a1, y3 = (.go a1) ∧ x = .exit 0 ∧ ZL e [(8, (vi ((iAnd .i64 x'.I 255).tmod (x1.length : Int)))), (9, (vi ((iAnd .i64 x'.J 255).tmod (x1.length : Int)))), (10, (vi (x'.Most.N.tmod 1001))), (16, (vl (cL Bound.cs) x4.1))] ∧ Hs σ []) ∨ (∃ r', y3 = (.ret r') ∧ x = .ret ∧ Ends CX Try.f12.results.toList (vb r') x e σ)) ⟨EI V, H⟩ ?_) ?_
 ·intro s1 e σ hI z h; obtain ⟨he, H⟩ := hI; obtain ⟨e, rfl⟩ := he.ex; unfold ZD.s0 at h; refine .tR 1 V H fun b22 σ H => (.iV V (.nila H fun H => (.then ?_))); refine .wh h V ?_ ?_ <;> intro h
  ·refine .skip (.then (.inBlock (.tR 2 V H fun b23 σ H => (.mV V (.aV V (.nila H fun H => (.tR 3 V H fun b24 σ H => (.mV V ?_)))))))); refine .nV V (.mV V (.nila H fun H => (.inBlock ?_))); obtain ⟨y4, hj4, h⟩ := bs h; obtain ⟨n2, hj4⟩ := Zc.1 hj4; refine .mono (Runs.loopO hj4 (fun s2 e σ => ZL e [(8, (vi ((iAnd .i64 x'.I 255).tmod (x1.length : Int)))), (9, (vi ((iAnd .i64 x'.J 255).tmod (x1.length : Int)))), (10, (vi (x'.Most.N.tmod 1001))), (11, (vl (cL Bound.cs) x2.1)), (16, (vl (cL Bound.cs) x4.1)), (20, (vi s1)), (129, (vi (x2.1.length : Int))), (130, (vi s1)), (134, (vi (x2.1.length : Int))), (135, (vi s2))] ∧ Hs σ []) (fun y4 x e σ => (∃ a2, y4 = (.go a2) ∧ x = .exit 2 ∧ ZL e [(8, (vi ((iAnd .i64 x'.I 255).tmod (x1.length : Int)))), (9, (vi ((iAnd .i64 x'.J 255).tmod (x1.length : Int)))), (10, (vi (x'.Most.N.tmod 1001))), (11, (vl (cL Bound.cs) x2.1)), (16, (vl (cL Bound.cs) x4.1)), (129, (vi (x2.1.length : Int))), (130, (vi s1))] ∧ Hs σ []) ∨ (∃ r', y4 = (.ret r') ∧ x = .ret ∧ Ends CX Try.f12.results.toList (vb r') x e σ)) ⟨EI V, H⟩ ?_) ?_
   ·intro s2 e σ hI z h; obtain ⟨he, H⟩ := hI; obtain ⟨e, rfl⟩ := he.ex; unfold ZD.s1 at h; refine .tR 1 V H fun b25 σ H => (.iV V (.nila H fun H => (.then ?_))); refine .wh h V ?_ ?_ <;> intro h
    ·refine .skip (.then (.inBlock (.tR 2 V H fun b26 σ H => (.mV V (.aV V (.nila H fun H => (.then (.Z1W 61 V (by kernel_rfl) H fun b27 σ H B27 => ?_)))))))); refine .mV V (.mV V ?_); obtain ⟨x9, q11, h⟩ := bs h; refine .jV q11 V (.pV V (.mV V ?_)); obtain ⟨x10, q12, h⟩ := bs h; refine .jV q12 V (.Z0m V V V V (.pV V (.iV V (.mV V ?_)))); obtain ⟨y5, hj5, h⟩ := bs h; refine .md H 10 [(157, (vb y5)), (8, (vi ((iAnd .i64 x'.I 255).tmod (x1.length : Int)))), (9, (vi ((iAnd .i64 x'.J 255).tmod (x1.length : Int)))), (10, (vi (x'.Most.N.tmod 1001))), (11, (vl (cL Bound.cs) x2.1)), (16, (vl (cL Bound.cs) x4.1)), (20, (vi s1)), (21, (vi s2)), (129, (vi (x2.1.length : Int))), (130, (vi s1)), (134, (vi (x2.1.length : Int))), (135, (vi s2))] [] V ?_ fun e σ H => ?_
     ·refine .sp hj5 V ?_ ?_ <;> intro h
      ·refine .mV V (.mV V (.wt V V ?_)); obtain ⟨x11, q13, h⟩ := bs h; refine .jV q13 V (.pV V (.mV V (.wt V V ?_))); obtain ⟨x12, q14, h⟩ := bs h; refine .jV q14 V (.wt V V (.Z0m V V V V (.pV V (.iV V (.kT V (.nil ?_)))))); obtain rfl := sj h; exact ⟨EI V, H.wk (by omega)⟩
      refine .ps 9 V (.kF V (.nil ?_)); obtain rfl := sj h; exact ⟨EI V, H.wk (by omega)⟩
     refine .mV V ?_; obtain ⟨y6, hj6, h⟩ := bs h; refine .md H 40 [(198, (vb y6)), (8, (vi ((iAnd .i64 x'.I 255).tmod (x1.length : Int)))), (9, (vi ((iAnd .i64 x'.J 255).tmod (x1.length : Int)))), (10, (vi (x'.Most.N.tmod 1001))), (11, (vl (cL Bound.cs) x2.1)), (16, (vl (cL Bound.cs) x4.1)), (20, (vi s1)), (129, (vi (x2.1.length : Int))), (130, (vi s1)), (134, (vi (x2.1.length : Int))), (135, (vi s2))] [] V ?_ fun e σ H => ?_
     ·refine .sp hj6 V ?_ ?_ <;> intro h
      ·refine .ps 39 V (.kT V (.nil ?_)); obtain rfl := sj h; exact ⟨EI V, H.wk (by omega)⟩
      refine .mV V (.mV V (.wt V V ?_)); obtain ⟨x13, q15, h⟩ := bs h; refine .jV q15 V (.pV V (.mV V (.wt V V ?_))); obtain ⟨x14, q16, h⟩ := bs h; refine .jV q16 V (.wt V V (.Z0m V V V V (.pV V (.iV V (.mV V ?_))))); obtain ⟨y7, hj7, h⟩ := bs h; refine .md H 10 [(178, (vb y7)), (8, (vi ((iAnd .i64 x'.I 255).tmod (x1.length : Int)))), (9, (vi ((iAnd .i64 x'.J 255).tmod (x1.length : Int)))), (10, (vi (x'.Most.N.tmod 1001))), (11, (vl (cL Bound.cs) x2.1)), (16, (vl (cL Bound.cs) x4.1)), (20, (vi s1)), (21, (vi s2)), (129, (vi (x2.1.length : Int))), (130, (vi s1)), (134, (vi (x2.1.length : Int))), (135, (vi s2)), (158, (vb false))] [] V ?_ fun e σ H => ?_
      ·refine .sp hj7 V ?_ ?_ <;> intro h
       ·refine .mV V (.mV V (.wt V V ?_)); obtain ⟨x15, q17, h⟩ := bs h; refine .jV q17 V (.pV V (.mV V (.wt V V ?_))); obtain ⟨x16, q18, h⟩ := bs h; refine .jV q18 V (.wt V V (.Z0m V V V V (.pV V (.iV V (.kT V (.nil ?_)))))); obtain rfl := sj h; exact ⟨EI V, H.wk (by omega)⟩
       refine .ps 9 V (.kF V (.nil ?_)); obtain rfl := sj h; exact ⟨EI V, H.wk (by omega)⟩
      refine .mV V ?_; obtain ⟨y8, hj8, h⟩ := bs h; refine .md H 18 [(197, (vb y8)), (8, (vi ((iAnd .i64 x'.I 255).tmod (x1.length : Int)))), (9, (vi ((iAnd .i64 x'.J 255).tmod (x1.length : Int)))), (10, (vi (x'.Most.N.tmod 1001))), (11, (vl (cL Bound.cs) x2.1)), (16, (vl (cL Bound.cs) x4.1)), (20, (vi s1)), (129, (vi (x2.1.length : Int))), (130, (vi s1)), (134, (vi (x2.1.length : Int))), (135, (vi s2)), (158, (vb false))] [] V ?_ fun e σ H => ?_
      ·refine .sp hj8 V ?_ ?_ <;> intro h
       ·refine .mV V (.mV V (.wt V V ?_)); obtain ⟨x17, q19, h⟩ := bs h; refine .jV q19 V (.pV V (.mV V (.wt V V ?_))); obtain ⟨x18, q20, h⟩ := bs h; refine .jV q20 V (.wt V V (.Z0m V V V V (.pV V (.mV V (.mV V (.wt V V ?_)))))); obtain ⟨x19, q21, h⟩ := bs h; refine .jV q21 V (.pV V (.mV V (.wt V V ?_))); obtain ⟨x20, q22, h⟩ := bs h; refine .jV q22 V (.wt V V (.Z0m V V V V (.pV V (.iV V (.kT V (.nil ?_)))))); obtain rfl := sj h; exact ⟨EI V, H.wk (by omega)⟩
       refine .ps 17 V (.kF V (.nil ?_)); obtain rfl := sj h; exact ⟨EI V, H.wk (by omega)⟩
      refine .kF V (.nil ?_); obtain rfl := sj h; exact ⟨EI V, H.wk (by omega)⟩
     refine .nila H fun H => ?_; refine .wh h V ?_ ?_ <;> intro h
     ·refine .tR 1 V H fun b28 σ H => (.aV V (.nila H fun H => (.ret ?_))); obtain rfl := sj h; exact ⟨nofun, (.inr ⟨_, V, V, (Ends.H (xs := [(vb false)]) (.inr V) H (.tmp (v := (vb false)) V .nil) (.one (.c (.v _))))⟩)⟩
     refine .skip (.Zn 2 V H fun b29 σ H => (.iV V (.mV V (.nila H fun H => ?_)))); obtain rfl := sj h; exact ⟨V, EI V, H⟩
    refine .exit ?_; obtain rfl := sj h; exact ⟨nofun, (.inl ⟨_, V, V, EI V, H⟩)⟩
   ·rintro x e σ (⟨a3, rfl, rfl, he, H⟩ | ⟨r', rfl, rfl, hE⟩)
    ·replace h := jgo h; obtain ⟨e, rfl⟩ := he.ex; refine .Zn 2 V H fun b30 σ H => (.iV V (.mV V (.nila H fun H => ?_))); obtain rfl := sj h; exact ⟨V, EI V, H⟩
    ·replace h := jret h; obtain rfl := sj h; exact ⟨nofun, (.inr ⟨_, V, V, hE⟩)⟩
  refine .exit ?_; obtain rfl := sj h; exact ⟨nofun, (.inl ⟨_, V, V, EI V, H⟩)⟩
 ·rintro x e σ (⟨a4, rfl, rfl, he, H⟩ | ⟨r', rfl, rfl, hE⟩)
  ·replace h := jgo h; obtain ⟨e, rfl⟩ := he.ex; refine .tR 25 V H fun b31 σ H => (.mV V (.mV V ?_)); obtain ⟨x21, q23, h⟩ := bs h; refine .jV q23 V (.pV V (.mV V ?_)); obtain ⟨x22, q24, h⟩ := bs h; refine .jV q24 V (.Z0m V V V V (.pV V (.iV V (.mV V ?_)))); obtain ⟨y9, hj9, h⟩ := bs h; refine .md H 11 [(221, (vb y9))] [] V ?_ fun e σ H => ?_
   ·refine .sp hj9 V ?_ ?_ <;> intro h
    ·refine .mV V (.mV V (.wt V V ?_)); obtain ⟨x23, q25, h⟩ := bs h; refine .jV q25 V (.pV V (.mV V (.wt V V ?_))); obtain ⟨x24, q26, h⟩ := bs h; refine .jV q26 V (.wt V V (.Z0m V V V V (.pV V (.mV V (.iV V (.kT V (.nil ?_))))))); obtain rfl := sj h; exact ⟨EI V, H.wk (by omega)⟩
    refine .ps 10 V (.kF V (.nil ?_)); obtain rfl := sj h; exact ⟨EI V, H.wk (by omega)⟩
   refine .mV V ?_; refine .md H 2 [(224, (vb (y9 && ZM)))] [] V ?_ fun e σ H => ?_
   ·refine .split V V ?_ ?_ <;> intro hc23
    ·refine .cV (Z0W V) V (.kT V (.nil ?_)); exact ⟨⟨Z2h hc23, U⟩, H.wk (by omega)⟩
    ·refine .ps 1 V (.kF V (.nil ?_)); exact ⟨⟨Z2n hc23, U⟩, H.wk (by omega)⟩
   refine .aV V (.nila H fun H => (.ret ?_)); obtain rfl := sj h; exact Ends.eR V
  ·replace h := jret h; obtain rfl := sj h; exact hE
end Go.Dn

namespace Go.Dn
open Go
theorem Z2d {S R : Type} {step : S → Option (S ⊕ R)} (I : S → Prop) (m : S → Nat) (post : R → Prop)
  (h : ∀ s, I s → (∃ s', step s = some (.inl s') ∧ I s' ∧ m s' < m s) ∨ (∃ r, step s = some (.inr r) ∧ post r)) : ∀ s, I s → ∃ r, loopO step s = some r ∧ post r := by
 have key : ∀ n s, m s = n → I s → ∃ r, loopO step s = some r ∧ post r := by
  intro n
  induction n using Nat.strongRecOn with
  | _ n ih =>
   intro s hm hI
   rcases h s hI with ⟨s', h1, h2, h3⟩ | ⟨r, h1, h2⟩
   ·obtain ⟨r, q1, q2⟩ := ih (m s') (by omega) s' rfl h2
    exact ⟨r, by rw [loopO_eq, h1]; exact q1, q2⟩
   ·exact ⟨r, by rw [loopO_eq, h1], h2⟩
 exact fun s hI => key _ s rfl hI
theorem Z0d {S R : Type} {step : S → Option (S ⊕ R)} (I : S → R → Prop) (m : S → Nat)
  (h : ∀ s r, I s r → (∃ s', step s = some (.inl s') ∧ I s' r ∧ m s' < m s) ∨ step s = some (.inr r)) {s : S} {r : R} (hI : I s r) : loopO step s = some r := by
 obtain ⟨r', h1, h2⟩ := Z2d (I := fun s => I s r) m (fun r' => r' = r) (fun s hs => by
  rcases h s r hs with ⟨s', h1, h2, h3⟩ | h1
  ·exact .inl ⟨s', h1, h2, h3⟩
  ·exact .inr ⟨r, h1, rfl⟩) s hI
 rw [h1, h2]
theorem wrap_i64 (a : Int) : IntKind.i64.wrap a = (a + 9223372036854775808) % 18446744073709551616 - 9223372036854775808 := by
 simp [IntKind.wrap, IntKind.bits, IntKind.signed]
 split <;> omega
theorem Z4a (a : Int) : IntKind.u64.wrap a = a % 18446744073709551616 := by
 simp [IntKind.wrap, IntKind.bits, IntKind.signed]
theorem okI_u8 {x : Int} : okI .u8 x ↔ 0 ≤ x ∧ x ≤ 255 := Iff.rfl
theorem Z02 {x : Int} (h : -9223372036854775808 ≤ x ∧ x ≤ 9223372036854775807) : w64 x = x := by
 unfold w64; rw [wrap_i64]; omega
theorem room_eq : room = 140737488355328 := rfl
theorem at?_lt {α : Type} {l : List α} {i : Int} (h0 : 0 ≤ i) (h : i < l.length) : at? l i = some (l[i.toNat]'(by omega)) := by
 unfold at?; rw [if_pos h0, Y6]
theorem at?_nat {α : Type} {l : List α} {k : Nat} (h : k < l.length) : at? l (k : Int) = some l[k] := by
 rw [at?_lt (by omega) (by omega)]; rfl
theorem app?_ok {α : Type} {b : Nat} {l m : List α} (h : (l.length + m.length) * b ≤ room) : app? b l m = some (l ++ m) := if_pos h
theorem nz?_ok {b : Int} (h : b ≠ 0) : nz? b = some () := if_neg h
theorem beq_t {a b : Int} (h : a = b) : (a == b) = true := by simp [h]
theorem beq_f {a b : Int} (h : a ≠ b) : (a == b) = false := by simp [h]
theorem bne_t {a b : Int} (h : a ≠ b) : (a != b) = true := by simp [h]
theorem bne_f {a b : Int} (h : a = b) : (a != b) = false := by simp [h]
theorem Z0z {p : Prop} [Decidable p] (h : p) : decide p = true := by simp [h]
theorem Z0e {p : Prop} [Decidable p] (h : ¬ p) : decide p = false := by simp [h]
theorem first_bad {α : Type} {l : List α} {good : Nat → α → Prop} (h : ¬ ∀ k x, l[k]? = some x → good k x) : ∃ (k : Nat) (x : α), l[k]? = some x ∧ ¬ good k x ∧ ∀ j y, j < k → l[j]? = some y → good j y := by
 have hex : ∃ k : Nat, ∃ x, l[k]? = some x ∧ ¬ good k x := by
  apply Classical.byContradiction;intro hn;exact h fun k x hk => Classical.byContradiction fun hg => hn ⟨k, x, hk, hg⟩
 obtain ⟨k, hk⟩ := hex
 induction k using Nat.strongRecOn with
 | _ k ih =>
  by_cases h : ∃ j, j < k ∧ ∃ x, l[j]? = some x ∧ ¬ good j x
  ·obtain ⟨j, hj, hx⟩ := h
   exact ih j hj hx
  ·obtain ⟨x, hx, hb⟩ := hk
   exact ⟨k, x, hx, hb, fun j y hj hy => Classical.byContradiction fun hg => h ⟨j, hj, y, hy, hg⟩⟩
theorem all_loop {α R : Type} {l : List α} {step : Int → Option (Int ⊕ R)} (good : Nat → α → Prop) {no yes : R}
  (hstep : ∀ (k : Nat) (x : α), l[k]? = some x → (∀ j y, j < k → l[j]? = some y → good j y) → (step (k : Int) = some (.inl ((k : Int) + 1)) ∧ good k x) ∨ (step (k : Int) = some (.inr no) ∧ ¬ good k x))
  (hend : step (l.length : Int) = some (.inr yes)) : (loopO step 0 = some yes ∧ ∀ k x, l[k]? = some x → good k x) ∨ (loopO step 0 = some no ∧ ¬ ∀ k x, l[k]? = some x → good k x) := by
 by_cases hall : ∀ k x, l[k]? = some x → good k x
 ·refine .inl ⟨?_, hall⟩;refine Z0d (I := fun (s : Int) r => r = yes ∧ ∃ k : Nat, s = k ∧ k ≤ l.length) (fun s => (l.length - s.toNat)) ?_ ⟨rfl, 0, rfl, Yh _⟩
  rintro s r ⟨rfl, k, rfl, hk⟩
  by_cases hlt : k < l.length
  ·rcases hstep k l[k] (Y6 hlt) (fun j y _ hy => hall j y hy) with ⟨h1, _⟩ | ⟨_, h2⟩
   ·exact .inl ⟨_, h1, ⟨rfl, k + 1, by push_cast; rfl, hlt⟩, by simp; omega⟩
   ·exact absurd (hall k _ (Y6 hlt)) h2
  ·have : k = l.length := by omega
   subst this;exact .inr hend
 ·refine .inr ⟨?_, hall⟩;obtain ⟨k0, x0, hx0, hb0, hgood⟩ := first_bad hall
  have hlt0 := (List.getElem?_eq_some_iff.1 hx0).1
  refine Z0d (I := fun (s : Int) r => r = no ∧ ∃ k : Nat, s = k ∧ k ≤ k0) (fun s => (l.length - s.toNat)) ?_ ⟨rfl, 0, rfl, Yh _⟩
  rintro s r ⟨rfl, k, rfl, hk⟩
  by_cases hlt : k < k0
  ·have hkl : k < l.length := by omega
   rcases hstep k l[k] (Y6 hkl) (fun j y hj hy => hgood j y (by omega) hy) with ⟨h1, _⟩ | ⟨_, h2⟩
   ·exact .inl ⟨_, h1, ⟨rfl, k + 1, by push_cast; rfl, hlt⟩, by simp; omega⟩
   ·exact absurd (hgood k _ hlt (Y6 hkl)) h2
  ·have : k = k0 := by omega
   subst this
   rcases hstep k x0 hx0 hgood with ⟨_, h2⟩ | ⟨h1, _⟩
   ·exact absurd h2 hb0
   ·exact .inr h1
end Go.Dn

namespace Go.Dn
open Go
def In64 (a : Int) : Prop := -9223372036854775808 ≤ a ∧ a ≤ 9223372036854775807
def InU64 (a : Int) : Prop := 0 ≤ a ∧ a ≤ 18446744073709551615
def fitS (a : Int) : Int × Int := if -9223372036854775808 ≤ a ∧ a ≤ 9223372036854775807 then (a, 0) else (0, 10)
theorem fitS_of {a : Int} (h : In64 a) : fitS a = (a, 0) := if_pos h
theorem and32 (x : Int) (h : InU64 x) : (((BitVec.ofInt 64 x &&& BitVec.ofInt 64 4294967295).toNat : Nat) : Int) = x % 4294967296 := by
 obtain ⟨n, rfl⟩ := Int.eq_ofNat_of_zero_le h.1
 have hn : n < 2 ^ 64 := by have := h.2; omega
 have h1 : (BitVec.ofInt 64 (n : Int)).toNat = n := by simp [BitVec.toNat_ofInt]; omega
 have h2 : (BitVec.ofInt 64 4294967295).toNat = 2 ^ 32 - 1 := by decide
 rw [BitVec.toNat_and, h1, h2, Nat.and_two_pow_sub_one_eq_mod]
 omega
theorem mul64_fact {x y : Int} (hx : InU64 x) (hy : InU64 y) :
  (x / 4294967296 * (y / 4294967296) + (x / 4294967296 * (y % 4294967296) + x % 4294967296 * (y % 4294967296) / 4294967296) / 4294967296 +
   ((x / 4294967296 * (y % 4294967296) + x % 4294967296 * (y % 4294967296) / 4294967296) % 4294967296 + x % 4294967296 * (y / 4294967296)) / 4294967296) = x * y / 18446744073709551616 ∧
  0 ≤ x % 4294967296 * (y % 4294967296) ∧ x % 4294967296 * (y % 4294967296) ≤ 18446744065119617025 ∧
  0 ≤ x / 4294967296 * (y % 4294967296) ∧ x / 4294967296 * (y % 4294967296) ≤ 18446744065119617025 ∧
  0 ≤ x % 4294967296 * (y / 4294967296) ∧ x % 4294967296 * (y / 4294967296) ≤ 18446744065119617025 ∧
  0 ≤ x / 4294967296 * (y / 4294967296) ∧ x / 4294967296 * (y / 4294967296) ≤ 18446744065119617025 := by
 have b : ∀ {u v : Int}, 0 ≤ u → u ≤ 4294967295 → 0 ≤ v → v ≤ 4294967295 → 0 ≤ u * v ∧ u * v ≤ 18446744065119617025 := by
  intro u v h1 h2 h3 h4;exact ⟨Int.mul_nonneg h1 h3, Int.le_trans (Int.mul_le_mul h2 h4 h3 (by omega)) (by decide)⟩
 obtain ⟨hx1, hx2⟩ := hx
 obtain ⟨hy1, hy2⟩ := hy
 obtain ⟨a1, a2⟩ := b (u := x % 4294967296) (v := y % 4294967296) (by omega) (by omega) (by omega) (by omega)
 obtain ⟨b1, b2⟩ := b (u := x / 4294967296) (v := y % 4294967296) (by omega) (by omega) (by omega) (by omega)
 obtain ⟨c1, c2⟩ := b (u := x % 4294967296) (v := y / 4294967296) (by omega) (by omega) (by omega) (by omega)
 obtain ⟨d1, d2⟩ := b (u := x / 4294967296) (v := y / 4294967296) (by omega) (by omega) (by omega) (by omega)
 refine ⟨?_, a1, a2, b1, b2, c1, c2, d1, d2⟩
 have e : x * y = x / 4294967296 * (y / 4294967296) * 18446744073709551616 + (x / 4294967296 * (y % 4294967296) + x % 4294967296 * (y / 4294967296)) * 4294967296 + x % 4294967296 * (y % 4294967296) := by
  have ex : x = x / 4294967296 * 4294967296 + x % 4294967296 := by omega
  have ey : y = y / 4294967296 * 4294967296 + y % 4294967296 := by omega
  clear a1 a2 b1 b2 c1 c2 d1 d2 b hx1 hx2 hy1 hy2
  generalize x / 4294967296 = x1 at *
  generalize x % 4294967296 = x0 at *
  generalize y / 4294967296 = y1 at *
  generalize y % 4294967296 = y0 at *
  subst ex ey;simp only [Int.add_mul, Int.mul_add];have h1 : x1 * 4294967296 * (y1 * 4294967296) = x1 * y1 * 18446744073709551616 := by
   rw [Y0E, Int.mul_comm 4294967296, Y0E y1, ← Y0E]
   rfl
  have h2 : x1 * 4294967296 * y0 = x1 * y0 * 4294967296 := by rw [Y0E, Int.mul_comm 4294967296, ← Y0E]
  have h3 : x0 * (y1 * 4294967296) = x0 * y1 * 4294967296 := by rw [← Y0E]
  rw [h1, h2, h3];omega
 rw [e]
 generalize x / 4294967296 * (y / 4294967296) = d at *
 generalize x / 4294967296 * (y % 4294967296) = b' at *
 generalize x % 4294967296 * (y / 4294967296) = c at *
 generalize x % 4294967296 * (y % 4294967296) = a at *
 omega
theorem safe_Add_eq {a b : Int} (ha : In64 a) (hb : In64 b) : Z0D a b = fitS (a + b) := by
 unfold In64 at ha hb
 unfold Z0D fitS w64
 rw [wrap_i64]
 cases h : ((decide ((a + b + 9223372036854775808) % 18446744073709551616 - 9223372036854775808 > a) != decide (b > 0)) && b != 0)
 ·rw [cond_false];simp only [Bool.and_eq_false_iff, bne_eq_false_iff_eq, decide_eq_decide] at h
  split <;> simp only [Y3, and_true] <;> omega
 ·rw [cond_true];simp only [Y8, bne_iff_ne, ne_eq, decide_eq_decide] at h
  split <;> simp only [Y3] <;> omega
theorem mul64_eq {x y : Int} (hx : InU64 x) (hy : InU64 y) : Zk x y = (x * y / 18446744073709551616, x * y % 18446744073709551616) := by
 unfold Zk
 have hb : ∀ z : Int, z.fdiv (2 ^ 32) = z / 4294967296 := fun z => Int.fdiv_eq_ediv_of_nonneg z (by decide)
 have hm : (IntKind.u64.bits) = 64 := rfl
 obtain ⟨h1, h2, h3, h4, h5, h6, h7, h8, h9⟩ := mul64_fact hx hy
 have hw : ∀ z : Int, 0 ≤ z → z ≤ 18446744073709551615 → IntKind.u64.wrap z = z := fun z q1 q2 => by rw [Z4a]; omega
 simp only [hb, iAnd]
 rw [hm, and32 x hx, and32 y hy]
 have x0 : 0 ≤ x % 4294967296 ∧ x % 4294967296 < 4294967296 := by omega
 have y0 : 0 ≤ y % 4294967296 ∧ y % 4294967296 < 4294967296 := by omega
 rw [hw (x % 4294967296) (by omega) (by omega), hw (y % 4294967296) (by omega) (by omega), hw _ h2 (by omega), hw _ h4 (by omega), hw _ h6 (by omega), hw _ h8 (by omega)]
 rw [hw (x / 4294967296 * (y % 4294967296) + x % 4294967296 * (y % 4294967296) / 4294967296) (by omega) (by omega)]
 rw [and32 _ ⟨by omega, by omega⟩]
 have t0 : 0 ≤ (x / 4294967296 * (y % 4294967296) + x % 4294967296 * (y % 4294967296) / 4294967296) % 4294967296 ∧ (x / 4294967296 * (y % 4294967296) + x % 4294967296 * (y % 4294967296) / 4294967296) % 4294967296 < 4294967296 := by omega
 rw [hw ((x / 4294967296 * (y % 4294967296) + x % 4294967296 * (y % 4294967296) / 4294967296) % 4294967296) (by omega) (by omega)]
 rw [hw ((x / 4294967296 * (y % 4294967296) + x % 4294967296 * (y % 4294967296) / 4294967296) % 4294967296 + x % 4294967296 * (y / 4294967296)) (by omega) (by omega)]
 rw [hw (x / 4294967296 * (y / 4294967296) + (x / 4294967296 * (y % 4294967296) + x % 4294967296 * (y % 4294967296) / 4294967296) / 4294967296) (by omega) (by omega)]
 rw [hw _ (by omega) (by omega), h1, Z4a]
def floorS (a b : Int) : Int × Int × Int := if b = 0 then (0, 0, 11) else if b = -1 ∧ a = -9223372036854775808 then (0, 0, 10) else (a.fdiv b, a.fmod b, 0)
end Go.Dn

namespace Go.Dn
open Go
def bd : Option Int → Bound
 | none => ⟨1, 0⟩
 | some k => ⟨0, k⟩
def ole (a b : Option Int) : Prop := match b with
 | none => True
 | some k => match a with
  | none => False
  | some l => l ≤ k
def oadd (a b : Option Int) : Option Int := match a, b with
 | some x, some y => some (x + y)
 | _, _ => none
def omin (a b : Option Int) : Option Int := match a, b with
 | none, b => b
 | a, none => a
 | some x, some y => some (if x < y then x else y)
def olt (a b : Option Int) : Bool := match a, b with
 | none, _ => false
 | some _, none => true
 | some x, some y => decide (x < y)
def inB (B : Int) (a : Option Int) : Prop := match a with
 | none => True
 | some x => -B ≤ x ∧ x ≤ B
theorem Z09 (a : Option Int) : ole a a := by cases a <;> simp [ole]
theorem Zs {a b c : Option Int} (h1 : ole a b) (h2 : ole b c) : ole a c := by
 cases a <;> cases b <;> cases c <;> simp [ole] at * <;> omega
theorem Z1M {a b c d : Option Int} (h1 : ole a c) (h2 : ole b d) : ole (oadd a b) (oadd c d) := by
 cases a <;> cases b <;> cases c <;> cases d <;> simp [ole, oadd] at * <;> omega
theorem ole_min {a b c : Option Int} (h1 : ole c a) (h2 : ole c b) : ole c (omin a b) := by
 cases a <;> cases b <;> cases c <;> simp [ole, omin] at * <;> (try split) <;> omega
theorem Z2q (a b : Option Int) : ole (omin a b) a := by
 cases a <;> cases b <;> simp [ole, omin] <;> (try split) <;> omega
theorem Z52 (a b : Option Int) : ole (omin a b) b := by
 cases a <;> cases b <;> simp [ole, omin] <;> (try split) <;> omega
theorem Z4F (a b : Option Int) : omin a b = a ∨ omin a b = b := by
 cases a <;> cases b <;> simp [omin] <;> omega
theorem Z4s (a b : Option Int) : omin a b = if olt a b = true then a else b := by
 cases a <;> cases b <;> simp [omin, olt]
 split <;> rfl
theorem Z4y {a b : Option Int} (h : ole a b) : omin a b = a := by
 cases a <;> cases b <;> simp [omin, ole] at * <;> omega
theorem omin_comm (a b : Option Int) : omin a b = omin b a := by
 cases a <;> cases b <;> simp [omin] <;> split <;> split <;> omega
theorem oadd_zero (a : Option Int) : oadd a (some 0) = a := by cases a <;> simp [oadd]
theorem Z4t (a : Option Int) : oadd (some 0) a = a := by cases a <;> simp [oadd]
theorem Z0E (a b c : Option Int) : oadd (oadd a b) c = oadd a (oadd b c) := by
 cases a <;> cases b <;> cases c <;> simp [oadd, Int.add_assoc]
theorem inB_add {B : Int} {a b : Option Int} (h1 : inB B a) (h2 : inB B b) : inB (2 * B) (oadd a b) := by
 cases a <;> cases b <;> simp [inB, oadd] at * <;> omega
theorem Z2E {B C : Int} {a : Option Int} (h : inB B a) (hc : B ≤ C) : inB C a := by
 cases a <;> simp [inB] at * <;> omega
theorem inB_min {B : Int} {a b : Option Int} (h1 : inB B a) (h2 : inB B b) : inB B (omin a b) := by
 rcases Z4F a b with h | h <;> rw [h] <;> assumption
theorem less_bd (a b : Option Int) : Z03 (bd a) (bd b) = olt a b := by
 cases a with
 | none => cases b <;> simp [bd, olt, Z03, ZQ]
 | some x =>
  cases b with
  | none => simp [bd, olt, Z03, ZQ]
  | some y => rfl
theorem sum_bd {a b : Option Int} {B : Int} (hB : B ≤ 2305843009213693952) (h1 : inB B a) (h2 : inB B b) : ZY (bd a) (bd b) = (bd (oadd a b), 0) := by
 cases a with
 | none => cases b <;> simp [bd, oadd, ZY, ZQ]
 | some x =>
  cases b with
  | none => simp [bd, oadd, ZY, ZQ]
  | some y =>
   simp only [inB] at h1 h2;have e : Z0D x y = (x + y, 0) := by
    rw [safe_Add_eq (by unfold In64; omega) (by unfold In64; omega), fitS_of (by unfold In64; omega)]
   simp [bd, oadd, ZY, ZQ, e]
theorem less_zero (a : Option Int) : Z03 (bd a) (Bound.mk 0 0) = olt a (some 0) := less_bd a (some 0)
theorem may_bd {a : Option Int} (h : inB 1125899906842624 a) : Z1l (bd a) = true := by
 cases a with
 | none => rfl
 | some x =>
  simp only [inB] at h;unfold Z1l bd;simp only [];rw [Z0z (p := x ≥ _) (by omega), Z0z (p := x ≤ _) (by omega)]
  rfl
def rowM (n : Nat) (M : Nat → Nat → Option Int) (i : Nat) : List Bound := (List.range n).map fun j => bd (M i j)
def Mat (n : Nat) (M : Nat → Nat → Option Int) : List (List Bound) := (List.range n).map fun i => rowM n M i
def updM (M : Nat → Nat → Option Int) (i j : Nat) (v : Option Int) : Nat → Nat → Option Int := fun a b => if a = i ∧ b = j then v else M a b
section
variable {n : Nat} {M A : Nat → Nat → Option Int}
theorem Z0V : (Mat n M).length = n := by simp [Mat]
theorem Z2l {i : Nat} : (rowM n M i).length = n := by simp [rowM]
theorem Z1k {i : Nat} (h : i < n) : at? (Mat n M) (i : Int) = some (rowM n M i) := by
 rw [at?_nat (by rw [Z0V]; exact h)]; simp [Mat]
theorem Z13 {i j : Nat} (h : j < n) : at? (rowM n M i) (j : Int) = some (bd (M i j)) := by
 rw [at?_nat (by rw [Z2l]; exact h)]; simp [rowM]
theorem Z28 (h : ∀ i j, i < n → j < n → M i j = A i j) : Mat n M = Mat n A := by
 unfold Mat rowM
 apply List.map_congr_left
 intro i hi
 apply List.map_congr_left
 intro j hj
 rw [h i j (by simpa using hi) (by simpa using hj)]
theorem Mat_set {i j : Nat} (v : Option Int) : (Mat n M).set i ((rowM n M i).set j (bd v)) = Mat n (updM M i j v) := by
 apply List.ext_getElem
 ·simp [Mat]
 ·intro a h1 h2;have ha : a < n := by simpa [Mat] using h2
  rw [List.getElem_set]
  by_cases hai : i = a
  ·subst hai;rw [if_pos rfl];apply List.ext_getElem
   ·simp [Mat, rowM]
   ·intro b g1 g2;rw [List.getElem_set]
    by_cases hbj : j = b
    ·subst hbj; simp [Mat, rowM, updM]
    ·rw [if_neg hbj];simp [Mat, rowM, updM, Ne.symm hbj]
  ·rw [if_neg hai];simp [Mat, rowM, updM, Ne.symm hai]
theorem Mat_set' {i j : Nat} (v : Option Int) : (Mat n M).set ((i : Int)).toNat ((rowM n M i).set ((j : Int)).toNat (bd v)) = Mat n (updM M i j v) := Mat_set v
end
theorem repeat_eq {n : Nat} (h1 : 1 ≤ n) (h2 : n ≤ 24) (a : Bound) : Z9 [a] (n : Int) = some (List.replicate n a) := by
 have hmul : ZB (IntKind.u64.wrap (([a] : List Bound).length : Int)) (IntKind.u64.wrap (n : Int)) = (0, (n : Int)) := by
  have e1 : IntKind.u64.wrap (([a] : List Bound).length : Int) = 1 := by rw [Z4a]; rfl
  have e2 : IntKind.u64.wrap (n : Int) = n := by rw [Z4a]; omega
  rw [e1, e2];unfold ZB;rw [mul64_eq (by unfold InU64; omega) (by unfold InU64; omega)]
  simp only [Y3];omega
 unfold Z9
 rw [Z0e (by omega), cond_false, hmul]
 simp only []
 rw [Z0e (by omega), Z0e (by omega), Bool.or_self, cond_false, Z02 (by omega)]
 have hnew : new? 16 (n : Int) (Bound.mk 0 0) = some (List.replicate n ⟨0, 0⟩) := by
  unfold new?;rw [if_pos ⟨by omega, by rw [room_eq]; omega⟩, YP]
 rw [hnew, Y1]
 have hcp : cpy (List.replicate n (⟨0, 0⟩ : Bound)) [a] = a :: List.replicate (n - 1) ⟨0, 0⟩ := by
  unfold cpy;rw [Y02, List.length_singleton, Nat.min_eq_left h1, List.drop_replicate]
  rfl
 have hmin : (min ([a] : List Bound).length (List.replicate n (⟨0, 0⟩ : Bound)).length : Nat) = 1 := by
  rw [Y02, List.length_singleton, Nat.min_eq_left h1]
 rw [hcp, hmin]
 have key := Z0d (step := Z9.s0 [a] (n : Int)) (I := fun s r => r = List.replicate n a ∧ ∃ p : Nat, s.1 = (p : Int) ∧ 1 ≤ p ∧ p ≤ n ∧ s.2.length = n ∧ s.2.take p = List.replicate p a) (fun s => n - s.1.toNat) ?_ (s := (((1 : Nat) : Int), a :: List.replicate (n - 1) ⟨0, 0⟩)) (r := List.replicate n a) ⟨rfl, 1, rfl, Y9 _, h1, by simp; omega, rfl⟩
 ·rw [key]; rfl
 ·rintro ⟨s1, xs⟩ r ⟨rfl, p, hp, hp1, hpn, hlen, htake⟩;simp only at hp hlen htake;subst hp;unfold Z9.s0;rw [hmul];simp only [hlen]
  by_cases hlt : p < n
  ·rw [Z0z (by omega), cond_true, Z02 (x := (n : Int)) (by omega), YP, YP]
   have w1 : winA (p : Int) n = some () := if_pos ⟨by omega, by omega⟩
   have w2 : winB (p : Int) n = some () := if_pos ⟨by omega, by omega⟩
   rw [w1, w2, Y1, Y1];refine .inl ⟨_, rfl, ⟨trivial, p + min p (n - p), ?_, by omega, by omega, ?_, ?_⟩, ?_⟩
   ·rw [Z02 (by omega)]; push_cast; rfl
   ·simp only [dbl, YK, YM, Yl, hlen]; omega
   ·have hd : dbl xs p = List.replicate p a ++ List.replicate (min p (n - p)) a ++ xs.drop (p + min p (n - p)) := by
     unfold dbl;rw [htake, hlen, List.take_replicate, Nat.min_comm (n - p) p]
    simp only [hd];rw [List.replicate_append_replicate, Yz (by simp), Yg (by simp)]
   ·simp only [YP];rw [Z02 (by omega)]
    omega
  ·have hpe : p = n := by omega
   subst hpe;rw [Z0e (by omega), cond_false]
   refine .inr ?_;rw [Yg (by omega)] at htake
   rw [htake]
end Go.Dn

namespace Go.Dn
open Go
def newM : Nat → Nat → Option Int := fun a b => if a = b then some 0 else none
def BdM (n : Nat) (M : Nat → Nat → Option Int) (B : Int) : Prop := ∀ i j, i < n → j < n → inB B (M i j)
theorem stp_New_eq {n : Nat} (h1 : 1 ≤ n) (h2 : n ≤ 24) : Z0b (n : Int) = some (Mat n newM, 0) := by
 unfold Z0b
 rw [Z0e (by omega), Z0e (by omega), Bool.or_self, cond_false]
 have hnew : new? 24 (n : Int) ([] : List Bound) = some (List.replicate n []) := by
  unfold new?;rw [if_pos ⟨by omega, by rw [room_eq]; omega⟩, YP]
 rw [hnew, Y1]
 have key := Z0d (step := Z0b.s0 (n : Int)) (I := fun s r => r = Mat n newM ∧ ∃ p : Nat, s.1 = (p : Int) ∧ p ≤ n ∧ s.2.length = n ∧ ∀ a, a < p → s.2[a]? = some (rowM n newM a)) (fun s => n - s.1.toNat) ?_ (s := (0, List.replicate n [])) (r := Mat n newM) ⟨rfl, 0, rfl, Yh _, by simp, fun a ha => absurd ha (Nat.not_lt_zero _)⟩
 ·rw [key]; rfl
 ·rintro ⟨s1, L⟩ r ⟨rfl, p, hp, hpn, hlen, hL⟩;simp only at hp hlen hL;subst hp;unfold Z0b.s0;simp only []
  by_cases hlt : p < n
  ·rw [Z0z (by omega), cond_true, repeat_eq h1 h2, Y1, at?_nat (by omega), Y1, YP, at?_nat (by rw [Yd]; omega), Y1, List.getElem_set_self]
   rw [at?_nat (by simpa using hlt), Y1]
   refine .inl ⟨_, rfl, ⟨trivial, p + 1, ?_, by omega, ?_, ?_⟩, ?_⟩
   ·simp only []; rw [Z02 (by omega)]; push_cast; rfl
   ·simp [hlen]
   ·intro a ha;simp only [Y06]
    by_cases hap : p = a
    ·subst hap;rw [if_pos rfl, if_pos (by simp; omega)]
     congr 1
     apply List.ext_getElem
     ·simp [rowM]
     ·intro b g1 g2;rw [List.getElem_set]
      by_cases hb : p = b
      ·subst hb; simp [rowM, newM, bd]
      ·rw [if_neg hb]; simp [rowM, newM, bd, hb]
    ·rw [if_neg hap, if_neg hap];exact hL a (by omega)
   ·simp only []; rw [Z02 (by omega)]; omega
  ·have hpe : p = n := by omega
   subst hpe;rw [Z0e (by omega), cond_false]
   refine .inr ?_;have e : L = Mat p newM := by
    apply List.ext_getElem?;intro a
    by_cases ha : a < p
    ·rw [hL a ha]; simp [Mat, ha]
    ·rw [Yj (by omega), Yj (by rw [Z0V]; omega)]
   rw [e]
theorem findB_none {s : List Bound} {f : Bound → Option Bool} (hs : (s.length : Int) < 4611686018427387904) (h : ∀ x ∈ s, f x = some false) : ZJ s f = some false := by
 unfold ZJ Z8
 have key := Z0d (step := Z8.s0 s f) (I := fun (i : Int) r => r = .go () ∧ ∃ k : Nat, i = k ∧ k ≤ s.length) (fun i => s.length - i.toNat) ?_ (s := 0) (r := .go ()) ⟨rfl, 0, rfl, Yh _⟩
 ·rw [key]; rfl
 ·rintro i r ⟨rfl, k, rfl, hk⟩;unfold Z8.s0
  by_cases hlt : k < s.length
  ·rw [Z0z (by omega), cond_true, at?_nat hlt, Y1, h _ (Y0A hlt)]
   refine .inl ⟨_, rfl, ⟨rfl, k + 1, by rw [Z02 (by omega)]; push_cast; rfl, hlt⟩, by rw [Z02 (by omega)]; omega⟩
  ·rw [Z0e (by omega), cond_false]; exact .inr rfl
theorem findR_none {s : List (List Bound)} {f : List Bound → Option Bool} (hs : (s.length : Int) < 4611686018427387904) (h : ∀ x ∈ s, f x = some false) : ZE s f = some false := by
 unfold ZE Z5
 have key := Z0d (step := Z5.s0 s f) (I := fun (i : Int) r => r = .go () ∧ ∃ k : Nat, i = k ∧ k ≤ s.length) (fun i => s.length - i.toNat) ?_ (s := 0) (r := .go ()) ⟨rfl, 0, rfl, Yh _⟩
 ·rw [key]; rfl
 ·rintro i r ⟨rfl, k, rfl, hk⟩;unfold Z5.s0
  by_cases hlt : k < s.length
  ·rw [Z0z (by omega), cond_true, at?_nat hlt, Y1, h _ (Y0A hlt)]
   refine .inl ⟨_, rfl, ⟨rfl, k + 1, by rw [Z02 (by omega)]; push_cast; rfl, hlt⟩, by rw [Z02 (by omega)]; omega⟩
  ·rw [Z0e (by omega), cond_false]; exact .inr rfl
theorem Z3l {n : Nat} {M : Nat → Nat → Option Int} (h2 : n ≤ 24) (hB : BdM n M 1125899906842624) : Z0r (Mat n M) = some true := by
 unfold Z0r
 rw [Z0V, Z0z (by omega), cond_true, findR_none (by rw [Z0V]; omega)]
 ·rfl
 ·intro row hrow;simp only [Mat, List.mem_map, Y0J] at hrow;obtain ⟨i, hi, rfl⟩ := hrow
  unfold Z1F;rw [Z2l, bne_f rfl, cond_false, findB_none (by rw [Z2l]; omega)]
  ·rfl
  ·intro b hb;simp only [rowM, List.mem_map, Y0J] at hb;obtain ⟨j, hj, rfl⟩ := hb
   unfold Z1p;rw [may_bd (hB i j hi hj)]; rfl
theorem Z58 {n : Nat} {M : Nat → Nat → Option Int} (h1 : 1 ≤ n) (h2 : n ≤ 24) : Z1w (Mat n M) = some (Mat n M) := by
 unfold Z1w
 have ne : ∀ {α : Type} {l : List α}, l.length = n → l.isEmpty = false := by
  intro α l hl; cases l with
  | nil => simp at hl; omega
  | cons a b => rfl
 have hr := room_eq
 rw [ne Z0V, Z0V, Z0z (by omega)]
 have : ((Mat n M).all fun q => !q.isEmpty && decide (q.length * 16 ≤ room)) = true := by
  rw [YF];intro q hq;simp only [Mat, List.mem_map, Y0J] at hq;obtain ⟨i, hi, rfl⟩ := hq
  rw [ne Z2l, Z2l, Z0z (by omega)]; rfl
 rw [this]; rfl
def setM (M : Nat → Nat → Option Int) (i j : Nat) (v : Option Int) : Nat → Nat → Option Int := updM M i j (omin v (M i j))
theorem Z5S {n i j : Nat} {M : Nat → Nat → Option Int} {v : Option Int} (h2 : n ≤ 24) (hB : BdM n M 1125899906842624) (hi : i < n) (hj : j < n) (hv : inB 1125899906842624 v) : Z1z (Mat n M) (i : Int) (j : Int) (bd v) = some (Mat n (setM M i j v), 0) := by
 unfold Z1z
 rw [Z3l h2 hB, Y1, Z0V, may_bd hv, Z0e (p := (i : Int) < 0) (by omega), Z0e (p := (j : Int) < 0) (by omega), Z0e (p := (i : Int) ≥ _) (by omega), Z0e (p := (j : Int) ≥ _) (by omega)]
 simp only [Bool.not_true, Bool.or_false, cond_false]
 rw [Z58 (by omega) h2, Y1, Z1k hi, Y1, Z13 hj, Y1, less_bd]
 unfold setM
 rw [Z4s]
 cases h : olt v (M i j) with
 | true =>
  simp only [cond_true, Y1, Z13 hj, if_true];rw [Mat_set']
 | false =>
  simp only [cond_false, Y1];have : (if false = true then v else M i j) = M i j := by simp
  rw [this]
  congr 2
  refine Z28 fun a b _ _ => ?_
  unfold updM
  split
  ·rename_i hh; rw [hh.1, hh.2]
  ·rfl
theorem setM_bd {n i j : Nat} {M : Nat → Nat → Option Int} {v : Option Int} {B : Int} (hB : BdM n M B) (hi : i < n) (hj : j < n) (hv : inB B v) : BdM n (setM M i j v) B := by
 intro a b ha hb
 unfold setM updM
 split
 ·exact inB_min hv (hB i j hi hj)
 ·exact hB a b ha hb
def goodSet (n : Nat) (x : epactlaw24_Set) : Prop := ∃ (i j : Nat) (v : Option Int), i < n ∧ j < n ∧ inB 1000 v ∧ x = ⟨i, j, bd v⟩
theorem built_loop {n : Nat} (h2 : n ≤ 24) {l : List epactlaw24_Set} (hl : (l.length : Int) < 4611686018427387904) (hg : ∀ x ∈ l, goodSet n x) {M : Nat → Nat → Option Int} (hB : BdM n M 1000) : ∃ A, loopO (ZH.s0 l) (Mat n M, 0, 0) = some (Mat n A, 0) ∧ BdM n A 1000 := by
 have key := Z2d (step := ZH.s0 l) (I := fun s => ∃ (k : Nat) (A : Nat → Nat → Option Int), s = (Mat n A, 0, (k : Int)) ∧ k ≤ l.length ∧ BdM n A 1000) (fun s => l.length - s.2.2.toNat) (fun r => ∃ A, r = (Mat n A, 0) ∧ BdM n A 1000) ?_ (Mat n M, 0, 0) ⟨0, M, rfl, Yh _, hB⟩
 ·obtain ⟨r, e, A, rfl, hA⟩ := key
  exact ⟨A, e, hA⟩
 ·rintro _ ⟨k, A, rfl, hk, hA⟩;unfold ZH.s0;simp only []
  by_cases hlt : k < l.length
  ·obtain ⟨i, j, v, hi, hj, hv, hx⟩ := hg _ (Y0A hlt)
   rw [Z0z (by omega), cond_true, at?_nat hlt, Y1, hx]
   simp only [beq_t, cond_true];rw [Z5S h2 (fun a b ha hb => Z2E (hA a b ha hb) (by omega)) hi hj (Z2E hv (by omega))]
   refine .inl ⟨_, rfl, ⟨k + 1, setM A i j v, ?_, hlt, setM_bd hA hi hj hv⟩, ?_⟩
   ·simp only [Y1]; rw [Z02 (by omega)]; push_cast; rfl
   ·simp only [Y1]; rw [Z02 (by omega)]; omega
  ·rw [Z0e (by omega), cond_false]
   exact .inr ⟨_, rfl, A, rfl, hA⟩
theorem and255 (x : Int) : 0 ≤ iAnd .i64 x 255 ∧ iAnd .i64 x 255 ≤ 255 := by
 have h2 : (BitVec.ofInt 64 255).toNat = 2 ^ 8 - 1 := by decide
 have h : (BitVec.ofInt 64 x &&& BitVec.ofInt 64 255).toNat ≤ 255 := by
  rw [BitVec.toNat_and, h2, Nat.and_two_pow_sub_one_eq_mod];omega
 have e : iAnd .i64 x 255 = ((BitVec.ofInt 64 x &&& BitVec.ofInt 64 255).toNat : Int) := by
  show IntKind.i64.wrap _ = _
  rw [wrap_i64];have hb : (IntKind.i64.bits) = 64 := rfl
  rw [hb];omega
 rw [e]
 omega
theorem Z4L {x : Int} {n : Nat} (h : 0 ≤ x) (hn : 1 ≤ n) : ∃ i : Nat, i < n ∧ x.tmod (n : Int) = i := by
 refine ⟨(x % n).toNat, ?_, ?_⟩
 ·have h1 := Int.emod_lt_of_pos x (show (0 : Int) < n by omega)
  have h2 := Int.emod_nonneg x (show (n : Int) ≠ 0 by omega)
  omega
 ·rw [Y0L h];have h2 := Int.emod_nonneg x (show (n : Int) ≠ 0 by omega)
  omega
theorem tmod_bd (x : Int) : -1000 ≤ x.tmod 1001 ∧ x.tmod 1001 ≤ 1000 := by
 have h1 := Int.tmod_lt_of_pos x (show (0 : Int) < 1001 by omega)
 have h2 := Int.lt_tmod_of_pos x (show (0 : Int) < 1001 by omega)
 omega
theorem built_sets {n : Nat} (h1 : 1 ≤ n) {x1 : List epactlaw24_Set} (hl : x1.length ≤ 60) : ∃ l, loopO (ZT.s0 x1) ((n : Int), 0, []) = some ((n : Int), l) ∧ l.length ≤ 60 ∧ ∀ x ∈ l, goodSet n x := by
 have hr := room_eq
 have key := Z2d (step := ZT.s0 x1) (I := fun s => ∃ (k : Nat) (l : List epactlaw24_Set), s = ((n : Int), (k : Int), l) ∧ k ≤ x1.length ∧ l.length ≤ k ∧ ∀ x ∈ l, goodSet n x) (fun s => x1.length - s.2.1.toNat) (fun r => ∃ l, r = ((n : Int), l) ∧ l.length ≤ x1.length ∧ ∀ x ∈ l, goodSet n x) ?_ ((n : Int), 0, []) ⟨0, [], rfl, Yh _, Y9 _, fun x hx => by cases hx⟩
 ·obtain ⟨r, e, l, rfl, hA, hB⟩ := key
  exact ⟨l, e, by omega, hB⟩
 ·rintro _ ⟨k, l, rfl, hk, hlk, hg⟩;unfold ZT.s0;simp only []
  by_cases hlt : k < x1.length
  ·rw [Z0z (by omega), cond_true, at?_nat hlt, Y1]
   generalize x1[k] = x;obtain ⟨i, hi, ei⟩ := Z4L (and255 x.I).1 h1
   obtain ⟨j, hj, ej⟩ := Z4L (and255 x.J).1 h1
   rw [nz?_ok (by omega), Y1, Y1, ei, ej]
   have hv : ∃ v, inB 1000 v ∧ (bif (x.Most.Inf == 0) then some (0, x.Most.N.tmod 1001) else some (1, 0)) = some ((bd v).Inf, (bd v).N) := by
    cases x.Most.Inf == 0 with
    | true => exact ⟨some (x.Most.N.tmod 1001), tmod_bd _, rfl⟩
    | false => exact ⟨none, trivial, rfl⟩
   obtain ⟨v, hv, ev⟩ := hv
   rw [ev, Y1];have hw : w64 ((k : Int) + 1) = ((k + 1 : Nat) : Int) := by rw [Z02 (by omega)]; push_cast; rfl
   rw [hw]
   by_cases hij : (i : Int) = j
   ·rw [bne_f hij, cond_false];exact .inl ⟨_, rfl, ⟨k + 1, l, rfl, hlt, by omega, hg⟩, by simp only [YP]; omega⟩
   ·rw [bne_t hij, cond_true, app?_ok (by simp; omega)]
    refine .inl ⟨_, rfl, ⟨k + 1, _, rfl, hlt, by simp; omega, ?_⟩, by simp only [YP]; omega⟩
    intro y hy
    rcases List.mem_append.1 hy with hy | hy
    ·exact hg y hy
    ·rw [YW] at hy;exact ⟨i, j, v, hi, hj, hv, hy⟩
  ·rw [Z0e (by omega), cond_false]
   exact .inr ⟨_, rfl, l, rfl, by omega, hg⟩
theorem newM_bd (n : Nat) : BdM n newM 1000 := by
 intro i j _ _
 unfold newM
 split
 ·exact ⟨by omega, by omega⟩
 ·trivial
theorem built_eq {m : Int} (hm : 0 ≤ m ∧ m ≤ 255) (l : List epactlaw24_Set) : ∃ (n : Nat) (M : Nat → Nat → Option Int), ZT m l = some (Mat n M) ∧ (n : Int) = 1 + m % 24 ∧ 1 ≤ n ∧ n ≤ 24 ∧ BdM n M 1000 := by
 have hn : ∃ n : Nat, (n : Int) = 1 + m % 24 := ⟨(1 + m % 24).toNat, by omega⟩
 obtain ⟨n, hn⟩ := hn
 unfold ZT
 have hmin : iMin (l.length : Int) 60 = ((min l.length 60 : Nat) : Int) := by
  unfold iMin; split <;> omega
 have hcut : cut? l 0 (iMin (l.length : Int) 60) = some (l.take 60) := by
  unfold cut?;rw [hmin, if_pos ⟨by omega, by omega, by omega⟩]
  simp only [YP, Int.toNat_zero, List.drop_zero]
  congr 1
  rcases Nat.le_total l.length 60 with h | h
  ·rw [Nat.min_eq_left h, List.take_length, Yg h]
  ·rw [Nat.min_eq_right h]
 rw [hcut, Y1, Y0L hm.1]
 have hw1 : w64 (m % 24) = m % 24 := Z02 (by omega)
 have hw2 : w64 (1 + m % 24) = (n : Int) := by rw [Z02 (by omega), hn]
 rw [hw1, hw2]
 obtain ⟨l2, e2, h2, g2⟩ := built_sets (n := n) (by omega) (x1 := l.take 60) (by simp; omega)
 rw [e2, Y1]
 unfold ZH
 rw [stp_New_eq (by omega) (by omega), Y1]
 obtain ⟨A, eA, bA⟩ := built_loop (n := n) (by omega) (l := l2) (by omega) g2 (newM_bd n)
 simp only []
 rw [eA]
 exact ⟨n, A, rfl, hn, by omega, by omega, bA⟩
end Go.Dn

namespace Go.Dn
open Go
abbrev MF := Nat → Nat → Option Int
def leM (n : Nat) (A M : MF) : Prop := ∀ i j, i < n → j < n → ole (A i j) (M i j)
def TriM (n k : Nat) (A : MF) : Prop := ∀ m, m < k → ∀ i j, i < n → j < n → ole (A i j) (oadd (A i m) (A m j))
def DiagM (n : Nat) (A : MF) : Prop := ∀ i, i < n → A i i = some 0
def fw (M : MF) (k : Nat) : MF := fun i j => omin (oadd (M i k) (M k j)) (M i j)
theorem fw_row {M : MF} {k j : Nat} (h : M k k = some 0) : fw M k k j = M k j := by
 unfold fw; rw [h, Z4t]; exact Z4y (Z09 _)
theorem fw_col {M : MF} {k i : Nat} (h : M k k = some 0) : fw M k i k = M i k := by
 unfold fw; rw [h, oadd_zero]; exact Z4y (Z09 _)
theorem fw_le (M : MF) (k i j : Nat) : ole (fw M k i j) (M i j) := Z52 _ _
theorem fw_tri {n k : Nat} {M : MF} (hk : k < n) (hd : M k k = some 0) (ht : TriM n k M) : TriM n (k + 1) (fw M k) := by
 intro m hm i j hi hj
 by_cases hmk : m = k
 ·subst hmk;rw [fw_row hd, fw_col hd];exact Z2q _ _
 ·have hm' : m < k := by omega
  have T := ht m hm'
  have t1 : fw M k i m = oadd (M i k) (M k m) ∨ fw M k i m = M i m := Z4F _ _
  have t2 : fw M k m j = oadd (M m k) (M k j) ∨ fw M k m j = M m j := Z4F _ _
  have hz : ole (some 0) (oadd (M k m) (M m k)) := by have := T k k hk hk; rwa [hd] at this
  rcases t1 with e1 | e1 <;> rcases t2 with e2 | e2 <;> rw [e1, e2]
  ·refine Zs (Z2q _ _) ?_;rw [Z0E, ← Z0E (M k m)];refine Z1M (Z09 _) ?_;have := Z1M hz (Z09 (M k j))
   rwa [Z4t] at this
  ·refine Zs (Z2q _ _) ?_;rw [Z0E];exact Z1M (Z09 _) (T k j hk hj)
  ·refine Zs (Z2q _ _) ?_;rw [← Z0E];exact Z1M (T i k hi hk) (Z09 _)
  ·exact Zs (Z52 _ _) (T i j hi hj)
theorem fw_gr {n k : Nat} {M Y : MF} (hk : k < n) (hY : TriM n n Y) (h : leM n Y M) : leM n Y (fw M k) := by
 intro i j hi hj
 exact ole_min (Zs (hY k hk i j hi hj) (Z1M (h i k hi hk) (h k j hk hj))) (h i j hi hj)
theorem fw_bd {n k : Nat} {M : MF} {B : Int} (hk : k < n) (h0 : 0 ≤ B) (h : BdM n M B) : BdM n (fw M k) (2 * B) := by
 intro i j hi hj
 exact inB_min (inB_add (h i k hi hk) (h k j hk hj)) (Z2E (h i j hi hj) (by omega))
def mid (M : MF) (k i j : Nat) : MF := fun a b => if a < i ∨ (a = i ∧ b < j) then fw M k a b else M a b
theorem mid_upd {M : MF} {k i j : Nat} : ∀ a b, updM (mid M k i j) i j (fw M k i j) a b = mid M k i (j + 1) a b := by
 intro a b
 unfold updM mid
 by_cases h : a = i ∧ b = j
 ·rw [if_pos h, if_pos (by omega), h.1, h.2]
 ·rw [if_neg h]
  by_cases h2 : a < i ∨ (a = i ∧ b < j)
  ·rw [if_pos h2, if_pos (by omega)]
  ·rw [if_neg h2, if_neg (by omega)]
variable {n : Nat} {d : List (List Bound)}
theorem close_s3 {M : MF} {k i : Nat} {B : Int} {s2 s3 : Int × List (List Bound)} (hn : n ≤ 24) (hdl : d.length = n) (h2 : s2.1 = (k : Int)) (h3 : s3.1 = (i : Int)) (hk : k < n) (hi : i < n) (hd : M k k = some 0) (hB : BdM n M B) (hB1 : B ≤ 2305843009213693952) :
  loopO (Z7.s3 d s2 s3) (0, Mat n (mid M k i 0)) = some (Mat n (mid M k (i + 1) 0)) := by
 refine Z0d (I := fun s r => r = Mat n (mid M k (i + 1) 0) ∧ ∃ j : Nat, s = ((j : Int), Mat n (mid M k i j)) ∧ j ≤ n) (fun s => n - s.1.toNat) ?_ ⟨rfl, 0, rfl, Yh _⟩
 rintro _ r ⟨rfl, j, rfl, hj⟩
 unfold Z7.s3
 simp only [h2, h3, hdl]
 by_cases hlt : j < n
 ·have e1 : mid M k i j i k = M i k := by
   unfold mid; split
   ·exact fw_col hd
   ·rfl
  have e2 : mid M k i j k j = M k j := by
   unfold mid; split
   ·exact fw_row hd
   ·rfl
  have e3 : mid M k i j i j = M i j := by unfold mid; rw [if_neg (by omega)]
  have hw : w64 ((j : Int) + 1) = ((j + 1 : Nat) : Int) := by rw [Z02 (by omega)]; push_cast; rfl
  rw [Z0z (by omega), cond_true, Z1k hi, Y1, Z13 hk, Y1, Z1k hk, Y1, Z13 hlt, Y1, e1, e2, sum_bd hB1 (hB i k hi hk) (hB k j hk hlt)]
  simp only [beq_t, cond_true, Y1, Z1k hi, Z13 hlt, less_bd, e3, hw];refine .inl ?_;have hstep : ∀ X, X = Mat n (mid M k i (j + 1)) → (∃ s', some (Sum.inl (((j + 1 : Nat) : Int), X)) = some (Sum.inl s' : (Int × List (List Bound)) ⊕ List (List Bound)) ∧ (True ∧ ∃ j : Nat, s' = ((j : Int), Mat n (mid M k i j)) ∧ j ≤ n) ∧ n - s'.1.toNat < n - ((j : Int)).toNat) := by
   rintro X rfl;exact ⟨_, rfl, ⟨trivial, j + 1, rfl, hlt⟩, by simp only [YP]; omega⟩
  cases h : olt (oadd (M i k) (M k j)) (M i j) with
  | true =>
   simp only [cond_true, Y1];refine hstep _ ?_;rw [Mat_set'];refine Z28 fun a b _ _ => ?_
   rw [← mid_upd];have : oadd (M i k) (M k j) = fw M k i j := by unfold fw; rw [Z4s, if_pos h]
   rw [this]
  | false =>
   simp only [cond_false, Y1];refine hstep _ ?_;refine Z28 fun a b _ _ => ?_
   rw [← mid_upd];unfold updM
   split
   ·rename_i hh;rw [hh.1, hh.2, e3];unfold fw;rw [Z4s, h]; rfl
   ·rfl
 ·have : j = n := by omega
  subst this;rw [Z0e (by omega), cond_false]
  refine .inr ?_
  congr 2
  refine Z28 fun a b ha hb => ?_
  unfold mid
  by_cases h : a < i + 1
  ·rw [if_pos (by omega), if_pos (by omega)]
  ·rw [if_neg (by omega), if_neg (by omega)]
theorem close_s2 {M : MF} {k : Nat} {B : Int} {s2 : Int × List (List Bound)} (hn : n ≤ 24) (hdl : d.length = n) (h2 : s2.1 = (k : Int)) (hk : k < n) (hd : M k k = some 0) (hB : BdM n M B) (hB1 : B ≤ 2305843009213693952) :
  loopO (Z7.s2 d s2) (0, Mat n M) = some (Mat n (fw M k)) := by
 have e0 : Mat n M = Mat n (mid M k 0 0) := Z28 fun a b _ _ => by unfold mid; rw [if_neg (by omega)]
 have e1 : Mat n (fw M k) = Mat n (mid M k n 0) := Z28 fun a b ha _ => by unfold mid; rw [if_pos (by omega)]
 rw [e0, e1]
 refine Z0d (I := fun s r => r = Mat n (mid M k n 0) ∧ ∃ i : Nat, s = ((i : Int), Mat n (mid M k i 0)) ∧ i ≤ n) (fun s => n - s.1.toNat) ?_ ⟨rfl, 0, rfl, Yh _⟩
 rintro _ r ⟨rfl, i, rfl, hi⟩
 unfold Z7.s2
 simp only [hdl]
 by_cases hlt : i < n
 ·rw [Z0z (by omega), cond_true, close_s3 hn hdl h2 rfl hk hlt hd hB hB1, Y1]
  have hw : w64 ((i : Int) + 1) = ((i + 1 : Nat) : Int) := by rw [Z02 (by omega)]; push_cast; rfl
  rw [hw];exact .inl ⟨_, rfl, ⟨trivial, i + 1, rfl, hlt⟩, by simp only [YP]; omega⟩
 ·have : i = n := by omega
  subst this;rw [Z0e (by omega), cond_false]
  exact .inr rfl
theorem close_s4 {M : MF} (hn : n ≤ 24) (hdl : d.length = n) :
  (loopO (Z7.s4 d (Mat n M)) 0 = some (.go ()) ∧ ∀ i, i < n → olt (M i i) (some 0) = false) ∨ (loopO (Z7.s4 d (Mat n M)) 0 = some (.ret ()) ∧ ∃ i, i < n ∧ olt (M i i) (some 0) = true) := by
 have key := all_loop (l := List.range n) (step := Z7.s4 d (Mat n M)) (good := fun k x => olt (M x x) (some 0) = false) (yes := .go ()) (no := .ret ()) ?_ ?_
 ·rcases key with ⟨h1, h2⟩ | ⟨h1, h2⟩
  ·exact .inl ⟨h1, fun i hi => h2 i i (by simp [hi])⟩
  ·refine .inr ⟨h1, ?_⟩;refine Classical.byContradiction fun hc => h2 fun k x hx => ?_
   have hx' : x < n := by have := YB hx; simpa using this
   cases h : olt (M x x) (some 0) with
   | false => rfl
   | true => exact absurd ⟨x, hx', h⟩ hc
 ·intro k x hx _;obtain ⟨hk, rfl⟩ : k < n ∧ x = k := by
   rw [List.getElem?_eq_some_iff] at hx;obtain ⟨h, e⟩ := hx
   simp at h e;exact ⟨h, e.symm⟩
  unfold Z7.s4;rw [hdl, Z0z (by omega), cond_true, Z1k hk, Y1, Z13 hk, Y1, less_zero]
  cases h : olt (M x x) (some 0) with
  | true => exact .inr ⟨rfl, by simp⟩
  | false =>
   rw [cond_false, Z02 (by omega)]
   exact .inl ⟨rfl, rfl⟩
 ·unfold Z7.s4;rw [hdl, List.length_range, Z0e (by omega), cond_false]
theorem lt_neg {a : Option Int} (h : olt a (some 0) = true) : ¬ ole (some 0) a := by
 cases a <;> simp [olt, ole] at * <;> omega
theorem lt_not {a : Option Int} (h : olt a (some 0) = false) (h2 : ole a (some 0)) : a = some 0 := by
 cases a <;> simp [olt, ole] at * <;> omega
structure InvC (n : Nat) (B : Int) (M : MF) (k : Nat) (C : MF) : Prop where
 diag : DiagM n C
 tri : TriM n k C
 le : leM n C M
 gr : ∀ Y, TriM n n Y → DiagM n Y → leM n Y M → leM n Y C
 bd : BdM n C (B * 2 ^ k)
def NoSol (n : Nat) (M : MF) : Prop := ∀ Y, TriM n n Y → DiagM n Y → ¬ leM n Y M
theorem pow_le24 {k : Nat} (h : k ≤ 24) : (2 : Int) ^ k ≤ 16777216 ∧ 1 ≤ (2 : Int) ^ k := by
 have h1 : (2 : Nat) ^ k ≤ 2 ^ 24 := Nat.pow_le_pow_right (by omega) h
 have h2 : 1 ≤ (2 : Nat) ^ k := Nat.one_le_two_pow
 have h3 : ((2 ^ k : Nat) : Int) = (2 : Int) ^ k := by push_cast; rfl
 omega
theorem close_s0 {M : MF} {B : Int} (hB0 : 0 ≤ B) (hn : n ≤ 24) (hdl : d.length = n) (hB : BdM n M B) :
  (∃ C, loopO (Z7.s0 d) (0, Mat n M) = some (.go (Mat n C)) ∧ InvC n B M 0 C) ∨ (loopO (Z7.s0 d) (0, Mat n M) = some (.ret ([], false, 0)) ∧ NoSol n M) := by
 have key := Z2d (step := Z7.s0 d) (I := fun s => ∃ (i : Nat) (C : MF), s = ((i : Int), Mat n C) ∧ i ≤ n ∧ (∀ a, a < i → C a a = some 0) ∧ leM n C M ∧ (∀ Y, DiagM n Y → leM n Y M → leM n Y C) ∧ BdM n C B ∧ ∀ a, i ≤ a → C a a = M a a) (fun s => n - s.1.toNat)
  (fun r => (∃ C, r = .go (Mat n C) ∧ InvC n B M 0 C) ∨ (r = .ret ([], false, 0) ∧ NoSol n M)) ?_ (0, Mat n M) ⟨0, M, rfl, Yh _, fun a ha => absurd ha (Nat.not_lt_zero _), fun i j _ _ => Z09 _, fun Y _ h => h, hB, fun _ _ => rfl⟩
 ·obtain ⟨r, e, ⟨C, rfl, h⟩ | ⟨rfl, h⟩⟩ := key
  ·exact .inl ⟨C, e, h⟩
  ·exact .inr ⟨e, h⟩
 ·rintro _ ⟨i, C, rfl, hi, hdg, hle, hgr, hbd, hrest⟩;unfold Z7.s0;simp only [hdl]
  by_cases hlt : i < n
  ·rw [Z0z (by omega), cond_true]
   simp only [Z1k hlt, Z13 hlt, Y1, less_zero];cases h : olt (C i i) (some 0) with
   | true =>
    rw [cond_true];refine .inr ⟨_, rfl, .inr ⟨rfl, fun Y hY hD hYM => lt_neg h ?_⟩⟩
    have := hgr Y hD hYM i i hlt hlt
    rwa [hD i hlt] at this
   | false =>
    rw [cond_false];refine .inl ⟨_, rfl, ⟨i + 1, updM C i i (some 0), ?_, hlt, ?_, ?_, ?_, ?_, ?_⟩, ?_⟩
    ·rw [Z02 (by omega)]
     congr 1
     exact Mat_set' (some 0)
    ·intro a ha;unfold updM
     split
     ·rfl
     ·exact hdg a (by omega)
    ·intro a b ha hb;unfold updM
     split
     ·rename_i hh;rw [hh.1, hh.2, ← hrest i (Y9 _)];cases hc : C i i with
      | none => trivial
      | some v => rw [hc] at h; simp [olt] at h; simpa [ole] using h
     ·exact hle a b ha hb
    ·intro Y hD hYM a b ha hb;unfold updM
     split
     ·rename_i hh;rw [hh.1, hh.2, hD i hlt]; exact Z09 _
     ·exact hgr Y hD hYM a b ha hb
    ·intro a b ha hb;unfold updM
     split
     ·exact ⟨by omega, by omega⟩
     ·exact hbd a b ha hb
    ·intro a ha;unfold updM;rw [if_neg (by omega)]
     exact hrest a (by omega)
    ·simp only []; rw [Z02 (by omega)]; omega
  ·have : i = n := by omega
   subst this;rw [Z0e (by omega), cond_false]
   exact .inr ⟨_, rfl, .inl ⟨C, rfl, hdg, fun m hm => absurd hm (Nat.not_lt_zero _), hle, fun Y _ hD => hgr Y hD, by simpa using hbd⟩⟩
theorem close_s1 {M C0 : MF} {B : Int} (hB0 : 0 ≤ B) (hB1 : B ≤ 137438953472) (hn : n ≤ 24) (hdl : d.length = n) (h0 : InvC n B M 0 C0) :
  (∃ C, loopO (Z7.s1 d) (0, Mat n C0) = some (.go (Mat n C)) ∧ InvC n B M n C) ∨ (loopO (Z7.s1 d) (0, Mat n C0) = some (.ret ([], false, 0)) ∧ NoSol n M) := by
 have key := Z2d (step := Z7.s1 d) (I := fun s => ∃ (k : Nat) (C : MF), s = ((k : Int), Mat n C) ∧ k ≤ n ∧ InvC n B M k C) (fun s => n - s.1.toNat)
  (fun r => (∃ C, r = .go (Mat n C) ∧ InvC n B M n C) ∨ (r = .ret ([], false, 0) ∧ NoSol n M)) ?_ (0, Mat n C0) ⟨0, C0, rfl, Yh _, h0⟩
 ·obtain ⟨r, e, ⟨C, rfl, h⟩ | ⟨rfl, h⟩⟩ := key
  ·exact .inl ⟨C, e, h⟩
  ·exact .inr ⟨e, h⟩
 ·rintro _ ⟨k, C, rfl, hk, hI⟩;unfold Z7.s1;simp only [hdl]
  by_cases hlt : k < n
  ·have hp := pow_le24 (k := k) (by omega)
   have hpB : 0 ≤ B * 2 ^ k ∧ B * 2 ^ k ≤ 2305843009213693952 := ⟨Int.mul_nonneg hB0 (by omega), Int.le_trans (Int.mul_le_mul hB1 hp.1 (by omega) (by omega)) (by omega)⟩
   rw [Z0z (by omega), cond_true, close_s2 hn hdl rfl hlt (hI.diag k hlt) hI.bd hpB.2, Y1]
   have hbd' : BdM n (fw C k) (B * 2 ^ (k + 1)) := by
    have := fw_bd hlt hpB.1 hI.bd
    have e : B * 2 ^ (k + 1) = 2 * (B * 2 ^ k) := by rw [Int.pow_succ, ← Y0E, Int.mul_comm]
    rw [e]; exact this
   have hgr' : ∀ Y, TriM n n Y → DiagM n Y → leM n Y M → leM n Y (fw C k) := fun Y hT hD hM => fw_gr hlt hT (hI.gr Y hT hD hM)
   rcases close_s4 (d := d) (M := fw C k) hn hdl with ⟨e4, h4⟩ | ⟨e4, i, hi, h4⟩
   ·rw [e4];refine .inl ⟨_, rfl, ⟨k + 1, fw C k, ?_, hlt, ?_, fw_tri hlt (hI.diag k hlt) hI.tri, ?_, hgr', hbd'⟩, ?_⟩
    ·rw [Z02 (by omega)]; push_cast; rfl
    ·intro i hi;refine lt_not (h4 i hi) ?_;have := fw_le C k i i
     rwa [hI.diag i hi] at this
    ·exact fun a b ha hb => Zs (fw_le C k a b) (hI.le a b ha hb)
    ·simp only []; rw [Z02 (by omega)]; omega
   ·rw [e4];refine .inr ⟨_, rfl, .inr ⟨rfl, fun Y hT hD hM => lt_neg h4 ?_⟩⟩
    have := hgr' Y hT hD hM i i hi hi
    rwa [hD i hi] at this
  ·have : k = n := by omega
   subst this;rw [Z0e (by omega), cond_false]
   exact .inr ⟨_, rfl, .inl ⟨C, rfl, hI⟩⟩
theorem close_eq {M : MF} {B : Int} (hB0 : 0 ≤ B) (hB1 : B ≤ 137438953472) (h1 : 1 ≤ n) (hn : n ≤ 24) (hB : BdM n M B) :
  (∃ C, Z7 (Mat n M) = some (Mat n C, true, 0) ∧ InvC n B M n C) ∨ (Z7 (Mat n M) = some ([], false, 0) ∧ NoSol n M) := by
 unfold Z7
 rw [Z3l hn (fun a b ha hb => Z2E (hB a b ha hb) (by omega)), Y1, Bool.not_true, cond_false, Z58 h1 hn, Y1]
 rcases close_s0 (d := Mat n M) hB0 hn Z0V hB with ⟨C, e, h⟩ | ⟨e, h⟩
 ·rw [e];simp only [Y1, Jx.elim]
  rcases close_s1 (d := Mat n M) hB0 hB1 hn Z0V h with ⟨C', e', h'⟩ | ⟨e', h'⟩
  ·rw [e']; exact .inl ⟨C', rfl, h'⟩
  ·rw [e']; exact .inr ⟨rfl, h'⟩
 ·rw [e]; exact .inr ⟨rfl, h⟩
end Go.Dn

namespace Go.Dn
open Go
def vec (n : Nat) (E : Nat → Int) : List Int := (List.range n).map E
def tm (E : Nat → Int) : MF := fun i j => some (E j - E i)
section
variable {n : Nat} {E : Nat → Int}
end
variable {n : Nat}
theorem square_eq {C : MF} (hn : n ≤ 24) : ZA (Mat n C) (n : Int) = some true := by
 unfold ZA
 have key := Z0d (step := ZA.s0 (Mat n C) (n : Int)) (I := fun (i : Int) r => r = .go () ∧ ∃ k : Nat, i = k ∧ k ≤ n) (fun i => n - i.toNat) ?_ (s := 0) (r := .go ()) ⟨rfl, 0, rfl, Yh _⟩
 ·rw [key];simp only [Y1, Jx.elim, Z0V, beq_t]
 ·rintro i r ⟨rfl, k, rfl, hk⟩;unfold ZA.s0;rw [Z0V]
  by_cases hlt : k < n
  ·rw [Z0z (by omega), cond_true, Z1k hlt, Y1, Z2l, bne_f rfl, cond_false]
   exact .inl ⟨_, rfl, ⟨rfl, k + 1, by rw [Z02 (by omega)]; push_cast; rfl, hlt⟩, by rw [Z02 (by omega)]; omega⟩
  ·rw [Z0e (by omega), cond_false]; exact .inr rfl
def Early (n : Nat) (C : MF) (E : Nat → Int) (i k : Nat) : Prop := (∀ j, j < k → ole (some (E i)) (C j i)) ∧ (E i = 0 ∨ ∃ j, j < n ∧ C j i = some (E i))
theorem leM_trans {A B C : MF} (h1 : leM n A B) (h2 : leM n B C) : leM n A C := fun i j hi hj => Zs (h1 i j hi hj) (h2 i j hi hj)
noncomputable def sameTail (x1 : List (List Bound)) (x2 : List (List Bound) × Bool × Int) (t : List Int) : Option Bool :=
 (ZS x1 t).bind fun x8 =>
 (bif ((x2.2.2 != 0) || (!x2.2.1)) then
  some ((((x2.2.2 == 0) && (!x8)) && ((x2.1.length : Int) == 0)) && ZM)
 else
  (ZS x2.1 t).bind fun x10 =>
  (bif (x10 != x8) then
   some false
  else
   (ZA x2.1 (x1.length : Int)).bind fun x11 =>
   (bif (!x11) then
    some false
   else
    (new? 8 (x1.length : Int) 0).bind fun x12 =>
    (loopO (ZV.s1 x1 x2) (0, x12)).bind fun (y2 : (List Int)) =>
    (ZS x1 y2).bind fun x19 =>
    (
     (bif x19 then
      (ZS x2.1 y2).bind fun x20 =>
      some x20
     else
      some false)).bind fun (y6 : Bool) =>
    some (y6 && ZM))))
end Go.Dn

namespace Go.Dn
open Go
variable {n : Nat}
theorem go_loop {R : Type} {n : Nat} {step : Int → Option (Int ⊕ R)} {yes : R} (hs : ∀ k : Nat, k < n → step (k : Int) = some (.inl ((k : Int) + 1))) (he : step (n : Int) = some (.inr yes)) : loopO step 0 = some yes := by
 refine Z0d (I := fun (i : Int) r => r = yes ∧ ∃ k : Nat, i = k ∧ k ≤ n) (fun i => n - i.toNat) ?_ ⟨rfl, 0, rfl, Yh _⟩
 rintro i r ⟨rfl, k, rfl, hk⟩
 by_cases hlt : k < n
 ·exact .inl ⟨_, hs k hlt, ⟨rfl, k + 1, by push_cast; rfl, hlt⟩, by omega⟩
 ·have : k = n := by omega
  subst this;exact .inr he
theorem inv_bd2 {M C : MF} (hn : n ≤ 24) (h : InvC n 1000 M n C) : BdM n C 16777216000 := by
 have hp := pow_le24 (k := n) hn
 exact fun i j hi hj => Z2E (h.bd i j hi hj) (by omega)
theorem not_above {a b : Option Int} (h : ole a b) : ((bif (bd a).Inf == 1 then some ((bd b).Inf == 0) else some false) : Option Bool) = some false ∧ ((bd a).Inf == 0 && (bd b).Inf == 0 && decide ((bd a).N > (bd b).N)) = false := by
 cases a <;> cases b <;> simp [ole, bd] at * <;> omega
theorem low_s1 {C D : MF} {x2 x4 : List (List Bound) × Bool × Int} {i : Nat} (hn : n ≤ 24) (hx : x2.1 = Mat n C) (hx4 : x4.1 = Mat n D) (hi : i < n) (hle : leM n D C) :
  loopO (ZD.s1 x2 x4 (i : Int)) 0 = some (.go ()) := by
 refine go_loop (n := n) (fun j hj => ?_) ?_
 ·unfold ZD.s1;have hw : w64 ((j : Int) + 1) = (j : Int) + 1 := Z02 (by omega)
  have h := hle i j hi hj
  rw [hx, hx4, Z0V, Z0z (by omega), cond_true]
  simp only [Z1k hi, Z13 hj, Y1];rw [(not_above h).1, Y1, cond_false];have hb2 : ((bif (bd (D i j)).Inf == 0 then some ((bd (C i j)).Inf == 0) else some false) : Option Bool) = some ((bd (D i j)).Inf == 0 && (bd (C i j)).Inf == 0) := by
   cases (bd (D i j)).Inf == 0 <;> rfl
  have hb3 : ((bif ((bd (D i j)).Inf == 0 && (bd (C i j)).Inf == 0) then some (decide ((bd (D i j)).N > (bd (C i j)).N)) else some false) : Option Bool) = some false := by
   have := (not_above h).2
   cases hq : ((bd (D i j)).Inf == 0 && (bd (C i j)).Inf == 0) with
   | true => rw [hq, Bool.true_and] at this; rw [this]; rfl
   | false => rfl
  rw [hb2, Y1, hb3, Y1, Y1, cond_false, hw]
 ·unfold ZD.s1;rw [hx, Z0V, Z0e (by omega), cond_false]
theorem low_s0 {C D : MF} {x2 x4 : List (List Bound) × Bool × Int} (hn : n ≤ 24) (hx : x2.1 = Mat n C) (hx4 : x4.1 = Mat n D) (hle : leM n D C) :
  loopO (ZD.s0 x2 x4) 0 = some (.go ()) := by
 refine go_loop (n := n) (fun i hi => ?_) ?_
 ·unfold ZD.s0;have hw : w64 ((i : Int) + 1) = (i : Int) + 1 := Z02 (by omega)
  rw [hx, Z0V, Z0z (by omega), cond_true, low_s1 hn hx hx4 hi hle]
  simp only [Y1, Jx.elim, hw]
 ·unfold ZD.s0;rw [hx, Z0V, Z0e (by omega), cond_false]
theorem setM_le {M : MF} {i j : Nat} {v : Option Int} : leM n (setM M i j v) M := by
 intro a b _ _
 unfold setM updM
 split
 ·rename_i h; rw [h.1, h.2]; exact Z52 _ _
 ·exact Z09 _
def lowered (C : MF) (i j : Nat) (w : Int) : MF := fun a b => omin (oadd (C a i) (oadd (some w) (C j b))) (C a b)
theorem Z5R {M C : MF} {i j : Nat} {w : Int} (hi : i < n) (hj : j < n) (ht : TriM n n C) (hd : DiagM n C) (hle : leM n C M) (hz : ole (some (-w)) (C j i)) :
  TriM n n (lowered C i j w) ∧ DiagM n (lowered C i j w) ∧ leM n (lowered C i j w) (setM M i j (some w)) := by
 have hw : ∀ (x : Option Int), ole (oadd (some w) x) (oadd (oadd (some w) (C j i)) (oadd (some w) x)) := by
  intro x;cases hc : C j i with
  | none => cases x <;> trivial
  | some c =>
   rw [hc] at hz;cases x <;> simp [ole, oadd] at * <;> omega
 refine ⟨?_, ?_, ?_⟩
 ·intro m hm a b ha hb;have t1 : lowered C i j w a m = oadd (C a i) (oadd (some w) (C j m)) ∨ lowered C i j w a m = C a m := Z4F _ _
  have t2 : lowered C i j w m b = oadd (C m i) (oadd (some w) (C j b)) ∨ lowered C i j w m b = C m b := Z4F _ _
  rcases t1 with e1 | e1 <;> rcases t2 with e2 | e2 <;> rw [e1, e2]
  ·refine Zs (Z2q _ _) ?_;rw [Z0E];refine Z1M (Z09 _) (Zs (hw (C j b)) ?_);rw [Z0E, Z0E, ← Z0E (C j m)];exact Z1M (Z09 _) (Z1M (ht m hm j i hj hi) (Z09 _))
  ·refine Zs (Z2q _ _) ?_;rw [Z0E, Z0E];exact Z1M (Z09 _) (Z1M (Z09 _) (ht m hm j b hj hb))
  ·refine Zs (Z2q _ _) ?_;rw [← Z0E (C a m)];exact Z1M (ht m hm a i ha hi) (Z09 _)
  ·exact Zs (Z52 _ _) (ht m hm a b ha hb)
 ·intro a ha;unfold lowered;rw [omin_comm, hd a ha];refine Z4y ?_;have h := Zs hz (ht a ha j i hj hi)
  cases h1 : C a i with
  | none => trivial
  | some x =>
   cases h2 : C j a with
   | none => trivial
   | some y => rw [h1, h2] at h; simp only [oadd, ole] at h ⊢; omega
 ·intro a b ha hb;unfold setM updM
  split
  ·rename_i h;rw [h.1, h.2];refine ole_min ?_ (Zs (Z52 _ _) (hle i j hi hj));refine Zs (Z2q _ _) ?_;rw [hd i hi, hd j hj, oadd_zero, Z4t];exact Z09 _
  ·exact Zs (Z52 _ _) (hle a b ha hb)
theorem stpLower_true (m : Int) (l : List epactlaw24_Set) (x' : epactlaw24_Set) (hm : okI .u8 m) (hl : okL 32 epactlaw24_Set.ok l) (hx : epactlaw24_Set.ok x') : ZD m l x' = some true := by
 rw [okI_u8] at hm
 have hm2 : IntKind.u8.wrap (1 + m.tmod 23) = 1 + m % 23 := by
  rw [Y0L hm.1];have : ∀ a : Int, IntKind.u8.wrap a = a % 256 := fun a => by simp [IntKind.wrap, IntKind.bits, IntKind.signed]
  rw [this]; omega
 unfold ZD
 rw [hm2]
 obtain ⟨n, M, e, hn, h1, h2, hB⟩ := built_eq (m := 1 + m % 23) (by omega) l
 obtain ⟨i, hi, ei⟩ := Z4L (and255 x'.I).1 h1
 obtain ⟨j, hj, ej⟩ := Z4L (and255 x'.J).1 h1
 have hwb := tmod_bd x'.Most.N
 rw [e, Y1, Z0V, Z0e (by omega), cond_false, nz?_ok (by omega), Y1, Y1, ei, ej]
 generalize x'.Most.N.tmod 1001 = w at hwb ⊢
 by_cases hij : i = j
 ·rw [beq_t (by omega), cond_true]; rfl
 ·rw [beq_f (by omega), cond_false]
  have hset := Z5S (n := n) (M := M) (v := some w) h2 (fun a b ha hb => Z2E (hB a b ha hb) (by omega)) hi hj (Z2E (B := 1000) hwb (by omega))
  have hset' : Z1z (Mat n M) (i : Int) (j : Int) (Bound.mk 0 w) = some (Mat n (setM M i j (some w)), 0) := hset
  have hB4 : BdM n (setM M i j (some w)) 1000 := setM_bd hB hi hj hwb
  rw [hset']
  rcases close_eq (by omega) (by omega) h1 h2 hB with ⟨C, ec, h⟩ | ⟨ec, h⟩
  ·rw [ec];have hCb := inv_bd2 h2 h
   rcases close_eq (by omega) (by omega) h1 h2 hB4 with ⟨D, ed, g⟩ | ⟨ed, g⟩
   ·simp only [Y1, ed];have hDC : leM n D C := h.gr D g.tri g.diag (leM_trans g.le setM_le)
    have hDw : ole (D i j) (some w) := by
     refine Zs (g.le i j hi hj) ?_;unfold setM updM;rw [if_pos ⟨rfl, rfl⟩];exact Z2q _ _
    simp only [bne_f, Bool.not_true, Bool.and_false, Bool.or_self, cond_false, cond_true, square_eq h2, Y1];rw [low_s0 (C := C) (D := D) h2 rfl rfl hDC]
    simp only [Y1, Jx.elim, Z1k hi, Z13 hj];cases hc : D i j with
    | none => rw [hc] at hDw; exact hDw.elim
    | some c =>
     rw [hc] at hDw
     show (some (decide (c ≤ w))).bind _ = _
     rw [Z0z (show c ≤ w from hDw)]; rfl
   ·simp only [Y1, ed];simp only [bne_f, Bool.not_true, Bool.and_false, Bool.false_and, Bool.or_self, cond_false, cond_true, square_eq h2, Y1, Bool.not_false, Z1k hj, Z13 hi];cases hc : C j i with
    | none =>
     obtain ⟨q1, q2, q3⟩ := Z5R (w := w) hi hj h.tri h.diag h.le (by rw [hc]; trivial)
     exact absurd q3 (g _ q1 q2)
    | some c =>
     by_cases hlt : c + w < 0
     ·have hb := hCb j i hj hi
      rw [hc] at hb;simp only [inB] at hb
      show some ((true && decide (w64 (c + w) < 0)) && true) = some true
      rw [Z02 (by omega), Z0z hlt]; rfl
     ·obtain ⟨q1, q2, q3⟩ := Z5R (w := w) hi hj h.tri h.diag h.le (by rw [hc]; simp only [ole]; omega)
      exact absurd q3 (g _ q1 q2)
  ·rw [ec]
   rcases close_eq (by omega) (by omega) h1 h2 hB4 with ⟨D, ed, g⟩ | ⟨ed, g⟩
   ·exact absurd (leM_trans g.le setM_le) (h D g.tri g.diag)
   ·simp only [Y1, ed]
    rfl
end Go.Dn
