/- Part 4 of what the row stands on. -/
import Derived.Test.YtfknindefmcgdaaM3
set_option linter.unusedVariables false
set_option linter.unusedSimpArgs false
namespace Go.Dn
open Go Go.Proofs
set_option maxRecDepth 100000
set_option maxHeartbeats 4000000
theorem Z3x {f : Form} {m : Int} {r : Form × Int} (h : ZP f m = some r) : Fn CX 14 [(.agg (vs (Form.cs f))), (vi m)] (.tup [(.agg (vs (Form.cs r.1))), (vi r.2)]) := by
 refine Fn.ends Try.func14 V V V V V V ?_; have H : Hs (⟨0, fun _ => .none⟩ : Heap) [] := Has.nil (Nat.le_refl _)
 generalize (⟨0, fun _ => .none⟩ : Heap) = σ at H ⊢
 unfold ZP at h; refine .then (.Z0 3 V H fun b1 σ H => (.boxH (cs := (vF f)) H (by omega) (by omega) V V V fun σ H => (.Zy (cs := [(vi 0), (vi 0), .nils, .nils]) H (by omega) (by omega) V V fun σ H => (.av (vi 0) V V (.nila H fun H => (.then (.then (.Z0 3 V H fun b2 σ H => ?_)))))))); refine .mv (vi m) V V (.call (ys := [(vi m)]) (r := (vb (ZH m))) V (Z2E V) V (.not (b := (ZH m)) V V (.nila H fun H => ?_))); refine .whether (v := (!(ZH m))) V ?_ ?_ <;> intro hc1
 ·replace h := Z8 hc1 h; refine .then (.Z0 3 V H fun b3 σ H => (.Z0T (cs := [(vi 0), (vi 0), .nils, .nils]) V V (.ZQ (cells' := [(vi 0), (vi 0), .nils, .nils]) H 0 V V V V V V V V V nofun fun σ H => (.av (vi 2) V V (.nila H fun H => (.ret ?_)))))); obtain rfl := sj h; exact (Ends.H (xs := [(.agg [(vi 0), (vi 0), .nils, .nils]), (vi 2)]) (.inr V) H (.agg (cs := [(vi 0), (vi 0), .nils, .nils]) 0 V V V V V V V (.tmp (v := (vi 2)) V .nil)) (.two (.cons (.a (.cons (.v _) (.cons (.v _) (.cons .n (.cons .n .nil))))) (.cons (.c (.v _)) .nil))))
 ·replace h := Z7 hc1 h; refine .skip (.then (.Z0 7 V H fun b4 σ H => (.Z3 H 1 V V V V V nofun V (.ld (vi f.Period) H 1 V V V V V nofun V (.Z3 H 1 V V V V V nofun V (.ld (vi f.Count) H 1 V V V V V nofun V (.Z0T (cs := [(vi f.Period), (vi f.Count), .nils, .nils]) V V (.Zy (cs := [(vi 0), (vi 0), .nils, .nils]) H (by omega) (by omega) V V fun σ H => ?_)))))))); refine .ZQ (cells' := [(vi f.Period), (vi f.Count), .nils, .nils]) H 0 V V V V V V V V V nofun fun σ H => (.nila H fun H => (.then (.then (.Z0 3 V H fun b5 σ H => (.Z3 H 2 V V V V V nofun V (.ld (vi f.Count) H 2 V V V V V nofun V (.mv (vi 0) V V (.nila H fun H => ?_)))))))); refine .inBlock ?_; replace H := H.pushNil 37 1 true; obtain ⟨y1, hj1, h⟩ := bind_some h; obtain ⟨n1, hj1⟩ := Zb.1 hj1; refine .mono (Runs.ZM hj1 (fun s2 e σ => ∃ (w3 : PV), Z5 e [(1, (vi m)), (2, (.ptr (b1 + 0) 4 0)), (4, (.ptr (b1 + 1) 4 0)), (6, (.ptr (b4 + 5) 4 0)), (22, (vi f.Count)), (23, (vi s2.1))] ∧ Hs σ [.sl w3 37 1 (s2.2.map (cL Span.cs)) true, .blk (b4 + 5) 25 [(vi f.Period), (vi f.Count), w3, .nils], .blk (b1 + 1) 25 [(vi 0), (vi 0), .nils, .nils], .blk (b1 + 0) 25 (vF f)]) (fun y1 x e σ => (∃ a1, ∃ (w4 : PV), y1 = (.go a1) ∧ x = .exit 0 ∧ Z5 e [(1, (vi m)), (2, (.ptr (b1 + 0) 4 0)), (4, (.ptr (b1 + 1) 4 0)), (6, (.ptr (b4 + 5) 4 0))] ∧ Hs σ [.sl w4 37 1 (a1.map (cL Span.cs)) true, .blk (b4 + 5) 25 [(vi f.Period), (vi f.Count), w4, .nils], .blk (b1 + 1) 25 [(vi 0), (vi 0), .nils, .nils], .blk (b1 + 0) 25 (vF f)]) ∨ (∃ r', y1 = (.ret r') ∧ x = .ret ∧ Ends CX Try.f14.results.toList (.tup [(.agg (vs (Form.cs r'.1))), (vi r'.2)]) x e σ)) ⟨.nils, ⟨V, V, V, V, V, V, U⟩, H⟩ ?_) ?_
  ·intro s2 e σ hI z h; obtain ⟨w3, he, H⟩ := hI; obtain ⟨e, rfl⟩ := he.ex; unfold ZP.s0 at h; refine .then (.Z0 1 V H fun b6 σ H => (.it s2.1 f.Count (.bool (decide (s2.1 < f.Count))) V V V V V (.nila H fun H => (.then ?_)))); refine .whether (v := (decide (s2.1 < f.Count))) V ?_ ?_ <;> intro hc2
   ·replace h := Z8 hc2 h; refine .skip (.then (.inBlock (.then (.Z0 2 V H fun b7 σ H => (.mv (vi s2.1) V V (.av (vi s2.1) V V (.nila H fun H => (.then ?_)))))))); refine .Z0 10 V H fun b8 σ H => (.Zc (cs := (vF f)) H 3 V V V V V V V nofun V (.mv (vi s2.1) V V (.mv (vi m) V V (.it s2.1 m (.int .i64 (w64 (s2.1 - m))) V V V V V ?_)))); obtain ⟨x1, q1, h⟩ := bind_some h; refine .call (ys := [(.agg (vF f)), (vi (w64 (s2.1 - m)))]) (r := (.tup [(vl Span.cs x1.1), (vi x1.2)])) V (Z6s q1) V (.mv (.tup [(vl Span.cs x1.1), (vi x1.2)]) V V (.xt (vl Span.cs x1.1) V V V (.xt (vi x1.2) V V V (.av (vl Span.cs x1.1) V V (.av (vi x1.2) V V (.nila H fun H => (.then (.then ?_)))))))); refine .Z0 2 V H fun b9 σ H => (.mv (vi x1.2) V V (.it x1.2 0 (.bool (x1.2 != 0)) V V V V V (.nila H fun H => ?_))); refine .whether (v := (x1.2 != 0)) V ?_ ?_ <;> intro hc3
    ·replace h := Z8 hc3 h; refine .then (.Z0 4 V H fun b10 σ H => (.Z0T (cs := [(vi 0), (vi 0), .nils, .nils]) V V (.mv (vi x1.2) V V (.ZQ (cells' := [(vi 0), (vi 0), .nils, .nils]) H 2 V V V V V V V V V nofun fun σ H => (.av (vi x1.2) V V (.nila H fun H => (.ret ?_))))))); obtain rfl := sj h; exact ⟨nofun, (.inr ⟨_, V, V, (Ends.H (xs := [(.agg [(vi 0), (vi 0), .nils, .nils]), (vi x1.2)]) (.inr V) H (.agg (cs := [(vi 0), (vi 0), .nils, .nils]) 2 V V V V V V V (.tmp (v := (vi x1.2)) V .nil)) (.two (.cons (.a (.cons (.v _) (.cons (.v _) (.cons .n (.cons .n .nil))))) (.cons (.c (.v _)) .nil))))⟩)⟩
    ·replace h := Z7 hc3 h; refine .skip (.Z0 7 V H fun b11 σ H => (.Z3 H 1 V V V V V nofun V (.ld w3 H 1 V V V V V nofun V (.mv (vl Span.cs x1.1) V V (.Z2j (sz := 1) ([x1.1].map (cL Span.cs)) H (by omega) (by omega) V V V V V V V V V fun σ H => ?_))))); obtain ⟨x2, q2, h⟩ := bind_some h; refine .Z2O (c := (cL Span.cs)) (v := w3) (w := (.buf (b11 + 3) 1 1)) (xs := s2.2) (ys := [x1.1]) H (by omega) (by omega) 1 V V V (.s 0 V) q2 V V V V V nofun V fun w5 σ H => (.Z3 H 2 V V V V V nofun V (.ZQ (v := w5) (ys := [w5]) (cells' := [(vi f.Period), (vi f.Count), w5, .nils]) H 2 V V V V (H.slCells (k := 1) V) V V V V nofun fun σ H => (.nila H fun H => (.Z0 2 V H fun b12 σ H => (.it s2.1 1 (.int .i64 (w64 (s2.1 + 1))) V V V V V (.mv (vi (w64 (s2.1 + 1))) V V (.nila H fun H => ?_))))))); obtain rfl := sj h; exact ⟨V, w5, ⟨V, V, V, V, V, V, U⟩, (H.erase 0)⟩
   ·replace h := Z7 hc2 h; refine .exit ?_; obtain rfl := sj h; exact ⟨nofun, (.inl ⟨_, w3, V, V, ⟨V, V, V, V, U⟩, H⟩)⟩
  ·rintro x e σ (⟨a2, w6, rfl, rfl, he, H⟩ | ⟨r', rfl, rfl, hE⟩)
   ·skip
    replace h := jgo h; obtain ⟨e, rfl⟩ := he.ex; refine .then (.then (.Z0 4 V H fun b13 σ H => (.Z3 H 3 V V V V V nofun V (.ld (vl Granule.cs f.Odd) H 3 V V V V V nofun V (.Z0A (c := Granule.cs) (xs := f.Odd) V V V (.mv (vi 0) V V (.nila H fun H => (.inBlock ?_)))))))); replace H := H.pushNil 61 2 true; obtain ⟨y2, hj2, h⟩ := bind_some h; obtain ⟨n2, hj2⟩ := Zb.1 hj2; refine .mono (Runs.ZM hj2 (fun s4 e σ => ∃ (w9 : PV), Z5 e [(1, (vi m)), (4, (.ptr (b1 + 1) 4 0)), (6, (.ptr (b4 + 5) 4 0)), (46, (vl Granule.cs f.Odd)), (47, (vi (f.Odd.length : Int))), (48, (vi s4.1))] ∧ Hs σ [.sl w9 61 2 (s4.2.map Granule.cs) true, .sl w6 37 1 (a2.map (cL Span.cs)) true, .blk (b4 + 5) 25 [(vi f.Period), (vi f.Count), w6, w9], .blk (b1 + 1) 25 [(vi 0), (vi 0), .nils, .nils]]) (fun y2 x e σ => (∃ a3, ∃ (w10 : PV), y2 = (.go a3) ∧ x = .exit 2 ∧ Z5 e [(4, (.ptr (b1 + 1) 4 0)), (6, (.ptr (b4 + 5) 4 0))] ∧ Hs σ [.sl w10 61 2 (a3.map Granule.cs) true, .sl w6 37 1 (a2.map (cL Span.cs)) true, .blk (b4 + 5) 25 [(vi f.Period), (vi f.Count), w6, w10], .blk (b1 + 1) 25 [(vi 0), (vi 0), .nils, .nils]]) ∨ (∃ r', y2 = (.ret r') ∧ x = .ret ∧ Ends CX Try.f14.results.toList (.tup [(.agg (vs (Form.cs r'.1))), (vi r'.2)]) x e σ)) ⟨.nils, ⟨V, V, V, V, V, V, U⟩, (H.erase 4)⟩ ?_) ?_
    ·intro s4 e σ hI z h; obtain ⟨w9, he, H⟩ := hI; obtain ⟨e, rfl⟩ := he.ex; unfold ZP.s1 at h; refine .then (.Z0 1 V H fun b14 σ H => (.it s4.1 (f.Odd.length : Int) (.bool (decide (s4.1 < (f.Odd.length : Int)))) V V V V V (.nila H fun H => (.then ?_)))); refine .whether (v := (decide (s4.1 < (f.Odd.length : Int)))) V ?_ ?_ <;> intro hc4
     ·replace h := Z8 hc4 h; refine .skip (.then (.inBlock (.then (.Z0 4 V H fun b15 σ H => ?_)))); obtain ⟨x3, q3, h⟩ := bind_some h; refine .Zz (c := Granule.cs) (u := x3) V V q3 V V V V (.Z2I (cs := [(.int .i64 x3.Index), (.sl (x3.Ticks.map Span.cs))]) V V V V V V (.Zy (cs := [(vi 0), .nils]) H (by omega) (by omega) V V fun σ H => (.ZQ (cells' := [(vi x3.Index), (vl Span.cs x3.Ticks)]) H 0 V V V V V V V V V nofun fun σ H => (.nila H fun H => (.then (.then (.Z0 6 V H fun b16 σ H => (.Z3 H 0 V V V V V nofun V ?_)))))))); refine .ld (vi x3.Index) H 0 V V V V V nofun V (.mv (vi m) V V (.it x3.Index m (.int .i64 (w64 (x3.Index + m))) V V V V V (.call (ys := [(vi (w64 (x3.Index + m)))]) (r := (vb (ZH (w64 (x3.Index + m))))) V (Z2E V) V (.not (b := (ZH (w64 (x3.Index + m)))) V V (.nila H fun H => ?_))))); refine .whether (v := (!(ZH (w64 (x3.Index + m))))) V ?_ ?_ <;> intro hc5
      ·replace h := Z8 hc5 h; refine .then (.Z0 3 V H fun b17 σ H => (.Z0T (cs := [(vi 0), (vi 0), .nils, .nils]) V V (.ZQ (cells' := [(vi 0), (vi 0), .nils, .nils]) H 4 V V V V V V V V V nofun fun σ H => (.av (vi 20) V V (.nila H fun H => (.ret ?_)))))); obtain rfl := sj h; exact ⟨nofun, (.inr ⟨_, V, V, (Ends.H (xs := [(.agg [(vi 0), (vi 0), .nils, .nils]), (vi 20)]) (.inr V) H (.agg (cs := [(vi 0), (vi 0), .nils, .nils]) 4 V V V V V V V (.tmp (v := (vi 20)) V .nil)) (.two (.cons (.a (.cons (.v _) (.cons (.v _) (.cons .n (.cons .n .nil))))) (.cons (.c (.v _)) .nil))))⟩)⟩
      ·replace h := Z7 hc5 h; refine .skip (.Z2N 14 V (by kernel_rfl) H fun b18 σ H B18 => (.Z3 H 3 V V V V V (fun _ => .inl ⟨B18 3 _ V _ V, nofun, (fun _ => by kernel_rfl)⟩) V (.loadHR (v := w9) H 3 V V V V V (fun _ => ⟨B18 3 _ V _ V, _, V, mem_one⟩) V (.Z3 H 0 V V V V V (fun _ => .inl ⟨B18 0 _ V _ V, nofun, (fun _ => by kernel_rfl)⟩) V (.loadHR (v := (vi x3.Index)) H 0 V V V V V (fun _ => ⟨B18 0 _ V _ V, _, V, mem_one⟩) V (.mv (vi m) V V (.it x3.Index m (.int .i64 (w64 (x3.Index + m))) V V V V V (.Z3 H 0 V V V V V (fun _ => .inl ⟨B18 0 _ V _ V, nofun, (fun _ => by kernel_rfl)⟩) V ?_)))))))); refine .ld (vl Span.cs x3.Ticks) H 0 V V V V V (fun _ => .inl ⟨B18 0 _ V _ V, nofun, (fun _ => by kernel_rfl)⟩) V ?_; replace H := H.pushNil 59 2 true; obtain ⟨x4, q4, h⟩ := bind_some h; refine .appendNt (c := Span.cs) (w := (vl Span.cs x3.Ticks)) (ys := x3.Ticks) H (by omega) (by omega) 0 V V V (.m (fun _ => V)) q4 V V V V V (fun _ id ho => nomatch ho) V fun w11 σ hw1 H => ?_; refine .Z0T (cs := [(vi (w64 (x3.Index + m))), w11]) (by rcases hw1 with rfl | ⟨_, rfl⟩ <;> rfl) rfl (.Z8C (sz := 2) ([(Granule.mk (w64 (x3.Index + m)) x4)].map Granule.cs) H (by omega) (by omega) rfl rfl (.exp (.a (.cons (.v _) (.cons (.s 0 rfl) .nil))) .nil) rfl rfl rfl rfl rfl rfl rfl (fun _ => frz_one (j := 8) hw1 rfl (by kernel_rfl)) fun σ H => ?_); obtain ⟨x5, q5, h⟩ := bind_some h; refine .Z2O (c := Granule.cs) (v := w9) (w := (.buf (b18 + 10) 1 2)) (xs := s4.2) (ys := [(Granule.mk (w64 (x3.Index + m)) x4)]) H (by omega) (by omega) 3 V V V (.s 0 V) q5 V V V V V (fun h => ⟨(fun id ho => .inl ⟨B18 1 _ V id ho, (fun _ => by kernel_rfl), nofun⟩), (fun id ho => .inr ⟨10, (by cases ho; rfl), (fun h => nomatch h), by kernel_rfl, by decide⟩)⟩) V fun w12 σ H => (.Z3 H 5 V V V V V (fun _ => .inl ⟨B18 3 _ V _ V, nofun, (fun _ => by kernel_rfl)⟩) V (.ZQ (v := w12) (ys := [w12]) (cells' := [(vi f.Period), (vi f.Count), w6, w12]) H 5 V V V V (H.slCells (k := 3) V) V V V V (fun _ => .inl ⟨B18 3 _ V _ V, (Z5O (by kernel_rfl))⟩) fun σ H => (.nila H fun H => (.Z0 2 V H fun b19 σ H => (.it s4.1 1 (.int .i64 (w64 (s4.1 + 1))) V V V V V (.mv (vi (w64 (s4.1 + 1))) V V (.nila H fun H => ?_)))))))
       obtain rfl := sj h; exact ⟨V, w12, ⟨V, V, V, V, V, V, U⟩, (((H.erase 2).erase 1).erase 0)⟩
     ·replace h := Z7 hc4 h; refine .exit ?_; obtain rfl := sj h; exact ⟨nofun, (.inl ⟨_, w9, V, V, ⟨V, V, U⟩, H⟩)⟩
    ·rintro x e σ (⟨a4, w13, rfl, rfl, he, H⟩ | ⟨r', rfl, rfl, hE⟩)
     ·skip
      replace h := jgo h; obtain ⟨e, rfl⟩ := he.ex; refine .then (.Z0 6 V H fun b20 σ H => (.Zc (cs := [(vi f.Period), (vi f.Count), w6, w13]) H 2 V V V V V V V nofun V ?_)); obtain ⟨x6, q6, h⟩ := bind_some h; refine .Z6y (xs := [(.agg [(vi f.Period), (vi f.Count), w6, w13])]) (ys := [(.agg (vs (Form.cs (Form.mk f.Period f.Count a2 a4))))]) H V (.cons (.a (.cons (.v _) (.cons (.v _) (.cons (.s 1 V) (.cons (.s 0 V) .nil))))) .nil) (Z4V q6) V V nofun V fun σ H => (.xt (.agg (vF x6.1)) V V V (.xt (vi x6.2) V V V (.ZQ (cells' := (vF x6.1)) H 3 V V V V V V V V V nofun fun σ H => (.av (vi x6.2) V V (.nila H fun H => (.ret ?_)))))); obtain rfl := sj h; exact (Ends.H (xs := [(.agg (vF x6.1)), (vi x6.2)]) (.inr V) H (.agg (cs := (vF x6.1)) 3 V V V V V V V (.tmp (v := (vi x6.2)) V .nil)) (.two (.cons (.p V) (.cons (.c (.v _)) .nil))))
     ·skip
      replace h := jret h; obtain rfl := sj h; exact hE
   ·skip
    replace h := jret h; obtain rfl := sj h; exact hE
theorem Z5k {f : Form} {i : Int} {r : Bool × (List Span) × Int} (h : Z2a f i = some r) : Fn CX 59 [(.agg (vs (Form.cs f))), (vi i)] (.tup [(vb r.1), (vl Span.cs r.2.1), (vi r.2.2)]) := by
 refine Fn.ends Try.func59 V V V V V V ?_; have H : Hs (⟨0, fun _ => .none⟩ : Heap) [] := Has.nil (Nat.le_refl _)
 generalize (⟨0, fun _ => .none⟩ : Heap) = σ at H ⊢
 unfold Z2a at h; refine .then (.Z0 4 V H fun b1 σ H => (.boxH (cs := (vF f)) H (by omega) (by omega) V V V fun σ H => (.av (vb false) V V (.av .nils V V (.av (vi 0) V V (.nila H fun H => (.then (.Z0 8 V H fun b2 σ H => ?_)))))))); refine .Zc (cs := (vF f)) H 0 V V V V V V V nofun V (.mv (vi i) V V ?_); obtain ⟨x1, q1, h⟩ := bind_some h; refine .call (ys := [(.agg (vF f)), (vi i)]) (r := (.tup [(vl Span.cs x1.1), (vi x1.2)])) V (Z2J q1) V (.mv (.tup [(vl Span.cs x1.1), (vi x1.2)]) V V (.xt (vl Span.cs x1.1) V V V (.xt (vi x1.2) V V V (.av (vl Span.cs x1.1) V V (.av (vi x1.2) V V (.nila H fun H => (.then (.Z0 12 V H fun b3 σ H => ?_)))))))); refine .mv (vl Span.cs x1.1) V V (.Z0A (c := Span.cs) (xs := x1.1) V V V (.it (x1.1.length : Int) 0 (.bool (decide ((x1.1.length : Int) > 0))) V V V V V (.mv (vb (decide ((x1.1.length : Int) > 0))) V V ?_))); refine .mid 3 (K1 := fun e σ => Z5 e [(21, (vb ((decide ((x1.1.length : Int) > 0)) || (x1.2 != 0)))), (7, (vl Span.cs x1.1)), (8, (vi x1.2))] ∧ Has σ (b3 + 7) (b3 + 12) []) rfl ?_ ?_
 ·refine .split V V ?_ ?_ <;> intro hc1
  ·skip
   refine .pass V V V (.pass V V V (.Zg (v := (vb true)) V V V (.nil ?_))); exact ⟨⟨or_T hc1, V, V, U⟩, (H.erase 0).wk (by omega)⟩
  ·skip
   refine .wt V V (.mv (vi x1.2) V V (.wt V V (.it x1.2 0 (.bool (x1.2 != 0)) V V V V V (.Zj (v := (vb (x1.2 != 0))) V V V (.nil ?_))))); exact ⟨⟨or_F hc1, V, V, U⟩, (H.erase 0).wk (by omega)⟩
 ·rintro e σ ⟨he, H⟩; obtain ⟨e, rfl⟩ := he.ex; refine .mv (vl Span.cs x1.1) rfl rfl (.mv (vi x1.2) rfl rfl (.av (vb ((decide ((x1.1.length : Int) > 0)) || (x1.2 != 0))) rfl rfl (.av (vl Span.cs x1.1) rfl rfl (.av (vi x1.2) rfl rfl (.nila H fun H => (.ret ?_)))))); obtain rfl := sj h; exact (Ends.H (xs := [(vb ((decide ((x1.1.length : Int) > 0)) || (x1.2 != 0))), (vl Span.cs x1.1), (vi x1.2)]) (.inr rfl) H (.tmp (v := (vb ((decide ((x1.1.length : Int) > 0)) || (x1.2 != 0)))) rfl (.tmp (v := (vl Span.cs x1.1)) rfl (.tmp (v := (vi x1.2)) rfl .nil))) (.two (.cons (.c (.v _)) (.cons (.c (.v _)) (.cons (.c (.v _)) .nil)))))
theorem Z5F {f : Form} {m : Int} {n : Int} {r : Form × Int} (h : Z02 f m n = some r) : Fn CX 28 [(.agg (vs (Form.cs f))), (vi m), (vi n)] (.tup [(.agg (vs (Form.cs r.1))), (vi r.2)]) := by
 refine Fn.ends Try.func28 V V V V V V ?_; have H : Hs (⟨0, fun _ => .none⟩ : Heap) [] := Has.nil (Nat.le_refl _)
 generalize (⟨0, fun _ => .none⟩ : Heap) = σ at H ⊢
 unfold Z02 at h; refine .then (.Z0 3 V H fun b1 σ H => (.boxH (cs := (vF f)) H (by omega) (by omega) V V V fun σ H => (.Zy (cs := [(vi 0), (vi 0), .nils, .nils]) H (by omega) (by omega) V V fun σ H => (.av (vi 0) V V (.nila H fun H => (.then (.then (.Z0 13 V H fun b2 σ H => ?_)))))))); refine .mv (vi m) V V (.call (ys := [(vi m)]) (r := (vb (ZH m))) V (Z2E V) V (.not (b := (ZH m)) V V (.mv (vb (!(ZH m))) V V ?_))); refine .mid 4 (K1 := fun e σ => Z5 e [(27, (vb ((!(ZH m)) || (!(ZH n))))), (1, (vi m)), (2, (vi n)), (3, (.ptr (b1 + 0) 4 0)), (6, (.ptr (b1 + 1) 4 0))] ∧ Has σ (b2 + 8) (b2 + 13) [.blk (b1 + 1) 25 [(vi 0), (vi 0), .nils, .nils], .blk (b1 + 0) 25 (vF f)]) rfl ?_ ?_
 ·refine .split V V ?_ ?_ <;> intro hc1
  ·skip
   refine .pass V V V (.pass V V V (.pass V V V (.Zg (v := (vb true)) V V V (.nil ?_)))); exact ⟨⟨or_T hc1, V, V, V, V, U⟩, H.wk (by omega)⟩
  ·skip
   refine .wt V V (.mv (vi n) V V (.wt V V (.call (ys := [(vi n)]) (r := (vb (ZH n))) V (Z2E V) V (.wt V V (.not (b := (ZH n)) V V (.Zj (v := (vb (!(ZH n)))) V V V (.nil ?_))))))); exact ⟨⟨or_F hc1, V, V, V, V, U⟩, H.wk (by omega)⟩
 ·rintro e σ ⟨he, H⟩; obtain ⟨e, rfl⟩ := he.ex; refine .mv (vb ((!(ZH m)) || (!(ZH n)))) rfl rfl ?_; refine .mid 4 (K1 := fun e σ => Z5 e [(32, (vb (((!(ZH m)) || (!(ZH n))) || (decide (m > n))))), (1, (vi m)), (2, (vi n)), (3, (.ptr (b1 + 0) 4 0)), (6, (.ptr (b1 + 1) 4 0))] ∧ Has σ (b2 + 13) (b2 + 13) [.blk (b1 + 1) 25 [(vi 0), (vi 0), .nils, .nils], .blk (b1 + 0) 25 (vF f)]) rfl ?_ ?_
  ·refine .split V V ?_ ?_ <;> intro hc2
   ·skip
    refine .pass V V V (.pass V V V (.pass V V V (.Zg (v := (vb true)) V V V (.nil ?_)))); exact ⟨⟨or_T hc2, V, V, V, V, U⟩, H.wk (by omega)⟩
   ·skip
    refine .wt V V (.mv (vi m) V V (.wt V V (.mv (vi n) V V (.wt V V (.it m n (.bool (decide (m > n))) V V V V V (.Zj (v := (vb (decide (m > n)))) V V V (.nil ?_))))))); exact ⟨⟨or_F hc2, V, V, V, V, U⟩, H.wk (by omega)⟩
  ·rintro e σ ⟨he, H⟩; obtain ⟨e, rfl⟩ := he.ex; refine .nila H fun H => ?_; refine .whether (v := (((!(ZH m)) || (!(ZH n))) || (decide (m > n)))) rfl ?_ ?_ <;> intro hc3
   ·replace h := Z8 hc3 h; refine .then (.Z0 3 V H fun b3 σ H => (.Z0T (cs := [(vi 0), (vi 0), .nils, .nils]) V V (.ZQ (cells' := [(vi 0), (vi 0), .nils, .nils]) H 0 V V V V V V V V V nofun fun σ H => (.av (vi 2) V V (.nila H fun H => (.ret ?_)))))); obtain rfl := sj h; exact (Ends.H (xs := [(.agg [(vi 0), (vi 0), .nils, .nils]), (vi 2)]) (.inr V) H (.agg (cs := [(vi 0), (vi 0), .nils, .nils]) 0 V V V V V V V (.tmp (v := (vi 2)) V .nil)) (.two (.cons (.a (.cons (.v _) (.cons (.v _) (.cons .n (.cons .n .nil))))) (.cons (.c (.v _)) .nil))))
   ·replace h := Z7 hc3 h; refine .skip (.then (.Z0 1 V H fun b4 σ H => (.av .nils V V (.nila H fun H => (.then (.Z0 3 V H fun b5 σ H => (.mv (vi m) V V (.av (vi m) V V ?_)))))))); refine .av (vb true) V V (.nila H fun H => (.then ?_)); obtain ⟨y1, hj1, h⟩ := bind_some h; refine .mono (Q := fun x e σ => x = .normal ∧ Z5 e [(2, (vi n)), (3, (.ptr (b1 + 0) 4 0)), (6, (.ptr (b1 + 1) 4 0)), (8, .nils), (9, (vi y1.1)), (10, (vb y1.2))] ∧ Hs σ [.blk (b1 + 1) 25 [(vi 0), (vi 0), .nils, .nils], .blk (b1 + 0) 25 (vF f)]) ?_ ?_
    ·replace h := hj1; refine .then (.Z0 10 V H fun b6 σ H => (.Zc (cs := (vF f)) H 1 V V V V V V V nofun V (.mv (vi m) V V ?_))); obtain ⟨x1, q1, h⟩ := bind_some h; refine .call (ys := [(.agg (vF f)), (vi m)]) (r := (.tup [(vb x1.1), (vl Span.cs x1.2.1), (vi x1.2.2)])) V (Z5k q1) V (.mv (.tup [(vb x1.1), (vl Span.cs x1.2.1), (vi x1.2.2)]) V V (.xt (vb x1.1) V V V (.xt (vl Span.cs x1.2.1) V V V (.xt (vi x1.2.2) V V V (.av (vb x1.1) V V (.av (vl Span.cs x1.2.1) V V (.av (vi x1.2.2) V V (.nila H fun H => ?_)))))))); refine .then (.Z0 2 V H fun b7 σ H => (.mv (vb x1.1) V V (.not (b := x1.1) V V (.nila H fun H => ?_)))); refine .whether (v := (!x1.1)) V ?_ ?_ <;> intro hc4
     ·replace h := Z8 hc4 h; refine .Z0 8 V H fun b8 σ H => (.Zc (cs := (vF f)) H 1 V V V V V V V nofun V (.mv (vi m) V V ?_)); obtain ⟨x2, q2, h⟩ := bind_some h; refine .call (ys := [(.agg (vF f)), (vi m)]) (r := (.tup [(vi x2.1), (vb x2.2)])) V (Z4J q2) V (.mv (.tup [(vi x2.1), (vb x2.2)]) V V (.xt (vi x2.1) V V V (.xt (vb x2.2) V V V (.av (vi x2.1) V V (.av (vb x2.2) V V (.nila H fun H => ?_)))))); obtain rfl := sj h; exact ⟨V, ⟨V, V, V, V, V, V, U⟩, H⟩
     ·replace h := Z7 hc4 h; refine .skip ?_; obtain rfl := sj h; exact ⟨V, ⟨V, V, V, V, V, V, U⟩, H⟩
    ·rintro x e σ ⟨rfl, he, H⟩; obtain ⟨e, rfl⟩ := he.ex; refine .then (.inBlock ?_); replace H := H.pushNil 3 1 true; obtain ⟨y2, hj2, h⟩ := bind_some h; obtain ⟨n1, hj2⟩ := Zb.1 hj2; refine .mono (Runs.ZM hj2 (fun s2 e σ => ∃ (w3 : PV), Z5 e [(2, (vi n)), (3, (.ptr (b1 + 0) 4 0)), (6, (.ptr (b1 + 1) 4 0)), (8, w3), (9, (vi s2.1)), (10, (vb s2.2.1))] ∧ Hs σ [.sl w3 3 1 (s2.2.2.map (cI .i64)) true, .blk (b1 + 1) 25 [(vi 0), (vi 0), .nils, .nils], .blk (b1 + 0) 25 (vF f)]) (fun y2 x e σ => (∃ a1, ∃ (w4 : PV), y2 = (.go a1) ∧ x = .exit 0 ∧ Z5 e [(3, (.ptr (b1 + 0) 4 0)), (6, (.ptr (b1 + 1) 4 0)), (8, w4)] ∧ Hs σ [.sl w4 3 1 (a1.map (cI .i64)) true, .blk (b1 + 1) 25 [(vi 0), (vi 0), .nils, .nils], .blk (b1 + 0) 25 (vF f)]) ∨ (∃ r', y2 = (.ret r') ∧ x = .ret ∧ Ends CX Try.f28.results.toList (.tup [(.agg (vs (Form.cs r'.1))), (vi r'.2)]) x e σ)) ⟨.nils, ⟨V, V, V, V, V, V, U⟩, H⟩ ?_) ?_
     ·intro s2 e σ hI z h; obtain ⟨w3, he, H⟩ := hI; obtain ⟨e, rfl⟩ := he.ex; unfold Z02.s0 at h; refine .then (.then (.Z0 6 V H fun b9 σ H => (.mv (vb s2.2.1) V V (.mv (vb s2.2.1) V V ?_)))); refine .mid 4 (K1 := fun e σ => Z5 e [(55, (vb (s2.2.1 && (decide (s2.1 ≤ n))))), (2, (vi n)), (3, (.ptr (b1 + 0) 4 0)), (6, (.ptr (b1 + 1) 4 0)), (8, w3), (9, (vi s2.1))] ∧ Has σ (b9 + 6) (b9 + 6) [.sl w3 3 1 (s2.2.2.map (cI .i64)) true, .blk (b1 + 1) 25 [(vi 0), (vi 0), .nils, .nils], .blk (b1 + 0) 25 (vF f)]) V ?_ ?_
      ·refine .split V V ?_ ?_ <;> intro hc5
       ·skip
        refine .wt V V (.mv (vi s2.1) V V (.wt V V (.mv (vi n) V V (.wt V V (.it s2.1 n (.bool (decide (s2.1 ≤ n))) V V V V V (.Zg (v := (vb (decide (s2.1 ≤ n)))) V V V (.nil ?_))))))); exact ⟨⟨Z1U hc5, V, V, V, V, V, U⟩, H.wk (by omega)⟩
       ·skip
        refine .pass V V V (.pass V V V (.pass V V V (.Zj (v := (vb false)) V V V (.nil ?_)))); exact ⟨⟨Z1Q hc5, V, V, V, V, V, U⟩, H.wk (by omega)⟩
      ·rintro e σ ⟨he, H⟩; obtain ⟨e, rfl⟩ := he.ex; refine .nila H fun H => ?_; refine .whether (v := (s2.2.1 && (decide (s2.1 ≤ n)))) V ?_ ?_ <;> intro hc6
       ·replace h := Z8 hc6 h; refine .skip (.then (.inBlock (.then (.Z0 5 V H fun b10 σ H => (.mv w3 V V (.mv (vi s2.1) V V (.Z2j (sz := 1) ([s2.1].map (cI .i64)) H (by omega) (by omega) V V V V V V V V V fun σ H => ?_))))))); obtain ⟨x3, q3, h⟩ := bind_some h; refine .Z2O (c := (cI .i64)) (v := w3) (w := (.buf (b10 + 2) 1 1)) (xs := s2.2.2) (ys := [s2.1]) H (by omega) (by omega) 1 V V V (.s 0 V) q3 V V V V V nofun V fun w5 σ H => (.av w5 V V (.nila H fun H => (.then (.Z0 3 V H fun b11 σ H => (.mv w5 V V (.lenSt (c := (cI .i64)) (xs := x3) H 1 V V V nofun V (.it (x3.length : Int) 6000 (.bool (decide ((x3.length : Int) > 6000))) V V V V V (.nila H fun H => ?_)))))))); refine .whether (v := (decide ((x3.length : Int) > 6000))) V ?_ ?_ <;> intro hc7
        ·replace h := Z8 hc7 h; refine .then (.Z0 3 V H fun b12 σ H => (.Z0T (cs := [(vi 0), (vi 0), .nils, .nils]) V V (.ZQ (cells' := [(vi 0), (vi 0), .nils, .nils]) H 2 V V V V V V V V V nofun fun σ H => (.av (vi 3) V V (.nila H fun H => (.ret ?_)))))); obtain rfl := sj h; exact ⟨nofun, (.inr ⟨_, V, V, (Ends.H (xs := [(.agg [(vi 0), (vi 0), .nils, .nils]), (vi 3)]) (.inr V) H (.agg (cs := [(vi 0), (vi 0), .nils, .nils]) 2 V V V V V V V (.tmp (v := (vi 3)) V .nil)) (.two (.cons (.a (.cons (.v _) (.cons (.v _) (.cons .n (.cons .n .nil))))) (.cons (.c (.v _)) .nil))))⟩)⟩
        ·replace h := Z7 hc7 h; refine .skip (.Z0 8 V H fun b13 σ H => (.Zc (cs := (vF f)) H 3 V V V V V V V nofun V (.mv (vi s2.1) V V ?_))); obtain ⟨x4, q4, h⟩ := bind_some h; refine .call (ys := [(.agg (vF f)), (vi s2.1)]) (r := (.tup [(vi x4.1), (vb x4.2)])) V (Z4J q4) V (.mv (.tup [(vi x4.1), (vb x4.2)]) V V (.xt (vi x4.1) V V V (.xt (vb x4.2) V V V (.av (vi x4.1) V V (.av (vb x4.2) V V (.nila H fun H => ?_)))))); obtain rfl := sj h; exact ⟨V, w5, ⟨V, V, V, V, V, V, U⟩, (H.erase 0)⟩
       ·replace h := Z7 hc6 h; refine .exit ?_; obtain rfl := sj h; exact ⟨nofun, (.inl ⟨_, w3, V, V, ⟨V, V, V, U⟩, H⟩)⟩
     ·rintro x e σ (⟨a2, w6, rfl, rfl, he, H⟩ | ⟨r', rfl, rfl, hE⟩)
      ·skip
       replace h := jgo h; obtain ⟨e, rfl⟩ := he.ex; refine .then (.Z0 1 V H fun b14 σ H => (.Zy (cs := [(vi 0), (vi 0), .nils, .nils]) H (by omega) (by omega) V V fun σ H => (.nila H fun H => (.then (.then (.Z0 3 V H fun b15 σ H => (.mv w6 V V (.lenSt (c := (cI .i64)) (xs := a2) H 1 V V V nofun V ?_)))))))); refine .mv (vi 0) V V (.nila H fun H => (.inBlock ?_)); replace H := H.pushNil 61 2 true; obtain ⟨y3, hj3, h⟩ := bind_some h; obtain ⟨n2, hj3⟩ := Zb.1 hj3; refine .mono (Runs.ZM hj3 (fun s4 e σ => ∃ (w9 : PV), Z5 e [(3, (.ptr (b1 + 0) 4 0)), (6, (.ptr (b1 + 1) 4 0)), (14, (.ptr (b14 + 0) 4 0)), (70, w6), (71, (vi (a2.length : Int))), (72, (vi s4.1))] ∧ Hs σ [.sl w9 61 2 (s4.2.map Granule.cs) true, .blk (b14 + 0) 25 [(vi 0), (vi 0), .nils, w9], .sl w6 3 1 (a2.map (cI .i64)) true, .blk (b1 + 1) 25 [(vi 0), (vi 0), .nils, .nils], .blk (b1 + 0) 25 (vF f)]) (fun y3 x e σ => (∃ a3, ∃ (w10 : PV), y3 = (.go a3) ∧ x = .exit 2 ∧ Z5 e [(6, (.ptr (b1 + 1) 4 0)), (14, (.ptr (b14 + 0) 4 0))] ∧ Hs σ [.sl w10 61 2 (a3.map Granule.cs) true, .blk (b14 + 0) 25 [(vi 0), (vi 0), .nils, w10], .blk (b1 + 1) 25 [(vi 0), (vi 0), .nils, .nils]]) ∨ (∃ r', y3 = (.ret r') ∧ x = .ret ∧ Ends CX Try.f28.results.toList (.tup [(.agg (vs (Form.cs r'.1))), (vi r'.2)]) x e σ)) ⟨.nils, ⟨V, V, V, V, V, V, U⟩, H⟩ ?_) ?_
       ·intro s4 e σ hI z h; obtain ⟨w9, he, H⟩ := hI; obtain ⟨e, rfl⟩ := he.ex; unfold Z02.s1 at h; refine .then (.Z0 1 V H fun b16 σ H => (.it s4.1 (a2.length : Int) (.bool (decide (s4.1 < (a2.length : Int)))) V V V V V (.nila H fun H => (.then ?_)))); refine .whether (v := (decide (s4.1 < (a2.length : Int)))) V ?_ ?_ <;> intro hc8
        ·replace h := Z8 hc8 h; refine .skip (.then (.inBlock (.then (.Z0 3 V H fun b17 σ H => ?_)))); obtain ⟨x5, q5, h⟩ := bind_some h; refine .Z8w H 2 V V V (at?_map q5) V V nofun V ?_; intro id1 hv1; refine .loadS (id := id1) (j := 0) (w := (.int .i64 x5)) H 2 V hv1 (by simp) (at?_map q5) V (by simp) V V V nofun V ?_; refine .av (vi x5) V V (.nila H fun H => (.then (.Z0 10 V H fun b18 σ H => (.Zc (cs := (vF f)) H 4 V V V V V V V nofun V (.mv (vi x5) V V ?_))))); obtain ⟨x6, q6, h⟩ := bind_some h; refine .call (ys := [(.agg (vF f)), (vi x5)]) (r := (.tup [(vb x6.1), (vl Span.cs x6.2.1), (vi x6.2.2)])) V (Z5k q6) V (.mv (.tup [(vb x6.1), (vl Span.cs x6.2.1), (vi x6.2.2)]) V V (.xt (vb x6.1) V V V (.xt (vl Span.cs x6.2.1) V V V (.xt (vi x6.2.2) V V V (.av (vb x6.1) V V (.av (vl Span.cs x6.2.1) V V (.av (vi x6.2.2) V V (.nila H fun H => ?_)))))))); refine .then (.then (.Z0 2 V H fun b19 σ H => (.mv (vi x6.2.2) V V (.it x6.2.2 0 (.bool (x6.2.2 != 0)) V V V V V (.nila H fun H => ?_))))); refine .whether (v := (x6.2.2 != 0)) V ?_ ?_ <;> intro hc9
         ·replace h := Z8 hc9 h; refine .then (.Z0 3 V H fun b20 σ H => (.Z0T (cs := [(vi 0), (vi 0), .nils, .nils]) V V (.ZQ (cells' := [(vi 0), (vi 0), .nils, .nils]) H 3 V V V V V V V V V nofun fun σ H => (.av (vi 20) V V (.nila H fun H => (.ret ?_)))))); obtain rfl := sj h; exact ⟨nofun, (.inr ⟨_, V, V, (Ends.H (xs := [(.agg [(vi 0), (vi 0), .nils, .nils]), (vi 20)]) (.inr V) H (.agg (cs := [(vi 0), (vi 0), .nils, .nils]) 3 V V V V V V V (.tmp (v := (vi 20)) V .nil)) (.two (.cons (.a (.cons (.v _) (.cons (.v _) (.cons .n (.cons .n .nil))))) (.cons (.c (.v _)) .nil))))⟩)⟩
         ·replace h := Z7 hc9 h; refine .skip (.Z0 9 V H fun b21 σ H => (.Z3 H 1 V V V V V nofun V (.ld w9 H 1 V V V V V nofun V (.mv (vi x5) V V (.mv (vl Span.cs x6.2.1) V V (.Z0T (cs := [(vi x5), (vl Span.cs x6.2.1)]) V V (.Z2j (sz := 2) ([(Granule.mk x5 x6.2.1)].map Granule.cs) H (by omega) (by omega) V V V V V V V V V fun σ H => ?_))))))); obtain ⟨x7, q7, h⟩ := bind_some h; refine .Z2O (c := Granule.cs) (v := w9) (w := (.buf (b21 + 5) 1 2)) (xs := s4.2) (ys := [(Granule.mk x5 x6.2.1)]) H (by omega) (by omega) 1 V V V (.s 0 V) q7 V V V V V nofun V fun w11 σ H => (.Z3 H 2 V V V V V nofun V (.ZQ (v := w11) (ys := [w11]) (cells' := [(vi 0), (vi 0), .nils, w11]) H 2 V V V V (H.slCells (k := 1) V) V V V V nofun fun σ H => (.nila H fun H => (.Z0 2 V H fun b22 σ H => (.it s4.1 1 (.int .i64 (w64 (s4.1 + 1))) V V V V V (.mv (vi (w64 (s4.1 + 1))) V V (.nila H fun H => ?_))))))); obtain rfl := sj h; exact ⟨V, w11, ⟨V, V, V, V, V, V, U⟩, (H.erase 0)⟩
        ·replace h := Z7 hc8 h; refine .exit ?_; obtain rfl := sj h; exact ⟨nofun, (.inl ⟨_, w9, V, V, ⟨V, V, U⟩, ((H.erase 4).erase 2)⟩)⟩
       ·rintro x e σ (⟨a4, w12, rfl, rfl, he, H⟩ | ⟨r', rfl, rfl, hE⟩)
        ·skip
         replace h := jgo h; obtain ⟨e, rfl⟩ := he.ex; refine .then (.Z0 6 V H fun b23 σ H => (.Zc (cs := [(vi 0), (vi 0), .nils, w12]) H 1 V V V V V V V nofun V ?_)); obtain ⟨x8, q8, h⟩ := bind_some h; refine .Z6y (xs := [(.agg [(vi 0), (vi 0), .nils, w12])]) (ys := [(.agg (vs (Form.cs (Form.mk 0 0 [] a4))))]) H V (.cons (.a (.cons (.v _) (.cons (.v _) (.cons (.n) (.cons (.s 0 V) .nil))))) .nil) (Z4V q8) V V nofun V fun σ H => (.xt (.agg (vF x8.1)) V V V (.xt (vi x8.2) V V V (.ZQ (cells' := (vF x8.1)) H 2 V V V V V V V V V nofun fun σ H => (.av (vi x8.2) V V (.nila H fun H => (.ret ?_)))))); obtain rfl := sj h; exact (Ends.H (xs := [(.agg (vF x8.1)), (vi x8.2)]) (.inr V) H (.agg (cs := (vF x8.1)) 2 V V V V V V V (.tmp (v := (vi x8.2)) V .nil)) (.two (.cons (.p V) (.cons (.c (.v _)) .nil))))
        ·skip
         replace h := jret h; obtain rfl := sj h; exact hE
      ·skip
       replace h := jret h; obtain rfl := sj h; exact hE
theorem Z6d {r : Form} (h : ZN = r) : Fn CX 29 [] (.agg (vs (Form.cs r))) := by
 refine Fn.ends Try.func29 V V V V V V ?_; have H : Hs (⟨0, fun _ => .none⟩ : Heap) [] := Has.nil (Nat.le_refl _)
 generalize (⟨0, fun _ => .none⟩ : Heap) = σ at H ⊢
 unfold ZN at h; refine .then (.Z0 1 V H fun b1 σ H => (.Zy (cs := [(vi 0), (vi 0), .nils, .nils]) H (by omega) (by omega) V V fun σ H => (.nila H fun H => (.then (.Z0 5 V H fun b2 σ H => (.Z0T (cs := [(vi 0), (vi 4)]) V V (.Z2j (sz := 2) ([(Span.mk 0 4)].map Span.cs) H (by omega) (by omega) V V V V V V V V V fun σ H => (.Z8C (sz := 1) ([[(Span.mk 0 4)]].map (cL Span.cs)) H (by omega) (by omega) V V (.exp (.c (.s 0 V)) .nil) V V V V V V V nofun fun σ H => ?_)))))))); refine .Z0T (cs := [(vi 7), (vi 1), (.buf (b2 + 2) 1 1), .nils]) V V (.ZQ (cells' := [(vi 7), (vi 1), (.buf (b2 + 2) 1 1), .nils]) H 2 V V V V V V V V V nofun fun σ H => (.nila H fun H => (.ret ?_))); subst h; exact (Ends.H (xs := [(.agg [(vi 7), (vi 1), (.buf (b2 + 2) 1 1), .nils])]) (.inr V) H (.agg (cs := [(vi 7), (vi 1), (.buf (b2 + 2) 1 1), .nils]) 2 V V V V V V V .nil) (.one (.a (.cons (.v _) (.cons (.v _) (.cons (.s 0 V) (.cons .n .nil)))))))
theorem Z2C {a : (List Span)} {b : (List Span)} {r : Bool} (h : Ze a b = some r) : Fn CX 30 [(vl Span.cs a), (vl Span.cs b)] (vb r) := by
 refine Fn.ends Try.func30 V V V V V V ?_; have H : Hs (⟨0, fun _ => .none⟩ : Heap) [] := Has.nil (Nat.le_refl _)
 generalize (⟨0, fun _ => .none⟩ : Heap) = σ at H ⊢
 unfold Ze at h; refine .then (.Z0 1 V H fun b1 σ H => (.av (vb false) V V (.nila H fun H => (.then (.then (.Z0 5 V H fun b2 σ H => (.mv (vl Span.cs a) V V (.Z0A (c := Span.cs) (xs := a) V V V ?_)))))))); refine .mv (vl Span.cs b) V V (.Z0A (c := Span.cs) (xs := b) V V V (.it (a.length : Int) (b.length : Int) (.bool ((a.length : Int) != (b.length : Int))) V V V V V (.nila H fun H => ?_))); refine .whether (v := ((a.length : Int) != (b.length : Int))) V ?_ ?_ <;> intro hc1
 ·replace h := Z8 hc1 h; refine .then (.Z0 1 V H fun b3 σ H => (.av (vb false) V V (.nila H fun H => (.ret ?_)))); obtain rfl := sj h; exact (Ends.H (xs := [(vb false)]) (.inr V) H (.tmp (v := (vb false)) V .nil) (.one (.c (.v _))))
 ·replace h := Z7 hc1 h; refine .skip (.then (.then (.Z0 3 V H fun b4 σ H => (.mv (vl Span.cs a) V V (.Z0A (c := Span.cs) (xs := a) V V V (.mv (vi 0) V V (.nila H fun H => (.inBlock ?_)))))))); obtain ⟨y1, hj1, h⟩ := bind_some h; obtain ⟨n1, hj1⟩ := Zb.1 hj1; refine .mono (Runs.ZM hj1 (fun s1 e σ => Z5 e [(1, (vl Span.cs b)), (12, (vl Span.cs a)), (13, (vi (a.length : Int))), (14, (vi s1))] ∧ Hs σ []) (fun y1 x e σ => (∃ a1, y1 = (.go a1) ∧ x = .exit 0 ∧ Z5 e [] ∧ Hs σ []) ∨ (∃ r', y1 = (.ret r') ∧ x = .ret ∧ Ends CX Try.f30.results.toList (vb r') x e σ)) ⟨⟨V, V, V, V, U⟩, H⟩ ?_) ?_
  ·intro s1 e σ hI z h; obtain ⟨he, H⟩ := hI; obtain ⟨e, rfl⟩ := he.ex; unfold Ze.s0 at h; refine .then (.Z0 1 V H fun b5 σ H => (.it s1 (a.length : Int) (.bool (decide (s1 < (a.length : Int)))) V V V V V (.nila H fun H => (.then ?_)))); refine .whether (v := (decide (s1 < (a.length : Int)))) V ?_ ?_ <;> intro hc2
   ·replace h := Z8 hc2 h; refine .skip (.then (.inBlock (.then (.Z0 6 V H fun b6 σ H => (.mv (vi s1) V V ?_))))); obtain ⟨x1, q1, h⟩ := bind_some h; refine .Zz (c := Span.cs) (u := x1) V V q1 V V V V (.Z2I (cs := [(.int .i64 x1.From), (.int .i64 x1.To)]) V V V V V V (.Zy (cs := [(vi 0), (vi 0)]) H (by omega) (by omega) V V fun σ H => (.av (vi s1) V V (.ZQ (cells' := [(vi x1.From), (vi x1.To)]) H 0 V V V V V V V V V nofun fun σ H => (.nila H fun H => (.then (.Z2N 6 V (by kernel_rfl) H fun b7 σ H B7 => (.mv (vl Span.cs b) V V ?_)))))))); refine .mv (vi s1) V V ?_; obtain ⟨x2, q2, h⟩ := bind_some h; refine .Zz (c := Span.cs) (u := x2) V V q2 V V V V (.Z2I (cs := [(.int .i64 x2.From), (.int .i64 x2.To)]) V V V V V V (.Zc (cs := [(vi x1.From), (vi x1.To)]) H 0 V V V V V V V (fun _ => .inl ⟨B7 0 _ V _ V, nofun, (fun _ => by kernel_rfl)⟩) V (.binA (u := (.agg [(vi x2.From), (vi x2.To)])) (w := (.agg [(vi x1.From), (vi x1.To)])) (r := .bool (!((x2.From == x1.From) && ((x2.To == x1.To) && true)))) V V (by kernel_rfl) (fun _ => ask_eqA V V V V) V (.nila H fun H => ?_)))); refine .whether (v := (!((x2.From == x1.From) && ((x2.To == x1.To) && true)))) V ?_ ?_ <;> intro hc3
    ·replace h := Z8 hc3 h; refine .then (.Z0 1 V H fun b8 σ H => (.av (vb false) V V (.nila H fun H => (.ret ?_)))); obtain rfl := sj h; exact ⟨nofun, (.inr ⟨_, V, V, (Ends.H (xs := [(vb false)]) (.inr V) H (.tmp (v := (vb false)) V .nil) (.one (.c (.v _))))⟩)⟩
    ·replace h := Z7 hc3 h; refine .skip (.Z0 2 V H fun b9 σ H => (.it s1 1 (.int .i64 (w64 (s1 + 1))) V V V V V (.mv (vi (w64 (s1 + 1))) V V (.nila H fun H => ?_)))); obtain rfl := sj h; exact ⟨V, ⟨V, V, V, V, U⟩, (H.erase 0)⟩
   ·replace h := Z7 hc2 h; refine .exit ?_; obtain rfl := sj h; exact ⟨nofun, (.inl ⟨_, V, V, U, H⟩)⟩
  ·rintro x e σ (⟨a2, rfl, rfl, he, H⟩ | ⟨r', rfl, rfl, hE⟩)
   ·skip
    replace h := jgo h; obtain ⟨e, rfl⟩ := he.ex; refine .then (.Z0 1 V H fun b10 σ H => (.av (vb true) V V (.nila H fun H => (.ret ?_)))); obtain rfl := sj h; exact (Ends.H (xs := [(vb true)]) (.inr V) H (.tmp (v := (vb true)) V .nil) (.one (.c (.v _))))
   ·skip
    replace h := jret h; obtain rfl := sj h; exact hE
theorem Z5u {r : Bool} (h : Z1V = some r) : Fn CX 10 [] (vb r) := by
 refine Fn.ends Try.func10 V V V V V V ?_; have H : Hs (⟨0, fun _ => .none⟩ : Heap) [] := Has.nil (Nat.le_refl _)
 generalize (⟨0, fun _ => .none⟩ : Heap) = σ at H ⊢
 unfold Z1V at h; refine .then (.Z0 1 V H fun b1 σ H => (.av (vb false) V V (.nila H fun H => (.then (.Z0 8 V H fun b2 σ H => (.call (ys := []) (r := (.agg (vF ZR))) V (Z1K V) V ?_)))))); obtain ⟨x1, q1, h⟩ := bind_some h; refine .call (ys := [(.agg (vF ZR)), (vi 7)]) (r := (.tup [(.agg (vF x1.1)), (vi x1.2)])) V (Z0a q1) V (.mv (.tup [(.agg (vF x1.1)), (vi x1.2)]) V V (.xt (.agg (vF x1.1)) V V V (.xt (vi x1.2) V V V (.Zy (cs := [(vi 0), (vi 0), .nils, .nils]) H (by omega) (by omega) V V fun σ H => (.ZQ (cells' := (vF x1.1)) H 0 V V V V V V V V V nofun fun σ H => (.av (vi x1.2) V V (.nila H fun H => (.then ?_)))))))); refine .Z0 8 V H fun b3 σ H => (.call (ys := []) (r := (.agg (vF ZR))) V (Z1K V) V ?_); obtain ⟨x2, q2, h⟩ := bind_some h; refine .call (ys := [(.agg (vF ZR)), (vi 3)]) (r := (.tup [(.agg (vF x2.1)), (vi x2.2)])) V (Z3x q2) V (.mv (.tup [(.agg (vF x2.1)), (vi x2.2)]) V V (.xt (.agg (vF x2.1)) V V V (.xt (vi x2.2) V V V (.Zy (cs := [(vi 0), (vi 0), .nils, .nils]) H (by omega) (by omega) V V fun σ H => (.ZQ (cells' := (vF x2.1)) H 0 V V V V V V V V V nofun fun σ H => (.av (vi x2.2) V V (.nila H fun H => (.then ?_)))))))); refine .Z0 8 V H fun b4 σ H => (.call (ys := []) (r := (.agg (vF ZR))) V (Z1K V) V ?_); obtain ⟨x3, q3, h⟩ := bind_some h; refine .call (ys := [(.agg (vF ZR)), (vi 2), (vi 4)]) (r := (.tup [(.agg (vF x3.1)), (vi x3.2)])) V (Z5F q3) V (.mv (.tup [(.agg (vF x3.1)), (vi x3.2)]) V V (.xt (.agg (vF x3.1)) V V V (.xt (vi x3.2) V V V (.Zy (cs := [(vi 0), (vi 0), .nils, .nils]) H (by omega) (by omega) V V fun σ H => (.ZQ (cells' := (vF x3.1)) H 0 V V V V V V V V V nofun fun σ H => (.av (vi x3.2) V V (.nila H fun H => (.then ?_))))))))
 refine .Z0 3 V H fun b5 σ H => (.call (ys := []) (r := (.agg (vF ZN))) V (Z6d V) V (.Zy (cs := [(vi 0), (vi 0), .nils, .nils]) H (by omega) (by omega) V V fun σ H => (.ZQ (cells' := (vF ZN)) H 0 V V V V V V V V V nofun fun σ H => (.nila H fun H => (.then (.Z0 6 V H fun b6 σ H => (.Z0T (cs := [(vi 8), (vi 11)]) V V (.Z2j (sz := 2) ([(Span.mk 8 11)].map Span.cs) H (by omega) (by omega) V V V V V V V V V fun σ H => ?_)))))))); refine .Z0T (cs := [(vi 1), (.buf (b6 + 1) 1 2)]) V V (.Z8C (sz := 2) ([(Granule.mk 1 [(Span.mk 8 11)])].map Granule.cs) H (by omega) (by omega) V V (.exp (.a (.cons (.v _) (.cons (.s 0 V) .nil))) .nil) V V V V V V V nofun fun σ H => (.Z3 H 2 V V V V V nofun V (.ZQ (cells' := [(vi ZN.Period), (vi ZN.Count), (vl (cL Span.cs) ZN.Core), (.buf (b6 + 3) 1 2)]) H 2 V V V V V V V V V nofun fun σ H => (.nila H fun H => (.then (.Z0 8 V H fun b7 σ H => (.Zc (cs := [(vi ZN.Period), (vi ZN.Count), (vl (cL Span.cs) ZN.Core), (.buf (b6 + 3) 1 2)]) H 2 V V V V V V V nofun V ?_))))))); obtain ⟨x4, q4, h⟩ := bind_some h; refine .Z6y (xs := [(.agg [(vi ZN.Period), (vi ZN.Count), (vl (cL Span.cs) ZN.Core), (.buf (b6 + 3) 1 2)]), (vi 2)]) (ys := [(.agg (vs (Form.cs (Form.mk ZN.Period ZN.Count ZN.Core [(Granule.mk 1 [(Span.mk 8 11)])])))), (vi 2)]) H V (.cons (.a (.cons (.v _) (.cons (.v _) (.cons (.v _) (.cons (.s 0 V) .nil))))) (.cons (.c (.v _)) .nil)) (Z0a q4) V V nofun V fun σ H => (.mv (.tup [(.agg (vF x4.1)), (vi x4.2)]) V V (.xt (.agg (vF x4.1)) V V V (.xt (vi x4.2) V V V (.Zy (cs := [(vi 0), (vi 0), .nils, .nils]) H (by omega) (by omega) V V fun σ H => (.ZQ (cells' := (vF x4.1)) H 0 V V V V V V V V V nofun fun σ H => (.av (vi x4.2) V V (.nila H fun H => (.then ?_))))))))
 refine .Z0 7 V H fun b8 σ H => (.Zc (cs := (vF x2.1)) H 5 V V V V V V V nofun V ?_); obtain ⟨x5, q5, h⟩ := bind_some h; refine .call (ys := [(.agg (vF x2.1)), (vi 0)]) (r := (.tup [(vl Span.cs x5.1), (vi x5.2)])) V (Z2J q5) V (.mv (.tup [(vl Span.cs x5.1), (vi x5.2)]) V V (.xt (vl Span.cs x5.1) V V V (.xt (vi x5.2) V V V (.av (vl Span.cs x5.1) V V (.av (vi x5.2) V V (.nila H fun H => (.then (.Z0 8 V H fun b9 σ H => ?_)))))))); refine .call (ys := []) (r := (.agg (vF ZR))) V (Z1K V) V ?_; obtain ⟨x6, q6, h⟩ := bind_some h; refine .call (ys := [(.agg (vF ZR)), (vi 0)]) (r := (.tup [(.agg (vF x6.1)), (vi x6.2)])) V (Z0a q6) V (.mv (.tup [(.agg (vF x6.1)), (vi x6.2)]) V V (.xt (.agg (vF x6.1)) V V V (.xt (vi x6.2) V V V (.Zy (cs := [(vi 0), (vi 0), .nils, .nils]) H (by omega) (by omega) V V fun σ H => (.ZQ (cells' := (vF x6.1)) H 0 V V V V V V V V V nofun fun σ H => (.av (vi x6.2) V V (.nila H fun H => (.then ?_)))))))); refine .Z0 8 V H fun b10 σ H => (.call (ys := []) (r := (.agg (vF ZR))) V (Z1K V) V ?_); obtain ⟨x7, q7, h⟩ := bind_some h; refine .call (ys := [(.agg (vF ZR)), (vi 2), (vi 1)]) (r := (.tup [(.agg (vF x7.1)), (vi x7.2)])) V (Z5F q7) V (.mv (.tup [(.agg (vF x7.1)), (vi x7.2)]) V V (.xt (.agg (vF x7.1)) V V V (.xt (vi x7.2) V V V (.Zy (cs := [(vi 0), (vi 0), .nils, .nils]) H (by omega) (by omega) V V fun σ H => (.ZQ (cells' := (vF x7.1)) H 0 V V V V V V V V V nofun fun σ H => (.av (vi x7.2) V V (.nila H fun H => (.then ?_))))))))
 refine .Z0 6 V H fun b11 σ H => (.Z0T (cs := [(vi 0), (vi 0)]) V V (.Z2j (sz := 2) ([(Span.mk 0 0)].map Span.cs) H (by omega) (by omega) V V V V V V V V V fun σ H => (.Z8C (sz := 1) ([[(Span.mk 0 0)]].map (cL Span.cs)) H (by omega) (by omega) V V (.exp (.c (.s 0 V)) .nil) V V V V V V V nofun fun σ H => (.Z0T (cs := [(vi 549755813888), (vi 1), (.buf (b11 + 2) 1 1), .nils]) V V (.Zy (cs := [(vi 0), (vi 0), .nils, .nils]) H (by omega) (by omega) V V fun σ H => (.ZQ (cells' := [(vi 549755813888), (vi 1), (.buf (b11 + 2) 1 1), .nils]) H 0 V V V V V V V V V nofun fun σ H => (.nila H fun H => (.then ?_)))))))); refine .Z0 8 V H fun b12 σ H => (.Zc (cs := [(vi 549755813888), (vi 1), (.buf (b11 + 2) 1 1), .nils]) H 0 V V V V V V V nofun V ?_); obtain ⟨x8, q8, h⟩ := bind_some h; refine .Z6y (xs := [(.agg [(vi 549755813888), (vi 1), (.buf (b11 + 2) 1 1), .nils]), (vi 4)]) (ys := [(.agg (vs (Form.cs (Form.mk 549755813888 1 [[(Span.mk 0 0)]] [])))), (vi 4)]) H V (.cons (.a (.cons (.v _) (.cons (.v _) (.cons (.s 1 V) (.cons (.n) .nil))))) (.cons (.c (.v _)) .nil)) (Z0a q8) V V nofun V fun σ H => (.mv (.tup [(.agg (vF x8.1)), (vi x8.2)]) V V (.xt (.agg (vF x8.1)) V V V (.xt (vi x8.2) V V V (.Zy (cs := [(vi 0), (vi 0), .nils, .nils]) H (by omega) (by omega) V V fun σ H => (.ZQ (cells' := (vF x8.1)) H 0 V V V V V V V V V nofun fun σ H => (.av (vi x8.2) V V (.nila H fun H => (.then ?_)))))))); refine .Z0 95 V H fun b13 σ H => (.mv (vi x1.2) V V (.it x1.2 0 (.bool (x1.2 == 0)) V V V V V (.mv (vb (x1.2 == 0)) V V ?_)))
 refine .mid 3 (K1 := fun e σ => Z5 e [(74, (vb ((x1.2 == 0) && (x2.2 == 0)))), (1, (.ptr (b2 + 5) 4 0)), (5, (.ptr (b4 + 5) 4 0)), (6, (vi x3.2)), (8, (.ptr (b7 + 5) 4 0)), (9, (vi x4.2)), (10, (vl Span.cs x5.1)), (11, (vi x5.2)), (13, (vi x6.2)), (15, (vi x7.2)), (18, (vi x8.2))] ∧ Has σ (b13 + 6) (b13 + 95) [.blk (b7 + 5) 25 (vF x4.1), .blk (b4 + 5) 25 (vF x3.1), .blk (b2 + 5) 25 (vF x1.1)]) V ?_ ?_
 ·refine .split V V ?_ ?_ <;> intro hc1
  ·skip
   refine .wt V V (.mv (vi x2.2) V V (.wt V V (.it x2.2 0 (.bool (x2.2 == 0)) V V V V V (.Zg (v := (vb (x2.2 == 0))) V V V (.nil ?_))))); exact ⟨⟨Z1U hc1, V, V, V, V, V, V, V, V, V, V, U⟩, ((((((((((H.erase 11).erase 9).erase 8).erase 7).erase 5).erase 4).erase 3).erase 2).erase 1).erase 0).wk (by omega)⟩
  ·skip
   refine .pass V V V (.pass V V V (.Zj (v := (vb false)) V V V (.nil ?_))); exact ⟨⟨Z1Q hc1, V, V, V, V, V, V, V, V, V, V, U⟩, ((((((((((H.erase 11).erase 9).erase 8).erase 7).erase 5).erase 4).erase 3).erase 2).erase 1).erase 0).wk (by omega)⟩
 ·rintro e σ ⟨he, H⟩; obtain ⟨e, rfl⟩ := he.ex; refine .mv (vb ((x1.2 == 0) && (x2.2 == 0))) V V ?_; refine .mid 3 (K1 := fun e σ => Z5 e [(78, (vb (((x1.2 == 0) && (x2.2 == 0)) && (x3.2 == 0)))), (1, (.ptr (b2 + 5) 4 0)), (5, (.ptr (b4 + 5) 4 0)), (8, (.ptr (b7 + 5) 4 0)), (9, (vi x4.2)), (10, (vl Span.cs x5.1)), (11, (vi x5.2)), (13, (vi x6.2)), (15, (vi x7.2)), (18, (vi x8.2))] ∧ Has σ (b13 + 10) (b13 + 95) [.blk (b7 + 5) 25 (vF x4.1), .blk (b4 + 5) 25 (vF x3.1), .blk (b2 + 5) 25 (vF x1.1)]) V ?_ ?_
  ·refine .split V V ?_ ?_ <;> intro hc2
   ·skip
    refine .wt V V (.mv (vi x3.2) V V (.wt V V (.it x3.2 0 (.bool (x3.2 == 0)) V V V V V (.Zg (v := (vb (x3.2 == 0))) V V V (.nil ?_))))); exact ⟨⟨Z1U hc2, V, V, V, V, V, V, V, V, V, U⟩, H.wk (by omega)⟩
   ·skip
    refine .pass V V V (.pass V V V (.Zj (v := (vb false)) V V V (.nil ?_))); exact ⟨⟨Z1Q hc2, V, V, V, V, V, V, V, V, V, U⟩, H.wk (by omega)⟩
  ·rintro e σ ⟨he, H⟩; obtain ⟨e, rfl⟩ := he.ex; refine .mv (vb (((x1.2 == 0) && (x2.2 == 0)) && (x3.2 == 0))) V V ?_; refine .mid 3 (K1 := fun e σ => Z5 e [(82, (vb ((((x1.2 == 0) && (x2.2 == 0)) && (x3.2 == 0)) && (x4.2 == 0)))), (1, (.ptr (b2 + 5) 4 0)), (5, (.ptr (b4 + 5) 4 0)), (8, (.ptr (b7 + 5) 4 0)), (10, (vl Span.cs x5.1)), (11, (vi x5.2)), (13, (vi x6.2)), (15, (vi x7.2)), (18, (vi x8.2))] ∧ Has σ (b13 + 14) (b13 + 95) [.blk (b7 + 5) 25 (vF x4.1), .blk (b4 + 5) 25 (vF x3.1), .blk (b2 + 5) 25 (vF x1.1)]) V ?_ ?_
   ·refine .split V V ?_ ?_ <;> intro hc3
    ·skip
     refine .wt V V (.mv (vi x4.2) V V (.wt V V (.it x4.2 0 (.bool (x4.2 == 0)) V V V V V (.Zg (v := (vb (x4.2 == 0))) V V V (.nil ?_))))); exact ⟨⟨Z1U hc3, V, V, V, V, V, V, V, V, U⟩, H.wk (by omega)⟩
    ·skip
     refine .pass V V V (.pass V V V (.Zj (v := (vb false)) V V V (.nil ?_))); exact ⟨⟨Z1Q hc3, V, V, V, V, V, V, V, V, U⟩, H.wk (by omega)⟩
   ·rintro e σ ⟨he, H⟩; obtain ⟨e, rfl⟩ := he.ex; refine .mv (vb ((((x1.2 == 0) && (x2.2 == 0)) && (x3.2 == 0)) && (x4.2 == 0))) V V ?_; refine .mid 3 (K1 := fun e σ => Z5 e [(86, (vb (((((x1.2 == 0) && (x2.2 == 0)) && (x3.2 == 0)) && (x4.2 == 0)) && (x5.2 == 0)))), (1, (.ptr (b2 + 5) 4 0)), (5, (.ptr (b4 + 5) 4 0)), (8, (.ptr (b7 + 5) 4 0)), (10, (vl Span.cs x5.1)), (13, (vi x6.2)), (15, (vi x7.2)), (18, (vi x8.2))] ∧ Has σ (b13 + 18) (b13 + 95) [.blk (b7 + 5) 25 (vF x4.1), .blk (b4 + 5) 25 (vF x3.1), .blk (b2 + 5) 25 (vF x1.1)]) V ?_ ?_
    ·refine .split V V ?_ ?_ <;> intro hc4
     ·skip
      refine .wt V V (.mv (vi x5.2) V V (.wt V V (.it x5.2 0 (.bool (x5.2 == 0)) V V V V V (.Zg (v := (vb (x5.2 == 0))) V V V (.nil ?_))))); exact ⟨⟨Z1U hc4, V, V, V, V, V, V, V, U⟩, H.wk (by omega)⟩
     ·skip
      refine .pass V V V (.pass V V V (.Zj (v := (vb false)) V V V (.nil ?_))); exact ⟨⟨Z1Q hc4, V, V, V, V, V, V, V, U⟩, H.wk (by omega)⟩
    ·rintro e σ ⟨he, H⟩; obtain ⟨e, rfl⟩ := he.ex; refine .mv (vb (((((x1.2 == 0) && (x2.2 == 0)) && (x3.2 == 0)) && (x4.2 == 0)) && (x5.2 == 0))) V V ?_; refine .mid 3 (K1 := fun e σ => Z5 e [(90, (vb ((((((x1.2 == 0) && (x2.2 == 0)) && (x3.2 == 0)) && (x4.2 == 0)) && (x5.2 == 0)) && (x6.2 == 2)))), (1, (.ptr (b2 + 5) 4 0)), (5, (.ptr (b4 + 5) 4 0)), (8, (.ptr (b7 + 5) 4 0)), (10, (vl Span.cs x5.1)), (15, (vi x7.2)), (18, (vi x8.2))] ∧ Has σ (b13 + 22) (b13 + 95) [.blk (b7 + 5) 25 (vF x4.1), .blk (b4 + 5) 25 (vF x3.1), .blk (b2 + 5) 25 (vF x1.1)]) V ?_ ?_
     ·refine .split V V ?_ ?_ <;> intro hc5
      ·skip
       refine .wt V V (.mv (vi x6.2) V V (.wt V V (.it x6.2 2 (.bool (x6.2 == 2)) V V V V V (.Zg (v := (vb (x6.2 == 2))) V V V (.nil ?_))))); exact ⟨⟨Z1U hc5, V, V, V, V, V, V, U⟩, H.wk (by omega)⟩
      ·skip
       refine .pass V V V (.pass V V V (.Zj (v := (vb false)) V V V (.nil ?_))); exact ⟨⟨Z1Q hc5, V, V, V, V, V, V, U⟩, H.wk (by omega)⟩
     ·rintro e σ ⟨he, H⟩; obtain ⟨e, rfl⟩ := he.ex; refine .mv (vb ((((((x1.2 == 0) && (x2.2 == 0)) && (x3.2 == 0)) && (x4.2 == 0)) && (x5.2 == 0)) && (x6.2 == 2))) V V ?_; refine .mid 3 (K1 := fun e σ => Z5 e [(94, (vb (((((((x1.2 == 0) && (x2.2 == 0)) && (x3.2 == 0)) && (x4.2 == 0)) && (x5.2 == 0)) && (x6.2 == 2)) && (x7.2 == 2)))), (1, (.ptr (b2 + 5) 4 0)), (5, (.ptr (b4 + 5) 4 0)), (8, (.ptr (b7 + 5) 4 0)), (10, (vl Span.cs x5.1)), (18, (vi x8.2))] ∧ Has σ (b13 + 26) (b13 + 95) [.blk (b7 + 5) 25 (vF x4.1), .blk (b4 + 5) 25 (vF x3.1), .blk (b2 + 5) 25 (vF x1.1)]) V ?_ ?_
      ·refine .split V V ?_ ?_ <;> intro hc6
       ·skip
        refine .wt V V (.mv (vi x7.2) V V (.wt V V (.it x7.2 2 (.bool (x7.2 == 2)) V V V V V (.Zg (v := (vb (x7.2 == 2))) V V V (.nil ?_))))); exact ⟨⟨Z1U hc6, V, V, V, V, V, U⟩, H.wk (by omega)⟩
       ·skip
        refine .pass V V V (.pass V V V (.Zj (v := (vb false)) V V V (.nil ?_))); exact ⟨⟨Z1Q hc6, V, V, V, V, V, U⟩, H.wk (by omega)⟩
      ·rintro e σ ⟨he, H⟩; obtain ⟨e, rfl⟩ := he.ex; refine .mv (vb (((((((x1.2 == 0) && (x2.2 == 0)) && (x3.2 == 0)) && (x4.2 == 0)) && (x5.2 == 0)) && (x6.2 == 2)) && (x7.2 == 2))) V V ?_; refine .mid 3 (K1 := fun e σ => Z5 e [(98, (vb ((((((((x1.2 == 0) && (x2.2 == 0)) && (x3.2 == 0)) && (x4.2 == 0)) && (x5.2 == 0)) && (x6.2 == 2)) && (x7.2 == 2)) && (x8.2 == 20)))), (1, (.ptr (b2 + 5) 4 0)), (5, (.ptr (b4 + 5) 4 0)), (8, (.ptr (b7 + 5) 4 0)), (10, (vl Span.cs x5.1))] ∧ Has σ (b13 + 30) (b13 + 95) [.blk (b7 + 5) 25 (vF x4.1), .blk (b4 + 5) 25 (vF x3.1), .blk (b2 + 5) 25 (vF x1.1)]) V ?_ ?_
       ·refine .split V V ?_ ?_ <;> intro hc7
        ·skip
         refine .wt V V (.mv (vi x8.2) V V (.wt V V (.it x8.2 20 (.bool (x8.2 == 20)) V V V V V (.Zg (v := (vb (x8.2 == 20))) V V V (.nil ?_))))); exact ⟨⟨Z1U hc7, V, V, V, V, U⟩, H.wk (by omega)⟩
        ·skip
         refine .pass V V V (.pass V V V (.Zj (v := (vb false)) V V V (.nil ?_))); exact ⟨⟨Z1Q hc7, V, V, V, V, U⟩, H.wk (by omega)⟩
       ·rintro e σ ⟨he, H⟩; obtain ⟨e, rfl⟩ := he.ex; refine .mv (vb ((((((((x1.2 == 0) && (x2.2 == 0)) && (x3.2 == 0)) && (x4.2 == 0)) && (x5.2 == 0)) && (x6.2 == 2)) && (x7.2 == 2)) && (x8.2 == 20))) V V ?_; refine .mid 4 (K1 := fun e σ => Z5 e [(103, (vb (((((((((x1.2 == 0) && (x2.2 == 0)) && (x3.2 == 0)) && (x4.2 == 0)) && (x5.2 == 0)) && (x6.2 == 2)) && (x7.2 == 2)) && (x8.2 == 20)) && (x1.1.Period == 7)))), (1, (.ptr (b2 + 5) 4 0)), (5, (.ptr (b4 + 5) 4 0)), (8, (.ptr (b7 + 5) 4 0)), (10, (vl Span.cs x5.1))] ∧ Has σ (b13 + 35) (b13 + 95) [.blk (b7 + 5) 25 (vF x4.1), .blk (b4 + 5) 25 (vF x3.1), .blk (b2 + 5) 25 (vF x1.1)]) V ?_ ?_
        ·refine .split V V ?_ ?_ <;> intro hc8
         ·skip
          refine .wt V V (.Z3 H 2 V V V V V nofun V (.wt V V (.ld (vi x1.1.Period) H 2 V V V V V nofun V (.wt V V (.it x1.1.Period 7 (.bool (x1.1.Period == 7)) V V V V V (.Zg (v := (vb (x1.1.Period == 7))) V V V (.nil ?_))))))); exact ⟨⟨Z1U hc8, V, V, V, V, U⟩, H.wk (by omega)⟩
         ·skip
          refine .pass V V V (.pass V V V (.pass V V V (.Zj (v := (vb false)) V V V (.nil ?_)))); exact ⟨⟨Z1Q hc8, V, V, V, V, U⟩, H.wk (by omega)⟩
        ·rintro e σ ⟨he, H⟩; obtain ⟨e, rfl⟩ := he.ex; refine .mv (vb (((((((((x1.2 == 0) && (x2.2 == 0)) && (x3.2 == 0)) && (x4.2 == 0)) && (x5.2 == 0)) && (x6.2 == 2)) && (x7.2 == 2)) && (x8.2 == 20)) && (x1.1.Period == 7))) V V ?_; refine .mid 4 (K1 := fun e σ => Z5 e [(108, (vb ((((((((((x1.2 == 0) && (x2.2 == 0)) && (x3.2 == 0)) && (x4.2 == 0)) && (x5.2 == 0)) && (x6.2 == 2)) && (x7.2 == 2)) && (x8.2 == 20)) && (x1.1.Period == 7)) && (x1.1.Count == 1)))), (1, (.ptr (b2 + 5) 4 0)), (5, (.ptr (b4 + 5) 4 0)), (8, (.ptr (b7 + 5) 4 0)), (10, (vl Span.cs x5.1))] ∧ Has σ (b13 + 40) (b13 + 95) [.blk (b7 + 5) 25 (vF x4.1), .blk (b4 + 5) 25 (vF x3.1), .blk (b2 + 5) 25 (vF x1.1)]) V ?_ ?_
         ·refine .split V V ?_ ?_ <;> intro hc9
          ·skip
           refine .wt V V (.Z3 H 2 V V V V V nofun V (.wt V V (.ld (vi x1.1.Count) H 2 V V V V V nofun V (.wt V V (.it x1.1.Count 1 (.bool (x1.1.Count == 1)) V V V V V (.Zg (v := (vb (x1.1.Count == 1))) V V V (.nil ?_))))))); exact ⟨⟨Z1U hc9, V, V, V, V, U⟩, H.wk (by omega)⟩
          ·skip
           refine .pass V V V (.pass V V V (.pass V V V (.Zj (v := (vb false)) V V V (.nil ?_)))); exact ⟨⟨Z1Q hc9, V, V, V, V, U⟩, H.wk (by omega)⟩
         ·rintro e σ ⟨he, H⟩; obtain ⟨e, rfl⟩ := he.ex; refine .mv (vb ((((((((((x1.2 == 0) && (x2.2 == 0)) && (x3.2 == 0)) && (x4.2 == 0)) && (x5.2 == 0)) && (x6.2 == 2)) && (x7.2 == 2)) && (x8.2 == 20)) && (x1.1.Period == 7)) && (x1.1.Count == 1))) V V ?_; refine .mid 5 (K1 := fun e σ => Z5 e [(114, (vb (((((((((((x1.2 == 0) && (x2.2 == 0)) && (x3.2 == 0)) && (x4.2 == 0)) && (x5.2 == 0)) && (x6.2 == 2)) && (x7.2 == 2)) && (x8.2 == 20)) && (x1.1.Period == 7)) && (x1.1.Count == 1)) && ((x1.1.Core.length : Int) == 1)))), (1, (.ptr (b2 + 5) 4 0)), (5, (.ptr (b4 + 5) 4 0)), (8, (.ptr (b7 + 5) 4 0)), (10, (vl Span.cs x5.1))] ∧ Has σ (b13 + 46) (b13 + 95) [.blk (b7 + 5) 25 (vF x4.1), .blk (b4 + 5) 25 (vF x3.1), .blk (b2 + 5) 25 (vF x1.1)]) V ?_ ?_
          ·refine .split V V ?_ ?_ <;> intro hc10
           ·skip
            refine .wt V V (.Z3 H 2 V V V V V nofun V (.wt V V (.ld (vl (cL Span.cs) x1.1.Core) H 2 V V V V V nofun V (.wt V V (.Z0A (c := (cL Span.cs)) (xs := x1.1.Core) V V V (.wt V V (.it (x1.1.Core.length : Int) 1 (.bool ((x1.1.Core.length : Int) == 1)) V V V V V (.Zg (v := (vb ((x1.1.Core.length : Int) == 1))) V V V ?_)))))))); refine .nil ?_; exact ⟨⟨Z1U hc10, V, V, V, V, U⟩, H.wk (by omega)⟩
           ·skip
            refine .pass V V V (.pass V V V (.pass V V V (.pass V V V (.Zj (v := (vb false)) V V V (.nil ?_))))); exact ⟨⟨Z1Q hc10, V, V, V, V, U⟩, H.wk (by omega)⟩
          ·rintro e σ ⟨he, H⟩; obtain ⟨e, rfl⟩ := he.ex; refine .mv (vb (((((((((((x1.2 == 0) && (x2.2 == 0)) && (x3.2 == 0)) && (x4.2 == 0)) && (x5.2 == 0)) && (x6.2 == 2)) && (x7.2 == 2)) && (x8.2 == 20)) && (x1.1.Period == 7)) && (x1.1.Count == 1)) && ((x1.1.Core.length : Int) == 1))) V V ?_; obtain ⟨y1, hj1, h⟩ := bind_some h; refine .mid 8 (K1 := fun e σ => Z5 e [(123, (vb y1)), (5, (.ptr (b4 + 5) 4 0)), (8, (.ptr (b7 + 5) 4 0)), (10, (vl Span.cs x5.1))] ∧ Has σ (b13 + 55) (b13 + 95) [.blk (b7 + 5) 25 (vF x4.1), .blk (b4 + 5) 25 (vF x3.1)]) V ?_ ?_
           ·refine .split V V ?_ ?_ <;> intro hc11
            ·replace h := Z8 hc11 hj1; refine .wt V V (.Z3 H 2 V V V V V nofun V (.wt V V (.ld (vl (cL Span.cs) x1.1.Core) H 2 V V V V V nofun V (.wt V V ?_)))); obtain ⟨x9, q9, h⟩ := bind_some h; refine .Zz (c := (cL Span.cs)) (u := x9) V V q9 V V V V (.wt V V (.Z1X (u := (.sl (x9.map Span.cs))) V V V V (.wt V V (.Z0T (cs := [(vi 0), (vi 6)]) V V (.wt V V (.Z2j (sz := 2) ([(Span.mk 0 6)].map Span.cs) H (by omega) (by omega) V V V V V V V V V fun σ H => (.wt V V ?_))))))); obtain ⟨x10, q10, h⟩ := bind_some h; refine .Z6y (xs := [(vl Span.cs x9), (.buf (b13 + 52) 1 2)]) (ys := [(vl Span.cs x9), (vl Span.cs [(Span.mk 0 6)])]) H V (.cons (.c (.v _)) (.cons (.c (.s 0 V)) .nil)) (Z2C q10) V V nofun V fun σ H => (.Zg (v := (vb x10)) V V V (.nil ?_)); obtain rfl := sj h; exact ⟨⟨V, V, V, V, U⟩, ((H.erase 3).erase 0).wk (by omega)⟩
            ·replace h := Z7 hc11 hj1; refine .pass V V V (.pass V V V (.pass V V V (.pass V V V (.pass V V V (.pass V V V (.pass V V V (.Zj (v := (vb false)) V V V (.nil ?_)))))))); obtain rfl := sj h; exact ⟨⟨V, V, V, V, U⟩, (H.erase 2).wk (by omega)⟩
           ·rintro e σ ⟨he, H⟩; obtain ⟨e, rfl⟩ := he.ex; refine .mv (vb y1) V V ?_; obtain ⟨y2, hj2, h⟩ := bind_some h; refine .mid 5 (K1 := fun e σ => Z5 e [(129, (vb y2)), (5, (.ptr (b4 + 5) 4 0)), (8, (.ptr (b7 + 5) 4 0))] ∧ Has σ (b13 + 61) (b13 + 95) [.blk (b7 + 5) 25 (vF x4.1), .blk (b4 + 5) 25 (vF x3.1)]) V ?_ ?_
            ·refine .split V V ?_ ?_ <;> intro hc12
             ·replace h := Z8 hc12 hj2; refine .wt V V (.mv (vl Span.cs x5.1) V V (.wt V V (.Z0T (cs := [(vi (-3)), (vi (-3))]) V V (.wt V V (.Z2j (sz := 2) ([(Span.mk (-3) (-3))].map Span.cs) H (by omega) (by omega) V V V V V V V V V fun σ H => (.wt V V ?_)))))); obtain ⟨x11, q11, h⟩ := bind_some h; refine .Z6y (xs := [(vl Span.cs x5.1), (.buf (b13 + 58) 1 2)]) (ys := [(vl Span.cs x5.1), (vl Span.cs [(Span.mk (-3) (-3))])]) H V (.cons (.c (.v _)) (.cons (.c (.s 0 V)) .nil)) (Z2C q11) V V nofun V fun σ H => (.Zg (v := (vb x11)) V V V (.nil ?_)); obtain rfl := sj h; exact ⟨⟨V, V, V, U⟩, (H.erase 0).wk (by omega)⟩
             ·replace h := Z7 hc12 hj2; refine .pass V V V (.pass V V V (.pass V V V (.pass V V V (.Zj (v := (vb false)) V V V (.nil ?_))))); obtain rfl := sj h; exact ⟨⟨V, V, V, U⟩, H.wk (by omega)⟩
            ·rintro e σ ⟨he, H⟩; obtain ⟨e, rfl⟩ := he.ex; refine .mv (vb y2) V V ?_; refine .mid 5 (K1 := fun e σ => Z5 e [(135, (vb (y2 && ((x3.1.Odd.length : Int) == 3)))), (5, (.ptr (b4 + 5) 4 0)), (8, (.ptr (b7 + 5) 4 0))] ∧ Has σ (b13 + 67) (b13 + 95) [.blk (b7 + 5) 25 (vF x4.1), .blk (b4 + 5) 25 (vF x3.1)]) V ?_ ?_
             ·refine .split V V ?_ ?_ <;> intro hc13
              ·skip
               refine .wt V V (.Z3 H 1 V V V V V nofun V (.wt V V (.ld (vl Granule.cs x3.1.Odd) H 1 V V V V V nofun V (.wt V V (.Z0A (c := Granule.cs) (xs := x3.1.Odd) V V V (.wt V V (.it (x3.1.Odd.length : Int) 3 (.bool ((x3.1.Odd.length : Int) == 3)) V V V V V (.Zg (v := (vb ((x3.1.Odd.length : Int) == 3))) V V V ?_)))))))); refine .nil ?_; exact ⟨⟨Z1U hc13, V, V, U⟩, H.wk (by omega)⟩
              ·skip
               refine .pass V V V (.pass V V V (.pass V V V (.pass V V V (.Zj (v := (vb false)) V V V (.nil ?_))))); exact ⟨⟨Z1Q hc13, V, V, U⟩, H.wk (by omega)⟩
             ·rintro e σ ⟨he, H⟩; obtain ⟨e, rfl⟩ := he.ex; refine .mv (vb (y2 && ((x3.1.Odd.length : Int) == 3))) V V ?_; obtain ⟨y3, hj3, h⟩ := bind_some h; refine .mid 7 (K1 := fun e σ => Z5 e [(143, (vb y3)), (5, (.ptr (b4 + 5) 4 0)), (8, (.ptr (b7 + 5) 4 0))] ∧ Has σ (b13 + 75) (b13 + 95) [.blk (b7 + 5) 25 (vF x4.1), .blk (b4 + 5) 25 (vF x3.1)]) V ?_ ?_
              ·refine .split V V ?_ ?_ <;> intro hc14
               ·replace h := Z8 hc14 hj3; refine .wt V V (.Z3 H 1 V V V V V nofun V (.wt V V (.ld (vl Granule.cs x3.1.Odd) H 1 V V V V V nofun V (.wt V V ?_)))); obtain ⟨x12, q12, h⟩ := bind_some h; refine .Zz (c := Granule.cs) (u := x12) V V q12 V V V V (.wt V V (.Z0b V V V V (.wt V V (.Z1X (u := (.int .i64 x12.Index)) V V V V (.wt V V (.it x12.Index 2 (.bool (x12.Index == 2)) V V V V V (.Zg (v := (vb (x12.Index == 2))) V V V (.nil ?_)))))))); obtain rfl := sj h; exact ⟨⟨V, V, V, U⟩, H.wk (by omega)⟩
               ·replace h := Z7 hc14 hj3; refine .pass V V V (.pass V V V (.pass V V V (.pass V V V (.pass V V V (.pass V V V (.Zj (v := (vb false)) V V V (.nil ?_))))))); obtain rfl := sj h; exact ⟨⟨V, V, V, U⟩, H.wk (by omega)⟩
              ·rintro e σ ⟨he, H⟩; obtain ⟨e, rfl⟩ := he.ex; refine .mv (vb y3) V V ?_; refine .mid 4 (K1 := fun e σ => Z5 e [(148, (vb (y3 && (x3.1.Count == 0)))), (8, (.ptr (b7 + 5) 4 0))] ∧ Has σ (b13 + 80) (b13 + 95) [.blk (b7 + 5) 25 (vF x4.1)]) V ?_ ?_
               ·refine .split V V ?_ ?_ <;> intro hc15
                ·skip
                 refine .wt V V (.Z3 H 1 V V V V V nofun V (.wt V V (.ld (vi x3.1.Count) H 1 V V V V V nofun V (.wt V V (.it x3.1.Count 0 (.bool (x3.1.Count == 0)) V V V V V (.Zg (v := (vb (x3.1.Count == 0))) V V V (.nil ?_))))))); exact ⟨⟨Z1U hc15, V, U⟩, (H.erase 1).wk (by omega)⟩
                ·skip
                 refine .pass V V V (.pass V V V (.pass V V V (.Zj (v := (vb false)) V V V (.nil ?_)))); exact ⟨⟨Z1Q hc15, V, U⟩, (H.erase 1).wk (by omega)⟩
               ·rintro e σ ⟨he, H⟩; obtain ⟨e, rfl⟩ := he.ex; refine .mv (vb (y3 && (x3.1.Count == 0))) V V ?_; refine .mid 5 (K1 := fun e σ => Z5 e [(154, (vb ((y3 && (x3.1.Count == 0)) && ((x4.1.Odd.length : Int) == 1)))), (8, (.ptr (b7 + 5) 4 0))] ∧ Has σ (b13 + 86) (b13 + 95) [.blk (b7 + 5) 25 (vF x4.1)]) V ?_ ?_
                ·refine .split V V ?_ ?_ <;> intro hc16
                 ·skip
                  refine .wt V V (.Z3 H 0 V V V V V nofun V (.wt V V (.ld (vl Granule.cs x4.1.Odd) H 0 V V V V V nofun V (.wt V V (.Z0A (c := Granule.cs) (xs := x4.1.Odd) V V V (.wt V V (.it (x4.1.Odd.length : Int) 1 (.bool ((x4.1.Odd.length : Int) == 1)) V V V V V (.Zg (v := (vb ((x4.1.Odd.length : Int) == 1))) V V V ?_)))))))); refine .nil ?_; exact ⟨⟨Z1U hc16, V, U⟩, H.wk (by omega)⟩
                 ·skip
                  refine .pass V V V (.pass V V V (.pass V V V (.pass V V V (.Zj (v := (vb false)) V V V (.nil ?_))))); exact ⟨⟨Z1Q hc16, V, U⟩, H.wk (by omega)⟩
                ·rintro e σ ⟨he, H⟩; obtain ⟨e, rfl⟩ := he.ex; refine .mv (vb ((y3 && (x3.1.Count == 0)) && ((x4.1.Odd.length : Int) == 1))) V V ?_; obtain ⟨y4, hj4, h⟩ := bind_some h; refine .mid 7 (K1 := fun e σ => Z5 e [(162, (vb y4))] ∧ Has σ (b13 + 94) (b13 + 95) []) V ?_ ?_
                 ·refine .split V V ?_ ?_ <;> intro hc17
                  ·replace h := Z8 hc17 hj4; refine .wt V V (.Z3 H 0 V V V V V nofun V (.wt V V (.ld (vl Granule.cs x4.1.Odd) H 0 V V V V V nofun V (.wt V V ?_)))); obtain ⟨x13, q13, h⟩ := bind_some h; refine .Zz (c := Granule.cs) (u := x13) V V q13 V V V V (.wt V V (.Z0b V V V V (.wt V V (.Z1X (u := (.int .i64 x13.Index)) V V V V (.wt V V (.it x13.Index 0 (.bool (x13.Index == 0)) V V V V V (.Zg (v := (vb (x13.Index == 0))) V V V (.nil ?_)))))))); obtain rfl := sj h; exact ⟨⟨V, U⟩, (H.erase 0).wk (by omega)⟩
                  ·replace h := Z7 hc17 hj4; refine .pass V V V (.pass V V V (.pass V V V (.pass V V V (.pass V V V (.pass V V V (.Zj (v := (vb false)) V V V (.nil ?_))))))); obtain rfl := sj h; exact ⟨⟨V, U⟩, (H.erase 0).wk (by omega)⟩
                 ·rintro e σ ⟨he, H⟩; obtain ⟨e, rfl⟩ := he.ex; refine .av (vb y4) V V (.nila H fun H => (.ret ?_)); obtain rfl := sj h; exact (Ends.H (xs := [(vb y4)]) (.inr V) H (.tmp (v := (vb y4)) V .nil) (.one (.c (.v _))))
theorem Z1l {r : Bool} (h : ZI = r) : Fn CX 10 [] (vb r) := by
 subst h; exact Z5u Z5N
end Go.Dn

namespace Go.Dn
open Go Go.Proofs
set_option maxRecDepth 100000
set_option maxHeartbeats 4000000
theorem Z1u {a : Form} {b : Form} {r : Bool} (h : ZK a b = some r) : Fn CX 12 [(.agg (vs (Form.cs a))), (.agg (vs (Form.cs b)))] (vb r) := by
 refine Fn.ends Try.func12 V V V V V V ?_; have H : Hs (⟨0, fun _ => .none⟩ : Heap) [] := Has.nil (Nat.le_refl _)
 generalize (⟨0, fun _ => .none⟩ : Heap) = σ at H ⊢
 unfold ZK at h; refine .then (.Z0 3 V H fun b1 σ H => (.boxH (cs := (vF a)) H (by omega) (by omega) V V V fun σ H => (.boxH (cs := (vF b)) H (by omega) (by omega) V V V fun σ H => (.av (vb false) V V (.nila H fun H => (.then (.then (.Z0 30 V H fun b2 σ H => ?_)))))))); refine .Z3 H 1 V V V V V nofun V (.ld (vi a.Period) H 1 V V V V V nofun V (.Z3 H 0 V V V V V nofun V (.ld (vi b.Period) H 0 V V V V V nofun V (.it a.Period b.Period (.bool (a.Period != b.Period)) V V V V V (.mv (vb (a.Period != b.Period)) V V ?_))))); refine .mid 6 (K1 := fun e σ => Z5 e [(20, (vb ((a.Period != b.Period) || (a.Count != b.Count)))), (2, (.ptr (b1 + 0) 4 0)), (3, (.ptr (b1 + 1) 4 0))] ∧ Has σ (b2 + 12) (b2 + 30) [.blk (b1 + 1) 25 (vF b), .blk (b1 + 0) 25 (vF a)]) rfl ?_ ?_
 ·refine .split V V ?_ ?_ <;> intro hc1
  ·skip
   refine .pass V V V (.pass V V V (.pass V V V (.pass V V V (.pass V V V (.Zg (v := (vb true)) V V V (.nil ?_)))))); exact ⟨⟨or_T hc1, V, V, U⟩, H.wk (by omega)⟩
  ·skip
   refine .wt V V (.Z3 H 1 V V V V V nofun V (.wt V V (.ld (vi a.Count) H 1 V V V V V nofun V (.wt V V (.Z3 H 0 V V V V V nofun V (.wt V V (.ld (vi b.Count) H 0 V V V V V nofun V (.wt V V ?_)))))))); refine .it a.Count b.Count (.bool (a.Count != b.Count)) V V V V V (.Zj (v := (vb (a.Count != b.Count))) V V V (.nil ?_)); exact ⟨⟨or_F hc1, V, V, U⟩, H.wk (by omega)⟩
 ·rintro e σ ⟨he, H⟩; obtain ⟨e, rfl⟩ := he.ex; refine .mv (vb ((a.Period != b.Period) || (a.Count != b.Count))) rfl rfl ?_; refine .mid 8 (K1 := fun e σ => Z5 e [(29, (vb (((a.Period != b.Period) || (a.Count != b.Count)) || ((a.Core.length : Int) != (b.Core.length : Int))))), (2, (.ptr (b1 + 0) 4 0)), (3, (.ptr (b1 + 1) 4 0))] ∧ Has σ (b2 + 21) (b2 + 30) [.blk (b1 + 1) 25 (vF b), .blk (b1 + 0) 25 (vF a)]) rfl ?_ ?_
  ·refine .split V V ?_ ?_ <;> intro hc2
   ·skip
    refine .pass V V V (.pass V V V (.pass V V V (.pass V V V (.pass V V V (.pass V V V (.pass V V V (.Zg (v := (vb true)) V V V (.nil ?_)))))))); exact ⟨⟨or_T hc2, V, V, U⟩, H.wk (by omega)⟩
   ·skip
    refine .wt V V (.Z3 H 1 V V V V V nofun V (.wt V V (.ld (vl (cL Span.cs) a.Core) H 1 V V V V V nofun V (.wt V V (.Z0A (c := (cL Span.cs)) (xs := a.Core) V V V (.wt V V (.Z3 H 0 V V V V V nofun V (.wt V V ?_)))))))); refine .ld (vl (cL Span.cs) b.Core) H 0 V V V V V nofun V (.wt V V (.Z0A (c := (cL Span.cs)) (xs := b.Core) V V V (.wt V V (.it (a.Core.length : Int) (b.Core.length : Int) (.bool ((a.Core.length : Int) != (b.Core.length : Int))) V V V V V (.Zj (v := (vb ((a.Core.length : Int) != (b.Core.length : Int)))) V V V (.nil ?_)))))); exact ⟨⟨or_F hc2, V, V, U⟩, H.wk (by omega)⟩
  ·rintro e σ ⟨he, H⟩; obtain ⟨e, rfl⟩ := he.ex; refine .mv (vb (((a.Period != b.Period) || (a.Count != b.Count)) || ((a.Core.length : Int) != (b.Core.length : Int)))) rfl rfl ?_; refine .mid 8 (K1 := fun e σ => Z5 e [(38, (vb ((((a.Period != b.Period) || (a.Count != b.Count)) || ((a.Core.length : Int) != (b.Core.length : Int))) || ((a.Odd.length : Int) != (b.Odd.length : Int))))), (2, (.ptr (b1 + 0) 4 0)), (3, (.ptr (b1 + 1) 4 0))] ∧ Has σ (b2 + 30) (b2 + 30) [.blk (b1 + 1) 25 (vF b), .blk (b1 + 0) 25 (vF a)]) rfl ?_ ?_
   ·refine .split V V ?_ ?_ <;> intro hc3
    ·skip
     refine .pass V V V (.pass V V V (.pass V V V (.pass V V V (.pass V V V (.pass V V V (.pass V V V (.Zg (v := (vb true)) V V V (.nil ?_)))))))); exact ⟨⟨or_T hc3, V, V, U⟩, H.wk (by omega)⟩
    ·skip
     refine .wt V V (.Z3 H 1 V V V V V nofun V (.wt V V (.ld (vl Granule.cs a.Odd) H 1 V V V V V nofun V (.wt V V (.Z0A (c := Granule.cs) (xs := a.Odd) V V V (.wt V V (.Z3 H 0 V V V V V nofun V (.wt V V ?_)))))))); refine .ld (vl Granule.cs b.Odd) H 0 V V V V V nofun V (.wt V V (.Z0A (c := Granule.cs) (xs := b.Odd) V V V (.wt V V (.it (a.Odd.length : Int) (b.Odd.length : Int) (.bool ((a.Odd.length : Int) != (b.Odd.length : Int))) V V V V V (.Zj (v := (vb ((a.Odd.length : Int) != (b.Odd.length : Int)))) V V V (.nil ?_)))))); exact ⟨⟨or_F hc3, V, V, U⟩, H.wk (by omega)⟩
   ·rintro e σ ⟨he, H⟩; obtain ⟨e, rfl⟩ := he.ex; refine .nila H fun H => ?_; refine .whether (v := ((((a.Period != b.Period) || (a.Count != b.Count)) || ((a.Core.length : Int) != (b.Core.length : Int))) || ((a.Odd.length : Int) != (b.Odd.length : Int)))) rfl ?_ ?_ <;> intro hc4
    ·replace h := Z8 hc4 h; refine .then (.Z0 1 V H fun b3 σ H => (.av (vb false) V V (.nila H fun H => (.ret ?_)))); obtain rfl := sj h; exact (Ends.H (xs := [(vb false)]) (.inr V) H (.tmp (v := (vb false)) V .nil) (.one (.c (.v _))))
    ·replace h := Z7 hc4 h; refine .skip (.then (.then (.Z0 4 V H fun b4 σ H => (.Z3 H 1 V V V V V nofun V (.ld (vl (cL Span.cs) a.Core) H 1 V V V V V nofun V (.Z0A (c := (cL Span.cs)) (xs := a.Core) V V V (.mv (vi 0) V V (.nila H fun H => ?_)))))))); refine .inBlock ?_; obtain ⟨y1, hj1, h⟩ := bind_some h; obtain ⟨n1, hj1⟩ := Zb.1 hj1; refine .mono (Runs.ZM hj1 (fun s1 e σ => Z5 e [(2, (.ptr (b1 + 0) 4 0)), (3, (.ptr (b1 + 1) 4 0)), (40, (vl (cL Span.cs) a.Core)), (41, (vi (a.Core.length : Int))), (42, (vi s1))] ∧ Hs σ [.blk (b1 + 1) 25 (vF b), .blk (b1 + 0) 25 (vF a)]) (fun y1 x e σ => (∃ a1, y1 = (.go a1) ∧ x = .exit 0 ∧ Z5 e [(2, (.ptr (b1 + 0) 4 0)), (3, (.ptr (b1 + 1) 4 0))] ∧ Hs σ [.blk (b1 + 1) 25 (vF b), .blk (b1 + 0) 25 (vF a)]) ∨ (∃ r', y1 = (.ret r') ∧ x = .ret ∧ Ends CX Try.f12.results.toList (vb r') x e σ)) ⟨⟨V, V, V, V, V, U⟩, H⟩ ?_) ?_
     ·intro s1 e σ hI z h; obtain ⟨he, H⟩ := hI; obtain ⟨e, rfl⟩ := he.ex; unfold ZK.s0 at h; refine .then (.Z0 1 V H fun b5 σ H => (.it s1 (a.Core.length : Int) (.bool (decide (s1 < (a.Core.length : Int)))) V V V V V (.nila H fun H => (.then ?_)))); refine .whether (v := (decide (s1 < (a.Core.length : Int)))) V ?_ ?_ <;> intro hc5
      ·replace h := Z8 hc5 h; refine .skip (.then (.inBlock (.then (.Z0 5 V H fun b6 σ H => (.mv (vi s1) V V ?_))))); obtain ⟨x1, q1, h⟩ := bind_some h; refine .Zz (c := (cL Span.cs)) (u := x1) V V q1 V V V V (.Z1X (u := (.sl (x1.map Span.cs))) V V V V (.av (vi s1) V V (.av (vl Span.cs x1) V V (.nila H fun H => (.then (.Z0 8 V H fun b7 σ H => (.mv (vl Span.cs x1) V V (.Z3 H 0 V V V V V nofun V ?_)))))))); refine .ld (vl (cL Span.cs) b.Core) H 0 V V V V V nofun V (.mv (vi s1) V V ?_); obtain ⟨x2, q2, h⟩ := bind_some h; refine .Zz (c := (cL Span.cs)) (u := x2) V V q2 V V V V (.Z1X (u := (.sl (x2.map Span.cs))) V V V V ?_); obtain ⟨x3, q3, h⟩ := bind_some h; refine .call (ys := [(vl Span.cs x1), (vl Span.cs x2)]) (r := (vb x3)) V (Z2C q3) V (.not (b := x3) V V (.nila H fun H => ?_)); refine .whether (v := (!x3)) V ?_ ?_ <;> intro hc6
       ·replace h := Z8 hc6 h; refine .then (.Z0 1 V H fun b8 σ H => (.av (vb false) V V (.nila H fun H => (.ret ?_)))); obtain rfl := sj h; exact ⟨nofun, (.inr ⟨_, V, V, (Ends.H (xs := [(vb false)]) (.inr V) H (.tmp (v := (vb false)) V .nil) (.one (.c (.v _))))⟩)⟩
       ·replace h := Z7 hc6 h; refine .skip (.Z0 2 V H fun b9 σ H => (.it s1 1 (.int .i64 (w64 (s1 + 1))) V V V V V (.mv (vi (w64 (s1 + 1))) V V (.nila H fun H => ?_)))); obtain rfl := sj h; exact ⟨V, ⟨V, V, V, V, V, U⟩, H⟩
      ·replace h := Z7 hc5 h; refine .exit ?_; obtain rfl := sj h; exact ⟨nofun, (.inl ⟨_, V, V, ⟨V, V, U⟩, H⟩)⟩
     ·rintro x e σ (⟨a2, rfl, rfl, he, H⟩ | ⟨r', rfl, rfl, hE⟩)
      ·skip
       replace h := jgo h; obtain ⟨e, rfl⟩ := he.ex; refine .then (.then (.Z0 4 V H fun b10 σ H => (.Z3 H 1 V V V V V nofun V (.ld (vl Granule.cs a.Odd) H 1 V V V V V nofun V (.Z0A (c := Granule.cs) (xs := a.Odd) V V V (.mv (vi 0) V V (.nila H fun H => (.inBlock ?_)))))))); obtain ⟨y2, hj2, h⟩ := bind_some h; obtain ⟨n2, hj2⟩ := Zb.1 hj2; refine .mono (Runs.ZM hj2 (fun s2 e σ => Z5 e [(3, (.ptr (b1 + 1) 4 0)), (57, (vl Granule.cs a.Odd)), (58, (vi (a.Odd.length : Int))), (59, (vi s2))] ∧ Hs σ [.blk (b1 + 1) 25 (vF b)]) (fun y2 x e σ => (∃ a3, y2 = (.go a3) ∧ x = .exit 2 ∧ Z5 e [] ∧ Hs σ []) ∨ (∃ r', y2 = (.ret r') ∧ x = .ret ∧ Ends CX Try.f12.results.toList (vb r') x e σ)) ⟨⟨V, V, V, V, U⟩, (H.erase 1)⟩ ?_) ?_
       ·intro s2 e σ hI z h; obtain ⟨he, H⟩ := hI; obtain ⟨e, rfl⟩ := he.ex; unfold ZK.s1 at h; refine .then (.Z0 1 V H fun b11 σ H => (.it s2 (a.Odd.length : Int) (.bool (decide (s2 < (a.Odd.length : Int)))) V V V V V (.nila H fun H => (.then ?_)))); refine .whether (v := (decide (s2 < (a.Odd.length : Int)))) V ?_ ?_ <;> intro hc7
        ·replace h := Z8 hc7 h; refine .skip (.then (.inBlock (.then (.Z0 6 V H fun b12 σ H => (.mv (vi s2) V V ?_))))); obtain ⟨x4, q4, h⟩ := bind_some h; refine .Zz (c := Granule.cs) (u := x4) V V q4 V V V V (.Z2I (cs := [(.int .i64 x4.Index), (.sl (x4.Ticks.map Span.cs))]) V V V V V V (.Zy (cs := [(vi 0), .nils]) H (by omega) (by omega) V V fun σ H => (.av (vi s2) V V (.ZQ (cells' := [(vi x4.Index), (vl Span.cs x4.Ticks)]) H 0 V V V V V V V V V nofun fun σ H => (.nila H fun H => (.then (.Z2N 21 V (by kernel_rfl) H fun b13 σ H B13 => (.Z3 H 0 V V V V V (fun _ => .inl ⟨B13 0 _ V _ V, nofun, (fun _ => by kernel_rfl)⟩) V ?_)))))))); refine .ld (vi x4.Index) H 0 V V V V V (fun _ => .inl ⟨B13 0 _ V _ V, nofun, (fun _ => by kernel_rfl)⟩) V (.Z3 H 1 V V V V V (fun _ => .inl ⟨B13 1 _ V _ V, nofun, (fun _ => by kernel_rfl)⟩) V (.ld (vl Granule.cs b.Odd) H 1 V V V V V (fun _ => .inl ⟨B13 1 _ V _ V, nofun, (fun _ => by kernel_rfl)⟩) V (.mv (vi s2) V V ?_))); obtain ⟨x5, q5, h⟩ := bind_some h; refine .Zz (c := Granule.cs) (u := x5) V V q5 V V V V (.Z0b V V V V (.Z1X (u := (.int .i64 x5.Index)) V V V V (.it x4.Index x5.Index (.bool (x4.Index != x5.Index)) V V V V V (.mv (vb (x4.Index != x5.Index)) V V ?_)))); obtain ⟨y3, hj3, h⟩ := bind_some h; refine .mid 11 (K1 := fun e σ => Z5 e [(84, (vb y3)), (3, (.ptr (b1 + 1) 4 0)), (57, (vl Granule.cs a.Odd)), (58, (vi (a.Odd.length : Int))), (59, (vi s2))] ∧ Has σ (b13 + 21) (b13 + 21) [.blk (b1 + 1) 25 (vF b)]) V ?_ ?_
         ·refine .split V V ?_ ?_ <;> intro hc8
          ·replace h := Z8 hc8 hj3; refine .pass V V V (.pass V V V (.pass V V V (.pass V V V (.pass V V V (.pass V V V (.pass V V V (.pass V V V (.pass V V V ?_)))))))); refine .pass V V V (.Zg (v := (vb true)) V V V (.nil ?_)); obtain rfl := sj h; exact ⟨⟨V, V, V, V, V, U⟩, (H.erase 0).wk (by omega)⟩
          ·replace h := Z7 hc8 hj3; refine .wt V V (.Z3 H 0 V V V V V (fun _ => .inl ⟨B13 0 _ V _ V, nofun, (fun _ => by kernel_rfl)⟩) V (.wt V V (.ld (vl Span.cs x4.Ticks) H 0 V V V V V (fun _ => .inl ⟨B13 0 _ V _ V, nofun, (fun _ => by kernel_rfl)⟩) V (.wt V V (.Z3 H 1 V V V V V (fun _ => .inl ⟨B13 1 _ V _ V, nofun, (fun _ => by kernel_rfl)⟩) V (.wt V V (.ld (vl Granule.cs b.Odd) H 1 V V V V V (fun _ => .inl ⟨B13 1 _ V _ V, nofun, (fun _ => by kernel_rfl)⟩) V (.wt V V ?_)))))))); refine .mv (vi s2) V V (.wt V V ?_); obtain ⟨x6, q6, h⟩ := bind_some h; refine .Zz (c := Granule.cs) (u := x6) V V q6 V V V V (.wt V V (.Z0b V V V V (.wt V V (.Z1X (u := (.sl (x6.Ticks.map Span.cs))) V V V V (.wt V V ?_))))); obtain ⟨x7, q7, h⟩ := bind_some h; refine .call (ys := [(vl Span.cs x4.Ticks), (vl Span.cs x6.Ticks)]) (r := (vb x7)) V (Z2C q7) V (.wt V V (.not (b := x7) V V (.Zj (v := (vb (!x7))) V V V (.nil ?_)))); obtain rfl := sj h; exact ⟨⟨V, V, V, V, V, U⟩, (H.erase 0).wk (by omega)⟩
         ·rintro e σ ⟨he, H⟩; obtain ⟨e, rfl⟩ := he.ex; refine .nila H fun H => ?_; refine .whether (v := y3) V ?_ ?_ <;> intro hc9
          ·replace h := Z8 hc9 h; refine .then (.Z0 1 V H fun b14 σ H => (.av (vb false) V V (.nila H fun H => (.ret ?_)))); obtain rfl := sj h; exact ⟨nofun, (.inr ⟨_, V, V, (Ends.H (xs := [(vb false)]) (.inr V) H (.tmp (v := (vb false)) V .nil) (.one (.c (.v _))))⟩)⟩
          ·replace h := Z7 hc9 h; refine .skip (.Z0 2 V H fun b15 σ H => (.it s2 1 (.int .i64 (w64 (s2 + 1))) V V V V V (.mv (vi (w64 (s2 + 1))) V V (.nila H fun H => ?_)))); obtain rfl := sj h; exact ⟨V, ⟨V, V, V, V, U⟩, H⟩
        ·replace h := Z7 hc7 h; refine .exit ?_; obtain rfl := sj h; exact ⟨nofun, (.inl ⟨_, V, V, U, (H.erase 0)⟩)⟩
       ·rintro x e σ (⟨a4, rfl, rfl, he, H⟩ | ⟨r', rfl, rfl, hE⟩)
        ·skip
         replace h := jgo h; obtain ⟨e, rfl⟩ := he.ex; refine .then (.Z0 1 V H fun b16 σ H => (.av (vb true) V V (.nila H fun H => (.ret ?_)))); obtain rfl := sj h; exact (Ends.H (xs := [(vb true)]) (.inr V) H (.tmp (v := (vb true)) V .nil) (.one (.c (.v _))))
        ·skip
         replace h := jret h; obtain rfl := sj h; exact hE
      ·skip
       replace h := jret h; obtain rfl := sj h; exact hE
theorem Z4Z {f : Form} {m : Int} {n : Int} {k : Int} {r : Bool} (h : Z14 f m n k = some r) : Fn CX 3 [(.agg (vs (Form.cs f))), (.v (.int .u8 m)), (.v (.int .u8 n)), (.v (.int .i8 k))] (vb r) := by
 refine Fn.ends Try.func3 V V V V V V ?_; have H : Hs (⟨0, fun _ => .none⟩ : Heap) [] := Has.nil (Nat.le_refl _)
 generalize (⟨0, fun _ => .none⟩ : Heap) = σ at H ⊢
 unfold Z14 at h; refine .then (.Z0 2 V H fun b1 σ H => (.boxH (cs := (vF f)) H (by omega) (by omega) V V V fun σ H => (.av (vb false) V V (.nila H fun H => (.then (.then (.Z0 3 V H fun b2 σ H => (.Zc (cs := (vF f)) H 0 V V V V V V V nofun V ?_)))))))); obtain ⟨x1, q1, h⟩ := bind_some h; refine .call (ys := [(.agg (vF f))]) (r := (vb x1)) V (Z6h q1) V (.not (b := x1) V V (.nila H fun H => ?_)); refine .whether (v := (!x1)) V ?_ ?_ <;> intro hc1
 ·replace h := Z8 hc1 h; refine .then (.Z0 2 V H fun b3 σ H => (.call (ys := []) (r := (vb ZI)) V (Z1l V) V (.av (vb ZI) V V (.nila H fun H => (.ret ?_))))); obtain rfl := sj h; exact (Ends.H (xs := [(vb ZI)]) (.inr V) H (.tmp (v := (vb ZI)) V .nil) (.one (.c (.v _))))
 ·replace h := Z7 hc1 h; refine .skip (.then (.Z0 14 V H fun b4 σ H => (.mv (.v (.int .u8 m)) V V (.rem (m := m) (m' := 12) V V (by decide) V (.conv (m := (m.tmod 12)) V V V V (.it 1 (w64 (m.tmod 12)) (.int .i64 (w64 (1 + (w64 (m.tmod 12))))) V V V V V (.mv (.v (.int .u8 n)) V V (.rem (m := n) (m' := 12) V V (by decide) V ?_)))))))); refine .conv (m := (n.tmod 12)) V V V V (.it 1 (w64 (n.tmod 12)) (.int .i64 (w64 (1 + (w64 (n.tmod 12))))) V V V V V (.mv (.v (.int .i8 k)) V V (.rem (m := k) (m' := 20) V V (by decide) V (.conv (m := (k.tmod 20)) V V V V (.av (vi (w64 (1 + (w64 (m.tmod 12))))) V V (.av (vi (w64 (1 + (w64 (n.tmod 12))))) V V (.av (vi (w64 (k.tmod 20))) V V (.nila H fun H => ?_)))))))); refine .then (.Z0 9 V H fun b5 σ H => (.Zc (cs := (vF f)) H 0 V V V V V V V nofun V (.mv (vi (w64 (1 + (w64 (m.tmod 12))))) V V ?_))); obtain ⟨x2, q2, h⟩ := bind_some h; refine .call (ys := [(.agg (vF f)), (vi (w64 (1 + (w64 (m.tmod 12)))))]) (r := (.tup [(.agg (vF x2.1)), (vi x2.2)])) V (Z0a q2) V (.mv (.tup [(.agg (vF x2.1)), (vi x2.2)]) V V (.xt (.agg (vF x2.1)) V V V (.xt (vi x2.2) V V V (.Zy (cs := [(vi 0), (vi 0), .nils, .nils]) H (by omega) (by omega) V V fun σ H => (.ZQ (cells' := (vF x2.1)) H 0 V V V V V V V V V nofun fun σ H => (.av (vi x2.2) V V (.nila H fun H => (.then ?_)))))))); refine .Z0 8 V H fun b6 σ H => (.Zc (cs := (vF f)) H 1 V V V V V V V nofun V ?_); obtain ⟨x3, q3, h⟩ := bind_some h; refine .call (ys := [(.agg (vF f)), (vi 1)]) (r := (.tup [(.agg (vF x3.1)), (vi x3.2)])) V (Z0a q3) V (.mv (.tup [(.agg (vF x3.1)), (vi x3.2)]) V V (.xt (.agg (vF x3.1)) V V V (.xt (vi x3.2) V V V (.Zy (cs := [(vi 0), (vi 0), .nils, .nils]) H (by omega) (by omega) V V fun σ H => (.ZQ (cells' := (vF x3.1)) H 0 V V V V V V V V V nofun fun σ H => (.av (vi x3.2) V V (.nila H fun H => (.then ?_))))))))
  refine .then (.Z2N 9 V (by kernel_rfl) H fun b7 σ H B7 => (.mv (vi x3.2) V V (.it x3.2 0 (.bool (x3.2 != 0)) V V V V V (.mv (vb (x3.2 != 0)) V V ?_)))); obtain ⟨y1, hj1, h⟩ := bind_some h; refine .mid 6 (K1 := fun e σ => Z5 e [(60, (vb y1)), (4, (.ptr (b1 + 0) 4 0)), (9, (vi (w64 (1 + (w64 (m.tmod 12)))))), (10, (vi (w64 (1 + (w64 (n.tmod 12)))))), (11, (vi (w64 (k.tmod 20)))), (12, (.ptr (b5 + 6) 4 0)), (13, (vi x2.2))] ∧ Has σ (b7 + 9) (b7 + 9) [.blk (b5 + 6) 25 (vF x2.1), .blk (b1 + 0) 25 (vF f)]) V ?_ ?_
  ·refine .split V V ?_ ?_ <;> intro hc2
   ·replace h := Z8 hc2 hj1; refine .pass V V V (.pass V V V (.pass V V V (.pass V V V (.pass V V V (.Zg (v := (vb true)) V V V (.nil ?_)))))); obtain rfl := sj h; exact ⟨⟨V, V, V, V, V, V, V, U⟩, (H.erase 0).wk (by omega)⟩
   ·replace h := Z7 hc2 hj1; refine .wt V V (.Zc (cs := (vF x3.1)) H 0 V V V V V V V (fun _ => .inl ⟨B7 0 _ V _ V, nofun, (fun _ => by kernel_rfl)⟩) V (.wt V V (.Zc (cs := (vF f)) H 2 V V V V V V V (fun _ => .inl ⟨B7 2 _ V _ V, nofun, (fun _ => by kernel_rfl)⟩) V (.wt V V ?_)))); obtain ⟨x4, q4, h⟩ := bind_some h; refine .call (ys := [(.agg (vF f))]) (r := (.agg (vF x4))) V (Z6m q4) V (.wt V V ?_); obtain ⟨x5, q5, h⟩ := bind_some h; refine .call (ys := [(.agg (vF x3.1)), (.agg (vF x4))]) (r := (vb x5)) V (Z1u q5) V (.wt V V (.not (b := x5) V V (.Zj (v := (vb (!x5))) V V V (.nil ?_)))); obtain rfl := sj h; exact ⟨⟨V, V, V, V, V, V, V, U⟩, (H.erase 0).wk (by omega)⟩
  ·rintro e σ ⟨he, H⟩; obtain ⟨e, rfl⟩ := he.ex; refine .nila H fun H => ?_; refine .whether (v := y1) V ?_ ?_ <;> intro hc3
   ·replace h := Z8 hc3 h; refine .then (.Z0 1 V H fun b8 σ H => (.av (vb false) V V (.nila H fun H => (.ret ?_)))); obtain rfl := sj h; exact (Ends.H (xs := [(vb false)]) (.inr V) H (.tmp (v := (vb false)) V .nil) (.one (.c (.v _))))
   ·replace h := Z7 hc3 h; refine .skip (.then (.then (.Z0 2 V H fun b9 σ H => (.mv (vi x2.2) V V (.it x2.2 0 (.bool (x2.2 != 0)) V V V V V (.nila H fun H => ?_)))))); refine .whether (v := (x2.2 != 0)) V ?_ ?_ <;> intro hc4
    ·replace h := Z8 hc4 h; refine .then (.Z0 2 V H fun b10 σ H => (.call (ys := []) (r := (vb ZI)) V (Z1l V) V (.av (vb ZI) V V (.nila H fun H => (.ret ?_))))); obtain rfl := sj h; exact (Ends.H (xs := [(vb ZI)]) (.inr V) H (.tmp (v := (vb ZI)) V .nil) (.one (.c (.v _))))
    ·replace h := Z7 hc4 h; refine .skip (.then (.Z0 9 V H fun b11 σ H => (.Zc (cs := (vF x2.1)) H 0 V V V V V V V nofun V (.mv (vi (w64 (1 + (w64 (n.tmod 12))))) V V ?_)))); obtain ⟨x6, q6, h⟩ := bind_some h; refine .call (ys := [(.agg (vF x2.1)), (vi (w64 (1 + (w64 (n.tmod 12)))))]) (r := (.tup [(.agg (vF x6.1)), (vi x6.2)])) V (Z0a q6) V (.mv (.tup [(.agg (vF x6.1)), (vi x6.2)]) V V (.xt (.agg (vF x6.1)) V V V (.xt (vi x6.2) V V V (.Zy (cs := [(vi 0), (vi 0), .nils, .nils]) H (by omega) (by omega) V V fun σ H => (.ZQ (cells' := (vF x6.1)) H 0 V V V V V V V V V nofun fun σ H => (.av (vi x6.2) V V (.nila H fun H => (.then ?_)))))))); refine .Z0 11 V H fun b12 σ H => (.Zc (cs := (vF f)) H 2 V V V V V V V nofun V (.mv (vi (w64 (1 + (w64 (m.tmod 12))))) V V (.mv (vi (w64 (1 + (w64 (n.tmod 12))))) V V (.it (w64 (1 + (w64 (m.tmod 12)))) (w64 (1 + (w64 (n.tmod 12)))) (.int .i64 (w64 ((w64 (1 + (w64 (m.tmod 12)))) * (w64 (1 + (w64 (n.tmod 12))))))) V V V V V ?_)))); obtain ⟨x7, q7, h⟩ := bind_some h; refine .call (ys := [(.agg (vF f)), (vi (w64 ((w64 (1 + (w64 (m.tmod 12)))) * (w64 (1 + (w64 (n.tmod 12)))))))]) (r := (.tup [(.agg (vF x7.1)), (vi x7.2)])) V (Z0a q7) V (.mv (.tup [(.agg (vF x7.1)), (vi x7.2)]) V V (.xt (.agg (vF x7.1)) V V V (.xt (vi x7.2) V V V (.Zy (cs := [(vi 0), (vi 0), .nils, .nils]) H (by omega) (by omega) V V fun σ H => (.ZQ (cells' := (vF x7.1)) H 0 V V V V V V V V V nofun fun σ H => (.av (vi x7.2) V V (.nila H fun H => (.then ?_))))))))
     refine .then (.Z0 12 V H fun b13 σ H => (.mv (vi x6.2) V V (.it x6.2 0 (.bool (x6.2 == 0)) V V V V V (.mv (vb (x6.2 == 0)) V V ?_)))); refine .mid 3 (K1 := fun e σ => Z5 e [(83, (vb ((x6.2 == 0) && (x7.2 == 0)))), (4, (.ptr (b1 + 0) 4 0)), (9, (vi (w64 (1 + (w64 (m.tmod 12)))))), (11, (vi (w64 (k.tmod 20)))), (12, (.ptr (b5 + 6) 4 0)), (16, (.ptr (b11 + 6) 4 0)), (18, (.ptr (b12 + 8) 4 0))] ∧ Has σ (b13 + 6) (b13 + 12) [.blk (b12 + 8) 25 (vF x7.1), .blk (b11 + 6) 25 (vF x6.1), .blk (b5 + 6) 25 (vF x2.1), .blk (b1 + 0) 25 (vF f)]) V ?_ ?_
     ·refine .split V V ?_ ?_ <;> intro hc5
      ·skip
       refine .wt V V (.mv (vi x7.2) V V (.wt V V (.it x7.2 0 (.bool (x7.2 == 0)) V V V V V (.Zg (v := (vb (x7.2 == 0))) V V V (.nil ?_))))); exact ⟨⟨Z1U hc5, V, V, V, V, V, V, U⟩, H.wk (by omega)⟩
      ·skip
       refine .pass V V V (.pass V V V (.Zj (v := (vb false)) V V V (.nil ?_))); exact ⟨⟨Z1Q hc5, V, V, V, V, V, V, U⟩, H.wk (by omega)⟩
     ·rintro e σ ⟨he, H⟩; obtain ⟨e, rfl⟩ := he.ex; refine .mv (vb ((x6.2 == 0) && (x7.2 == 0))) V V ?_; obtain ⟨y2, hj2, h⟩ := bind_some h; refine .mid 5 (K1 := fun e σ => Z5 e [(89, (vb y2)), (4, (.ptr (b1 + 0) 4 0)), (9, (vi (w64 (1 + (w64 (m.tmod 12)))))), (11, (vi (w64 (k.tmod 20)))), (12, (.ptr (b5 + 6) 4 0))] ∧ Has σ (b13 + 12) (b13 + 12) [.blk (b5 + 6) 25 (vF x2.1), .blk (b1 + 0) 25 (vF f)]) V ?_ ?_
      ·refine .split V V ?_ ?_ <;> intro hc6
       ·replace h := Z8 hc6 hj2; refine .wt V V (.Zc (cs := (vF x6.1)) H 1 V V V V V V V nofun V (.wt V V (.Zc (cs := (vF x7.1)) H 0 V V V V V V V nofun V (.wt V V ?_)))); obtain ⟨x8, q8, h⟩ := bind_some h; refine .call (ys := [(.agg (vF x6.1)), (.agg (vF x7.1))]) (r := (vb x8)) V (Z1u q8) V (.wt V V (.not (b := x8) V V (.Zg (v := (vb (!x8))) V V V (.nil ?_)))); obtain rfl := sj h; exact ⟨⟨V, V, V, V, V, U⟩, ((H.erase 1).erase 0).wk (by omega)⟩
       ·replace h := Z7 hc6 hj2; refine .pass V V V (.pass V V V (.pass V V V (.pass V V V (.Zj (v := (vb false)) V V V (.nil ?_))))); obtain rfl := sj h; exact ⟨⟨V, V, V, V, V, U⟩, ((H.erase 1).erase 0).wk (by omega)⟩
      ·rintro e σ ⟨he, H⟩; obtain ⟨e, rfl⟩ := he.ex; refine .nila H fun H => ?_; refine .whether (v := y2) V ?_ ?_ <;> intro hc7
       ·replace h := Z8 hc7 h; refine .then (.Z0 1 V H fun b14 σ H => (.av (vb false) V V (.nila H fun H => (.ret ?_)))); obtain rfl := sj h; exact (Ends.H (xs := [(vb false)]) (.inr V) H (.tmp (v := (vb false)) V .nil) (.one (.c (.v _))))
       ·replace h := Z7 hc7 h; refine .skip (.then (.Z0 9 V H fun b15 σ H => (.Zc (cs := (vF x2.1)) H 0 V V V V V V V nofun V (.mv (vi (w64 (k.tmod 20))) V V ?_)))); obtain ⟨x9, q9, h⟩ := bind_some h; refine .call (ys := [(.agg (vF x2.1)), (vi (w64 (k.tmod 20)))]) (r := (.tup [(.agg (vF x9.1)), (vi x9.2)])) V (Z3x q9) V (.mv (.tup [(.agg (vF x9.1)), (vi x9.2)]) V V (.xt (.agg (vF x9.1)) V V V (.xt (vi x9.2) V V V (.Zy (cs := [(vi 0), (vi 0), .nils, .nils]) H (by omega) (by omega) V V fun σ H => (.ZQ (cells' := (vF x9.1)) H 0 V V V V V V V V V nofun fun σ H => (.av (vi x9.2) V V (.nila H fun H => (.then ?_)))))))); refine .Z0 11 V H fun b16 σ H => (.Zc (cs := (vF f)) H 2 V V V V V V V nofun V (.mv (vi (w64 (1 + (w64 (m.tmod 12))))) V V (.mv (vi (w64 (k.tmod 20))) V V (.it (w64 (1 + (w64 (m.tmod 12)))) (w64 (k.tmod 20)) (.int .i64 (w64 ((w64 (1 + (w64 (m.tmod 12)))) * (w64 (k.tmod 20))))) V V V V V ?_)))); obtain ⟨x10, q10, h⟩ := bind_some h; refine .call (ys := [(.agg (vF f)), (vi (w64 ((w64 (1 + (w64 (m.tmod 12)))) * (w64 (k.tmod 20)))))]) (r := (.tup [(.agg (vF x10.1)), (vi x10.2)])) V (Z3x q10) V (.mv (.tup [(.agg (vF x10.1)), (vi x10.2)]) V V (.xt (.agg (vF x10.1)) V V V (.xt (vi x10.2) V V V (.Zy (cs := [(vi 0), (vi 0), .nils, .nils]) H (by omega) (by omega) V V fun σ H => (.ZQ (cells' := (vF x10.1)) H 0 V V V V V V V V V nofun fun σ H => (.av (vi x10.2) V V (.nila H fun H => (.then ?_)))))))); refine .then (.Z0 6 V H fun b17 σ H => (.mv (vi x9.2) V V (.it x9.2 0 (.bool (x9.2 != 0)) V V V V V (.mv (vb (x9.2 != 0)) V V ?_))))
        refine .mid 3 (K1 := fun e σ => Z5 e [(109, (vb ((x9.2 != 0) || (x10.2 != 0)))), (9, (vi (w64 (1 + (w64 (m.tmod 12)))))), (20, (.ptr (b15 + 6) 4 0)), (22, (.ptr (b16 + 8) 4 0))] ∧ Has σ (b17 + 6) (b17 + 6) [.blk (b16 + 8) 25 (vF x10.1), .blk (b15 + 6) 25 (vF x9.1)]) rfl ?_ ?_
        ·refine .split V V ?_ ?_ <;> intro hc8
         ·skip
          refine .pass V V V (.pass V V V (.Zg (v := (vb true)) V V V (.nil ?_))); exact ⟨⟨or_T hc8, V, V, V, U⟩, ((H.erase 3).erase 2).wk (by omega)⟩
         ·skip
          refine .wt V V (.mv (vi x10.2) V V (.wt V V (.it x10.2 0 (.bool (x10.2 != 0)) V V V V V (.Zj (v := (vb (x10.2 != 0))) V V V (.nil ?_))))); exact ⟨⟨or_F hc8, V, V, V, U⟩, ((H.erase 3).erase 2).wk (by omega)⟩
        ·rintro e σ ⟨he, H⟩; obtain ⟨e, rfl⟩ := he.ex; refine .nila H fun H => ?_; refine .whether (v := ((x9.2 != 0) || (x10.2 != 0))) rfl ?_ ?_ <;> intro hc9
         ·replace h := Z8 hc9 h; refine .then (.Z0 2 V H fun b18 σ H => (.call (ys := []) (r := (vb ZI)) V (Z1l V) V (.av (vb ZI) V V (.nila H fun H => (.ret ?_))))); obtain rfl := sj h; exact (Ends.H (xs := [(vb ZI)]) (.inr V) H (.tmp (v := (vb ZI)) V .nil) (.one (.c (.v _))))
         ·replace h := Z7 hc9 h; refine .skip (.then (.Z0 9 V H fun b19 σ H => (.Zc (cs := (vF x10.1)) H 0 V V V V V V V nofun V (.mv (vi (w64 (1 + (w64 (m.tmod 12))))) V V ?_)))); obtain ⟨x11, q11, h⟩ := bind_some h; refine .call (ys := [(.agg (vF x10.1)), (vi (w64 (1 + (w64 (m.tmod 12)))))]) (r := (.tup [(.agg (vF x11.1)), (vi x11.2)])) V (Z0a q11) V (.mv (.tup [(.agg (vF x11.1)), (vi x11.2)]) V V (.xt (.agg (vF x11.1)) V V V (.xt (vi x11.2) V V V (.Zy (cs := [(vi 0), (vi 0), .nils, .nils]) H (by omega) (by omega) V V fun σ H => (.ZQ (cells' := (vF x11.1)) H 0 V V V V V V V V V nofun fun σ H => (.av (vi x11.2) V V (.nila H fun H => (.then ?_)))))))); refine .Z0 11 V H fun b20 σ H => (.mv (vi x11.2) V V (.it x11.2 0 (.bool (x11.2 != 0)) V V V V V (.mv (vb (x11.2 != 0)) V V ?_))); obtain ⟨y3, hj3, h⟩ := bind_some h; refine .mid 4 (K1 := fun e σ => Z5 e [(123, (vb y3))] ∧ Has σ (b20 + 7) (b20 + 11) []) V ?_ ?_
          ·refine .split V V ?_ ?_ <;> intro hc10
           ·replace h := Z8 hc10 hj3; refine .pass V V V (.pass V V V (.pass V V V (.Zg (v := (vb true)) V V V (.nil ?_)))); obtain rfl := sj h; exact ⟨⟨V, U⟩, (((H.erase 2).erase 1).erase 0).wk (by omega)⟩
           ·replace h := Z7 hc10 hj3; refine .wt V V (.Zc (cs := (vF x9.1)) H 2 V V V V V V V nofun V (.wt V V (.Zc (cs := (vF x11.1)) H 0 V V V V V V V nofun V (.wt V V ?_)))); obtain ⟨x12, q12, h⟩ := bind_some h; refine .call (ys := [(.agg (vF x9.1)), (.agg (vF x11.1))]) (r := (vb x12)) V (Z1u q12) V (.Zj (v := (vb x12)) V V V (.nil ?_)); obtain rfl := sj h; exact ⟨⟨V, U⟩, (((H.erase 2).erase 1).erase 0).wk (by omega)⟩
          ·rintro e σ ⟨he, H⟩; obtain ⟨e, rfl⟩ := he.ex; refine .mv (vb y3) V V ?_; refine .mid 2 (K1 := fun e σ => Z5 e [(126, (vb (y3 && ZI)))] ∧ Has σ (b20 + 10) (b20 + 11) []) V ?_ ?_
           ·refine .split V V ?_ ?_ <;> intro hc11
            ·skip
             refine .wt V V (.call (ys := []) (r := (vb ZI)) V (Z1l V) V (.Zg (v := (vb ZI)) V V V (.nil ?_))); exact ⟨⟨Z1U hc11, U⟩, H.wk (by omega)⟩
            ·skip
             refine .pass V V V (.Zj (v := (vb false)) V V V (.nil ?_)); exact ⟨⟨Z1Q hc11, U⟩, H.wk (by omega)⟩
           ·rintro e σ ⟨he, H⟩; obtain ⟨e, rfl⟩ := he.ex; refine .av (vb (y3 && ZI)) V V (.nila H fun H => (.ret ?_)); obtain rfl := sj h; exact (Ends.H (xs := [(vb (y3 && ZI))]) (.inr V) H (.tmp (v := (vb (y3 && ZI))) V .nil) (.one (.c (.v _))))
end Go.Dn

namespace Go.Dn
open Go
theorem Z1F {S R : Type} {step : S → Option (S ⊕ R)} (I : S → Prop) (m : S → Nat) (post : R → Prop)
  (h : ∀ s, I s → (∃ s', step s = some (.inl s') ∧ I s' ∧ m s' < m s) ∨ (∃ r, step s = some (.inr r) ∧ post r)) : ∀ s, I s → ∃ r, ZM step s = some r ∧ post r := by
 have key : ∀ n s, m s = n → I s → ∃ r, ZM step s = some r ∧ post r := by
  intro n
  induction n using Nat.strongRecOn with
  | _ n ih =>
   intro s hm hI
   rcases h s hI with ⟨s', h1, h2, h3⟩ | ⟨r, h1, h2⟩
   ·obtain ⟨r, q1, q2⟩ := ih (m s') (by omega) s' rfl h2
    exact ⟨r, by rw [loopO_eq, h1]; exact q1, q2⟩
   ·exact ⟨r, by rw [loopO_eq, h1], h2⟩
 exact fun s hI => key _ s rfl hI
theorem Z27 {S R : Type} {step : S → Option (S ⊕ R)} (I : S → R → Prop) (m : S → Nat)
  (h : ∀ s r, I s r → (∃ s', step s = some (.inl s') ∧ I s' r ∧ m s' < m s) ∨ step s = some (.inr r)) {s : S} {r : R} (hI : I s r) : ZM step s = some r := by
 obtain ⟨r', h1, h2⟩ := Z1F (I := fun s => I s r) m (fun r' => r' = r) (fun s hs => by
  rcases h s r hs with ⟨s', h1, h2, h3⟩ | h1
  ·exact .inl ⟨s', h1, h2, h3⟩
  ·exact .inr ⟨r, h1, rfl⟩) s hI
 rw [h1, h2]
theorem Z57 (a : Int) : IntKind.i64.wrap a = (a + 9223372036854775808) % 18446744073709551616 - 9223372036854775808 := by
 simp [IntKind.wrap, IntKind.bits, IntKind.signed]
 split <;> omega
theorem Z5H (a : Int) : IntKind.u64.wrap a = a % 18446744073709551616 := by
 simp [IntKind.wrap, IntKind.bits, IntKind.signed]
theorem ZY {x : Int} (h : -9223372036854775808 ≤ x ∧ x ≤ 9223372036854775807) : w64 x = x := by
 unfold w64; rw [Z57]; omega
theorem Z8Z : maxLen = 9223372036854775807 := rfl
theorem Z3h : room = 140737488355328 := rfl
theorem at?_lt {α : Type} {l : List α} {i : Int} (h0 : 0 ≤ i) (h : i < l.length) : at? l i = some (l[i.toNat]'(by omega)) := by
 unfold at?; rw [if_pos h0, List.getElem?_eq_getElem]
theorem at?_nat {α : Type} {l : List α} {k : Nat} (h : k < l.length) : at? l (k : Int) = some l[k] := by
 rw [at?_lt (by omega) (by omega)]; rfl
theorem app?_ok {α : Type} {b : Nat} {l m : List α} (h : (l.length + m.length) * b ≤ room) : app? b l m = some (l ++ m) := if_pos h
theorem nz?_ok {b : Int} (h : b ≠ 0) : nz? b = some () := if_neg h
theorem beq_t {a b : Int} (h : a = b) : (a == b) = true := by simp [h]
theorem Z41 {a b : Int} (h : a ≠ b) : (a == b) = false := by simp [h]
theorem bne_t {a b : Int} (h : a ≠ b) : (a != b) = true := by simp [h]
theorem Z5x {a b : Int} (h : a = b) : (a != b) = false := by simp [h]
theorem ibeq (a b : Int) : (a == b) = decide (a = b) := by by_cases h : a = b <;> simp [h]
theorem Zq {p : Prop} [Decidable p] (h : p) : decide p = true := by simp [h]
theorem Zv {p : Prop} [Decidable p] (h : ¬ p) : decide p = false := by simp [h]
theorem pickB {α : Type} (c : Bool) (a b : α) : (bif c then a else b) = if c = true then a else b := by cases c <;> rfl
theorem Z8v {α : Type} {l : List α} {good : Nat → α → Prop} (h : ¬ ∀ k x, l[k]? = some x → good k x) : ∃ (k : Nat) (x : α), l[k]? = some x ∧ ¬ good k x ∧ ∀ j y, j < k → l[j]? = some y → good j y := by
 have hex : ∃ k : Nat, ∃ x, l[k]? = some x ∧ ¬ good k x := by
  apply Classical.byContradiction;intro hn;exact h fun k x hk => Classical.byContradiction fun hg => hn ⟨k, x, hk, hg⟩
 obtain ⟨k, hk⟩ := hex
 induction k using Nat.strongRecOn with
 | _ k ih =>
  by_cases h : ∃ j, j < k ∧ ∃ x, l[j]? = some x ∧ ¬ good j x
  ·obtain ⟨j, hj, hx⟩ := h
   exact ih j hj hx
  ·obtain ⟨x, hx, hb⟩ := hk
   exact ⟨k, x, hx, hb, fun j y hj hy => Classical.byContradiction fun hg => h ⟨j, hj, y, hy, hg⟩⟩
theorem Z3w {α R : Type} {l : List α} {step : Int → Option (Int ⊕ R)} (good : Nat → α → Prop) {no yes : R}
  (hstep : ∀ (k : Nat) (x : α), l[k]? = some x → (∀ j y, j < k → l[j]? = some y → good j y) → (step (k : Int) = some (.inl ((k : Int) + 1)) ∧ good k x) ∨ (step (k : Int) = some (.inr no) ∧ ¬ good k x))
  (hend : step (l.length : Int) = some (.inr yes)) : (ZM step 0 = some yes ∧ ∀ k x, l[k]? = some x → good k x) ∨ (ZM step 0 = some no ∧ ¬ ∀ k x, l[k]? = some x → good k x) := by
 by_cases hall : ∀ k x, l[k]? = some x → good k x
 ·refine .inl ⟨?_, hall⟩;refine Z27 (I := fun (s : Int) r => r = yes ∧ ∃ k : Nat, s = k ∧ k ≤ l.length) (fun s => (l.length - s.toNat)) ?_ ⟨rfl, 0, rfl, Nat.zero_le _⟩
  rintro s r ⟨rfl, k, rfl, hk⟩
  by_cases hlt : k < l.length
  ·rcases hstep k l[k] (List.getElem?_eq_getElem hlt) (fun j y _ hy => hall j y hy) with ⟨h1, _⟩ | ⟨_, h2⟩
   ·exact .inl ⟨_, h1, ⟨rfl, k + 1, by push_cast; rfl, hlt⟩, by simp; omega⟩
   ·exact absurd (hall k _ (List.getElem?_eq_getElem hlt)) h2
  ·have : k = l.length := by omega
   subst this;exact .inr hend
 ·refine .inr ⟨?_, hall⟩;obtain ⟨k0, x0, hx0, hb0, hgood⟩ := Z8v hall
  have hlt0 := (List.getElem?_eq_some_iff.1 hx0).1
  refine Z27 (I := fun (s : Int) r => r = no ∧ ∃ k : Nat, s = k ∧ k ≤ k0) (fun s => (l.length - s.toNat)) ?_ ⟨rfl, 0, rfl, Nat.zero_le _⟩
  rintro s r ⟨rfl, k, rfl, hk⟩
  by_cases hlt : k < k0
  ·have hkl : k < l.length := by omega
   rcases hstep k l[k] (List.getElem?_eq_getElem hkl) (fun j y hj hy => hgood j y (by omega) hy) with ⟨h1, _⟩ | ⟨_, h2⟩
   ·exact .inl ⟨_, h1, ⟨rfl, k + 1, by push_cast; rfl, hlt⟩, by simp; omega⟩
   ·exact absurd (hgood k _ hlt (List.getElem?_eq_getElem hkl)) h2
  ·have : k = k0 := by omega
   subst this
   rcases hstep k x0 hx0 hgood with ⟨_, h2⟩ | ⟨h1, _⟩
   ·exact absurd h2 hb0
   ·exact .inr h1
theorem fold_loop {α A R : Type} {l : List α} {step : A × Int → Option ((A × Int) ⊕ R)} (f : A → Nat → α → A) (fin : A → R) (I : Nat → A → Prop) {a0 : A} (h0 : I 0 a0)
  (hgo : ∀ (k : Nat) (x : α) (a : A), l[k]? = some x → I k a → step (a, (k : Int)) = some (.inl (f a k x, (k : Int) + 1)) ∧ I (k + 1) (f a k x))
  (hend : ∀ a, I l.length a → step (a, (l.length : Int)) = some (.inr (fin a))) : ∃ a, ZM step (a0, 0) = some (fin a) ∧ I l.length a := by
 obtain ⟨r, h1, a, rfl, h2⟩ := Z1F (step := step) (I := fun s => ∃ (k : Nat) (a : A), s = (a, (k : Int)) ∧ k ≤ l.length ∧ I k a) (fun s => l.length - s.2.toNat) (fun r => ∃ a, r = fin a ∧ I l.length a) (by
  rintro s ⟨k, a, rfl, hk, hI⟩
  by_cases hlt : k < l.length
  ·obtain ⟨q1, q2⟩ := hgo k l[k] a (List.getElem?_eq_getElem hlt) hI
   exact .inl ⟨_, q1, ⟨k + 1, _, by push_cast; rfl, hlt, q2⟩, by simp; omega⟩
  ·have : k = l.length := by omega
   subst this;exact .inr ⟨_, hend a hI, a, rfl, hI⟩) (a0, 0) ⟨0, a0, rfl, Nat.zero_le _, h0⟩
 exact ⟨a, h1, h2⟩
end Go.Dn

namespace Go.Dn
open Go
def In64 (a : Int) : Prop := -9223372036854775808 ≤ a ∧ a ≤ 9223372036854775807
def Z5l (a : Int) : Prop := 0 ≤ a ∧ a ≤ 18446744073709551615
def fitS (a : Int) : Int × Int := if -9223372036854775808 ≤ a ∧ a ≤ 9223372036854775807 then (a, 0) else (0, 10)
theorem Z7b {a : Int} (h : In64 a) : fitS a = (a, 0) := if_pos h
theorem fitS_not {a : Int} (h : ¬ In64 a) : fitS a = (0, 10) := if_neg h
theorem fit_or (x : Int) : (In64 x ∧ fitS x = (x, 0)) ∨ (¬ In64 x ∧ fitS x = (0, 10)) := by
 by_cases h : In64 x
 ·exact .inl ⟨h, Z7b h⟩
 ·exact .inr ⟨h, fitS_not h⟩
theorem and32 (x : Int) (h : Z5l x) : (((BitVec.ofInt 64 x &&& BitVec.ofInt 64 4294967295).toNat : Nat) : Int) = x % 4294967296 := by
 obtain ⟨n, rfl⟩ := Int.eq_ofNat_of_zero_le h.1
 have hn : n < 2 ^ 64 := by have := h.2; omega
 have h1 : (BitVec.ofInt 64 (n : Int)).toNat = n := by simp [BitVec.toNat_ofInt]; omega
 have h2 : (BitVec.ofInt 64 4294967295).toNat = 2 ^ 32 - 1 := by decide
 rw [BitVec.toNat_and, h1, h2, Nat.and_two_pow_sub_one_eq_mod]
 omega
theorem mul64_fact {x y : Int} (hx : Z5l x) (hy : Z5l y) :
  (x / 4294967296 * (y / 4294967296) + (x / 4294967296 * (y % 4294967296) + x % 4294967296 * (y % 4294967296) / 4294967296) / 4294967296 +
   ((x / 4294967296 * (y % 4294967296) + x % 4294967296 * (y % 4294967296) / 4294967296) % 4294967296 + x % 4294967296 * (y / 4294967296)) / 4294967296) = x * y / 18446744073709551616 ∧
  0 ≤ x % 4294967296 * (y % 4294967296) ∧ x % 4294967296 * (y % 4294967296) ≤ 18446744065119617025 ∧
  0 ≤ x / 4294967296 * (y % 4294967296) ∧ x / 4294967296 * (y % 4294967296) ≤ 18446744065119617025 ∧
  0 ≤ x % 4294967296 * (y / 4294967296) ∧ x % 4294967296 * (y / 4294967296) ≤ 18446744065119617025 ∧
  0 ≤ x / 4294967296 * (y / 4294967296) ∧ x / 4294967296 * (y / 4294967296) ≤ 18446744065119617025 := by
 have b : ∀ {u v : Int}, 0 ≤ u → u ≤ 4294967295 → 0 ≤ v → v ≤ 4294967295 → 0 ≤ u * v ∧ u * v ≤ 18446744065119617025 := by
  intro u v h1 h2 h3 h4;exact ⟨Int.mul_nonneg h1 h3, Int.le_trans (Int.mul_le_mul h2 h4 h3 (by omega)) (by decide)⟩
 obtain ⟨hx1, hx2⟩ := hx
 obtain ⟨hy1, hy2⟩ := hy
 obtain ⟨a1, a2⟩ := b (u := x % 4294967296) (v := y % 4294967296) (by omega) (by omega) (by omega) (by omega)
 obtain ⟨b1, b2⟩ := b (u := x / 4294967296) (v := y % 4294967296) (by omega) (by omega) (by omega) (by omega)
 obtain ⟨c1, c2⟩ := b (u := x % 4294967296) (v := y / 4294967296) (by omega) (by omega) (by omega) (by omega)
 obtain ⟨d1, d2⟩ := b (u := x / 4294967296) (v := y / 4294967296) (by omega) (by omega) (by omega) (by omega)
 refine ⟨?_, a1, a2, b1, b2, c1, c2, d1, d2⟩
 have e : x * y = x / 4294967296 * (y / 4294967296) * 18446744073709551616 + (x / 4294967296 * (y % 4294967296) + x % 4294967296 * (y / 4294967296)) * 4294967296 + x % 4294967296 * (y % 4294967296) := by
  have ex : x = x / 4294967296 * 4294967296 + x % 4294967296 := by omega
  have ey : y = y / 4294967296 * 4294967296 + y % 4294967296 := by omega
  clear a1 a2 b1 b2 c1 c2 d1 d2 b hx1 hx2 hy1 hy2
  generalize x / 4294967296 = x1 at *
  generalize x % 4294967296 = x0 at *
  generalize y / 4294967296 = y1 at *
  generalize y % 4294967296 = y0 at *
  subst ex ey;simp only [Int.add_mul, Int.mul_add];have h1 : x1 * 4294967296 * (y1 * 4294967296) = x1 * y1 * 18446744073709551616 := by
   rw [Int.mul_assoc, Int.mul_comm 4294967296, Int.mul_assoc y1, ← Int.mul_assoc]
   rfl
  have h2 : x1 * 4294967296 * y0 = x1 * y0 * 4294967296 := by rw [Int.mul_assoc, Int.mul_comm 4294967296, ← Int.mul_assoc]
  have h3 : x0 * (y1 * 4294967296) = x0 * y1 * 4294967296 := by rw [← Int.mul_assoc]
  rw [h1, h2, h3];omega
 rw [e]
 generalize x / 4294967296 * (y / 4294967296) = d at *
 generalize x / 4294967296 * (y % 4294967296) = b' at *
 generalize x % 4294967296 * (y / 4294967296) = c at *
 generalize x % 4294967296 * (y % 4294967296) = a at *
 omega
theorem Z90 {a b : Int} (ha : In64 a) (hb : In64 b) : ZA a b = fitS (a + b) := by
 unfold In64 at ha hb
 unfold ZA fitS w64
 rw [Z57]
 cases h : ((decide ((a + b + 9223372036854775808) % 18446744073709551616 - 9223372036854775808 > a) != decide (b > 0)) && b != 0)
 ·rw [cond_false];simp only [Bool.and_eq_false_iff, bne_eq_false_iff_eq, decide_eq_decide] at h
  split <;> simp only [Prod.mk.injEq, and_true] <;> omega
 ·rw [cond_true];simp only [Bool.and_eq_true, bne_iff_ne, ne_eq, decide_eq_decide] at h
  split <;> simp only [Prod.mk.injEq] <;> omega
theorem Z46 {a : Int} (h : In64 a) : Z2 a = a.natAbs := by
 unfold In64 at h
 unfold Z2
 rw [pickB]
 simp only [decide_eq_true_eq, Z5H]
 split <;> omega
theorem inU_abs {a : Int} (h : In64 a) : Z5l a.natAbs := by unfold In64 at h; unfold Z5l; omega
theorem natAbs_prod (a b : Int) : (a.natAbs : Int) * b.natAbs = (a * b).natAbs := by rw [Int.natAbs_mul]; simp
theorem mul64_eq {x y : Int} (hx : Z5l x) (hy : Z5l y) : Z4 x y = (x * y / 18446744073709551616, x * y % 18446744073709551616) := by
 unfold Z4
 have hb : ∀ z : Int, z.fdiv (2 ^ 32) = z / 4294967296 := fun z => Int.fdiv_eq_ediv_of_nonneg z (by decide)
 have hm : (IntKind.u64.bits) = 64 := rfl
 obtain ⟨h1, h2, h3, h4, h5, h6, h7, h8, h9⟩ := mul64_fact hx hy
 have hw : ∀ z : Int, 0 ≤ z → z ≤ 18446744073709551615 → IntKind.u64.wrap z = z := fun z q1 q2 => by rw [Z5H]; omega
 simp only [hb, iAnd]
 rw [hm, and32 x hx, and32 y hy]
 have x0 : 0 ≤ x % 4294967296 ∧ x % 4294967296 < 4294967296 := by omega
 have y0 : 0 ≤ y % 4294967296 ∧ y % 4294967296 < 4294967296 := by omega
 rw [hw (x % 4294967296) (by omega) (by omega), hw (y % 4294967296) (by omega) (by omega), hw _ h2 (by omega), hw _ h4 (by omega), hw _ h6 (by omega), hw _ h8 (by omega)]
 rw [hw (x / 4294967296 * (y % 4294967296) + x % 4294967296 * (y % 4294967296) / 4294967296) (by omega) (by omega)]
 rw [and32 _ ⟨by omega, by omega⟩]
 have t0 : 0 ≤ (x / 4294967296 * (y % 4294967296) + x % 4294967296 * (y % 4294967296) / 4294967296) % 4294967296 ∧ (x / 4294967296 * (y % 4294967296) + x % 4294967296 * (y % 4294967296) / 4294967296) % 4294967296 < 4294967296 := by omega
 rw [hw ((x / 4294967296 * (y % 4294967296) + x % 4294967296 * (y % 4294967296) / 4294967296) % 4294967296) (by omega) (by omega)]
 rw [hw ((x / 4294967296 * (y % 4294967296) + x % 4294967296 * (y % 4294967296) / 4294967296) % 4294967296 + x % 4294967296 * (y / 4294967296)) (by omega) (by omega)]
 rw [hw (x / 4294967296 * (y / 4294967296) + (x / 4294967296 * (y % 4294967296) + x % 4294967296 * (y % 4294967296) / 4294967296) / 4294967296) (by omega) (by omega)]
 rw [hw _ (by omega) (by omega), h1, Z5H]
theorem Z6A {n : Int} (m : Bool) (h : Z5l n) : ZX n m = fitS (if m then -n else n) := by
 unfold Z5l at h
 unfold ZX fitS w64
 rw [pickB, pickB, Z5H, Z57, Z57]
 cases m <;> simp only [Bool.true_and, Bool.false_and, Bool.not_true, Bool.not_false, decide_eq_true_eq, Bool.false_eq_true, if_false, if_true]
 ·split
  ·rw [if_pos (by omega)]; simp only [Prod.mk.injEq, and_true]; omega
  ·rw [if_neg (by omega)]
 ·split
  ·rw [if_pos (by omega)]; simp only [Prod.mk.injEq, and_true]; omega
  ·rw [if_neg (by omega)]
theorem Z3s {a b : Int} (ha : In64 a) (hb : In64 b) : Z9 a b = fitS (a * b) := by
 unfold Z9
 rw [Z46 ha, Z46 hb, mul64_eq (inU_abs ha) (inU_abs hb), pickB]
 simp only [natAbs_prod]
 rw [Z6A _ (by unfold Z5l; omega)]
 by_cases h : ((a * b).natAbs : Int) / 18446744073709551616 = 0
 ·rw [if_neg (by simp [h])]
  have e : ((a * b).natAbs : Int) % 18446744073709551616 = (a * b).natAbs := by omega
  rw [e]
  show fitS _ = _
  refine congrArg fitS ?_
  by_cases h1 : a < 0 <;> by_cases h2 : b < 0 <;> simp only [h1, h2, decide_true, decide_false]
  ·have := Int.mul_nonneg_of_nonpos_of_nonpos (Int.le_of_lt h1) (Int.le_of_lt h2)
   simp; omega
  ·have := Int.mul_nonpos_of_nonpos_of_nonneg (Int.le_of_lt h1) (Int.not_lt.1 h2)
   simp; omega
  ·have := Int.mul_nonpos_of_nonneg_of_nonpos (Int.not_lt.1 h1) (Int.le_of_lt h2)
   simp; omega
  ·have := Int.mul_nonneg (Int.not_lt.1 h1) (Int.not_lt.1 h2)
   simp; omega
 ·rw [if_pos (by simp [h])]
  unfold fitS;rw [if_neg];omega
def Z73 (a b : Int) : Int × Int × Int := if b = 0 then (0, 0, 11) else if b = -1 ∧ a = -9223372036854775808 then (0, 0, 10) else (a.fdiv b, a.fmod b, 0)
theorem floor_up {a b : Int} (hb : b ≠ 0) (h1 : a.tmod b ≠ 0) (h2 : ¬(a.tmod b < 0 ↔ b < 0)) : a.fdiv b = a.tdiv b - 1 ∧ a.fmod b = a.tmod b + b := by
 have q1 := Int.emod_nonneg a hb
 have q2 := Int.emod_lt a hb
 have hd : b ∣ a ↔ a % b = 0 := Int.dvd_iff_emod_eq_zero
 rw [Int.fdiv_eq_ediv, Int.fmod_eq_emod, Int.tdiv_eq_ediv]
 rw [Int.tmod_eq_emod] at h1 h2 ⊢
 simp only [hd] at h1 h2 ⊢
 rcases Int.lt_or_gt_of_ne hb with h | h
 ·rw [Int.sign_eq_neg_one_of_neg h]
  split at h1 <;> split <;> simp_all <;> omega
 ·rw [Int.sign_eq_one_of_pos h]
  split at h1 <;> split <;> simp_all <;> omega
theorem floor_same {a b : Int} (hb : b ≠ 0) (h : a.tmod b = 0 ∨ (a.tmod b < 0 ↔ b < 0)) : a.fdiv b = a.tdiv b ∧ a.fmod b = a.tmod b := by
 have q1 := Int.emod_nonneg a hb
 have q2 := Int.emod_lt a hb
 have hd : b ∣ a ↔ a % b = 0 := Int.dvd_iff_emod_eq_zero
 rw [Int.fdiv_eq_ediv, Int.fmod_eq_emod, Int.tdiv_eq_ediv]
 rw [Int.tmod_eq_emod] at h ⊢
 simp only [hd] at h ⊢
 rcases Int.lt_or_gt_of_ne hb with hh | hh
 ·rw [Int.sign_eq_neg_one_of_neg hh]
  split at h <;> split <;> simp_all <;> omega
 ·rw [Int.sign_eq_one_of_pos hh]
  split at h <;> split <;> simp_all <;> omega
theorem tdiv_in {a b : Int} (ha : In64 a) (hb : b ≠ 0) (hn : ¬(b = -1 ∧ a = -9223372036854775808)) : In64 (a.tdiv b) := by
 have h : (a.tdiv b).natAbs = a.natAbs / b.natAbs := Int.natAbs_tdiv a b
 obtain ⟨h1, h2⟩ := ha
 by_cases hb1 : b = 1
 ·subst hb1; rw [Int.tdiv_one]; exact ⟨h1, h2⟩
 ·by_cases hb2 : b = -1
  ·have ha' : a ≠ -9223372036854775808 := fun e => hn ⟨hb2, e⟩
   have : a.natAbs / b.natAbs ≤ a.natAbs := Nat.div_le_self _ _
   unfold In64; omega
  ·have h3 : a.natAbs / b.natAbs ≤ a.natAbs / 2 := Nat.div_le_div_left (by omega) (by omega)
   unfold In64; omega
theorem tdiv_in1 {a b : Int} (ha : In64 a) (hb : b ≠ 0) (h1 : a.tmod b ≠ 0) : In64 (a.tdiv b - 1) := by
 have h : (a.tdiv b).natAbs = a.natAbs / b.natAbs := Int.natAbs_tdiv a b
 obtain ⟨h2, h3⟩ := ha
 by_cases hb1 : b = 1
 ·subst hb1; simp at h1
 ·by_cases hb2 : b = -1
  ·subst hb2; simp at h1
  ·have h3 : a.natAbs / b.natAbs ≤ a.natAbs / 2 := Nat.div_le_div_left (by omega) (by omega)
   unfold In64; omega
theorem wrap_in {a : Int} (h : In64 a) : IntKind.i64.wrap a = a := by rw [Z57]; unfold In64 at h; omega
theorem fmod_in {a b : Int} (hb : In64 b) (hb0 : b ≠ 0) : In64 (a.fmod b) := by
 have q1 := Int.emod_nonneg a hb0
 have q2 := Int.emod_lt a hb0
 rw [Int.fmod_eq_emod]
 unfold In64 at *
 split <;> omega
theorem floor_leaf1 {a b : Int} (ha : In64 a) (hb : In64 b) (h0 : b ≠ 0) (hn : ¬(b = -1 ∧ a = -9223372036854775808)) (h1 : a.tmod b ≠ 0) (h2 : ¬(a.tmod b < 0 ↔ b < 0)) :
  (IntKind.i64.wrap (IntKind.i64.wrap (a.tdiv b) - 1), IntKind.i64.wrap (a.tmod b + b), (0 : Int)) = Z73 a b := by
 obtain ⟨e1, e2⟩ := floor_up h0 h1 h2
 rw [Z73, if_neg h0, if_neg hn, e1, e2, wrap_in (tdiv_in ha h0 hn), wrap_in (tdiv_in1 ha h0 h1), wrap_in (by rw [← e2]; exact fmod_in hb h0)]
theorem floor_leaf2 {a b : Int} (ha : In64 a) (hb : In64 b) (h0 : b ≠ 0) (hn : ¬(b = -1 ∧ a = -9223372036854775808)) (h : a.tmod b = 0 ∨ (a.tmod b < 0 ↔ b < 0)) :
  (IntKind.i64.wrap (a.tdiv b), a.tmod b, (0 : Int)) = Z73 a b := by
 obtain ⟨e1, e2⟩ := floor_same h0 h
 rw [Z73, if_neg h0, if_neg hn, e1, e2, wrap_in (tdiv_in ha h0 hn)]
theorem Z2r {a b : Int} (ha : In64 a) (hb : In64 b) : Z0j a b = some (Z73 a b) := by
 unfold Z0j
 by_cases h0 : b = 0
 ·subst h0; rfl
 rw [Z41 h0, cond_false]
 by_cases hn : b = -1 ∧ a = -9223372036854775808
 ·obtain ⟨rfl, rfl⟩ := hn
  rfl
 have : (b == -1 && a == -9223372036854775808) = false := by
  simp only [Bool.and_eq_false_iff, beq_eq_false_iff_ne]
  by_cases h : b = -1
  ·exact .inr fun e => hn ⟨h, e⟩
  ·exact .inl h
 rw [this, cond_false, nz?_ok h0]
 simp only [Option.bind_some, pickB, Bool.and_eq_true, bne_iff_ne, ne_eq, decide_eq_decide]
 split
 ·rename_i h;simp only [Option.bind_some];exact congrArg some (floor_leaf1 ha hb h0 hn h.1 h.2)
 ·rename_i h;simp only [Option.bind_some];refine congrArg some (floor_leaf2 ha hb h0 hn ?_)
  by_cases h1 : a.tmod b = 0
  ·exact .inl h1
  ·exact .inr (Classical.byContradiction fun h2 => h ⟨h1, h2⟩)
theorem Z5v {a b : Int} (hb : 0 < b) : a.fdiv b = a / b ∧ a.fmod b = a % b := ⟨Int.fdiv_eq_ediv_of_nonneg a (Int.le_of_lt hb), Int.fmod_eq_emod_of_nonneg a (Int.le_of_lt hb)⟩
theorem Z4K {a b : Int} (hb : 0 < b) : Z73 a b = (a / b, a % b, 0) := by
 unfold Z73
 rw [if_neg (by omega), if_neg (by omega), (Z5v hb).1, (Z5v hb).2]
end Go.Dn

namespace Go.Dn
open Go
theorem Z11 : reachBytes = 140737488351232 := rfl
def ZJ (t : Int) : Prop := -1099511627776 ≤ t ∧ t ≤ 1099511627776
instance (t : Int) : Decidable (ZJ t) := by unfold ZJ; infer_instance
theorem Z4p (t : Int) : ZW t = decide (ZJ t) := by
 rw [Bool.eq_iff_iff, decide_eq_true_iff]; simp [ZW, ZJ]
theorem Z5e (t : Int) : Zo t = decide (ZJ t) := by
 rw [Bool.eq_iff_iff, decide_eq_true_iff]; simp [Zo, ZJ]
theorem Z1g {t : Int} (h : ZJ t) : In64 t := by unfold ZJ at h; unfold In64; omega
structure RightL (l : List Span) : Prop where
 ok : ∀ (k : Nat) (s : Span), l[k]? = some s → ZJ s.From ∧ ZJ s.To ∧ s.From ≤ s.To
 gap : ∀ (k : Nat) (s t : Span), l[k]? = some s → l[k + 1]? = some t → s.To + 2 ≤ t.From
abbrev Len (l : List Span) : Prop := l.length * 16 ≤ reachBytes
abbrev Sp64 (l : List Span) : Prop := ∀ s ∈ l, In64 s.From ∧ In64 s.To
theorem Span.ok64 {s : Span} (h : s.ok) : In64 s.From ∧ In64 s.To := h
theorem okSpans {l : List Span} (h : okL 16 Span.ok l) : Len l ∧ Sp64 l := ⟨h.1, fun s hs => Span.ok64 (h.2 s hs)⟩
theorem RightL.sp64 {l : List Span} (h : RightL l) : Sp64 l := fun s hs => by
 obtain ⟨k, hk⟩ := List.getElem?_of_mem hs
 have := h.ok k s hk
 exact ⟨Z1g this.1, Z1g this.2.1⟩
def Z3r (l : List Span) (k : Nat) (s : Span) : Prop := ZJ s.From ∧ ZJ s.To ∧ s.From ≤ s.To ∧ ∀ p, k ≠ 0 → l[k - 1]? = some p → p.To + 2 ≤ s.From
theorem Z5c {l : List Span} : RightL l ↔ ∀ k s, l[k]? = some s → Z3r l k s := by
 constructor
 ·intro h k s hk;obtain ⟨h1, h2, h3⟩ := h.ok k s hk
  refine ⟨h1, h2, h3, fun p h0 hp => ?_⟩
  have : k - 1 + 1 = k := by omega
  exact h.gap (k - 1) p s hp (by rw [this]; exact hk)
 ·intro h;refine ⟨fun k s hk => ⟨(h k s hk).1, (h k s hk).2.1, (h k s hk).2.2.1⟩, fun k s t hs ht => (h (k + 1) t ht).2.2.2 s (by omega) (by simpa using hs)⟩
theorem Z66 {l : List Span} (hl : Len l) (h64 : Sp64 l) : ∃ b, Z09 l = some b ∧ (b = true ↔ RightL l) := by
 have hlen : l.length ≤ maxLen := by rw [Z8Z]; have := Z11; unfold Len at hl; omega
 have step : ∀ (k : Nat) (s : Span), l[k]? = some s → (∀ j y, j < k → l[j]? = some y → Z3r l j y) → ∃ b, Z09.s0 l (k : Int) = (if b = true then some (.inl ((k : Int) + 1)) else some (.inr (.ret false))) ∧ (b = true ↔ Z3r l k s) := by
  intro k s hk hprev;have hlt := (List.getElem?_eq_some_iff.1 hk).1
  have hat : at? l (k : Int) = some s := by rw [at?_nat hlt]; rw [List.getElem?_eq_getElem hlt] at hk; exact hk
  unfold Z09.s0;rw [Zq (show (k : Int) < l.length by omega), cond_true, hat]
  simp only [Option.bind_some, Z4p];have hk1 : w64 ((k : Int) + 1) = k + 1 := ZY (by rw [Z8Z] at hlen; omega)
  by_cases h1 : ZJ s.From ∧ ZJ s.To ∧ s.From ≤ s.To
  ·have : (!decide (ZJ s.From) || !decide (ZJ s.To) || decide (s.From > s.To)) = false := by
    rw [Zq h1.1, Zq h1.2.1, Zv (by omega)]; rfl
   rw [this, cond_false]
   by_cases h0 : k = 0
   ·subst h0;refine ⟨true, by simp [w64]; rw [Z57]; rfl, by simp [Z3r, h1]⟩
   ·have hk0 : (k : Int) > 0 := by omega
    have hpl : k - 1 < l.length := by omega
    have hp : at? l (w64 ((k : Int) - 1)) = some l[k - 1] := by
     rw [ZY (by rw [Z8Z] at hlen; omega), show ((k : Int) - 1) = ((k - 1 : Nat) : Int) by omega, at?_nat hpl]
    have hpg := hprev (k - 1) _ (by omega) (List.getElem?_eq_getElem hpl)
    have hpt : w64 (l[k - 1].To + 2) = l[k - 1].To + 2 := by
     have := hpg.2.1; unfold ZJ at this; exact ZY (by omega)
    rw [Zq hk0, cond_true, hp];simp only [Option.bind_some, hpt];refine ⟨!decide (s.From < l[k - 1].To + 2), ?_, ?_⟩
    ·cases hd : decide (s.From < l[k - 1].To + 2) <;> simp [hk1]
    ·simp only [Bool.not_eq_true', decide_eq_false_iff_not, Z3r]
     constructor
     ·intro h; refine ⟨h1.1, h1.2.1, h1.2.2, fun p _ hp' => ?_⟩
      rw [List.getElem?_eq_getElem hpl] at hp'; cases hp'; omega
     ·intro h; have := h.2.2.2 _ h0 (List.getElem?_eq_getElem hpl); omega
  ·refine ⟨false, ?_, by simp only [Bool.false_eq_true, Z3r, false_iff]; intro h; exact h1 ⟨h.1, h.2.1, h.2.2.1⟩⟩
   have : (!decide (ZJ s.From) || !decide (ZJ s.To) || decide (s.From > s.To)) = true := by
    by_cases a1 : ZJ s.From
    ·by_cases a2 : ZJ s.To
     ·have a3 : s.From > s.To := by
       apply Classical.byContradiction;intro h;exact h1 ⟨a1, a2, by omega⟩
      rw [Zq a3]; simp
     ·rw [Zv a2]; simp
    ·rw [Zv a1]; simp
   rw [this]; rfl
 unfold Z09
 rcases Z3w (l := l) (step := Z09.s0 l) (Z3r l) (no := .ret false) (yes := .go ()) (fun k x hk hp => by
   obtain ⟨b, h1, h2⟩ := step k x hk hp
   cases b
   ·exact .inr ⟨h1, fun h => by have := h2.2 h; cases this⟩
   ·exact .inl ⟨h1, h2.1 rfl⟩) (by
   unfold Z09.s0; rw [Zv (by omega)]; rfl) with ⟨h1, h2⟩ | ⟨h1, h2⟩
 ·rw [h1]; exact ⟨true, rfl, by simp [Z5c.2 h2]⟩
 ·rw [h1]; exact ⟨false, rfl, by simp only [Bool.false_eq_true, false_iff]; exact fun h => h2 (Z5c.1 h)⟩
def Zh (by_ : Int) (s : Span) : Span := ⟨s.From + by_, s.To + by_⟩
theorem Z3d {l : List Span} {b : Int} (hl : Len l) (h64 : Sp64 l) (hb : In64 b) :
  ((∀ s ∈ l, ZJ (s.From + b) ∧ ZJ (s.To + b)) ∧ Z0E l b = some (l.map (Zh b), 0)) ∨ ((¬ ∀ s ∈ l, ZJ (s.From + b) ∧ ZJ (s.To + b)) ∧ Z0E l b = some ([], 20)) := by
 have hlen : (l.length : Int) < 9223372036854775807 := by have := Z11; unfold Len at hl; omega
 have step : ∀ (k : Nat) (s : Span) (acc : List Span), l[k]? = some s → acc.length = k → Z0E.s0 l b ((k : Int), acc) = if ZJ (s.From + b) ∧ ZJ (s.To + b) then some (.inl ((k : Int) + 1, acc ++ [Zh b s])) else some (.inr (.ret ([], 20))) := by
  intro k s acc hk hacc;have hlt := (List.getElem?_eq_some_iff.1 hk).1
  have hat : at? l (k : Int) = some s := by rw [at?_nat hlt]; rw [List.getElem?_eq_getElem hlt] at hk; exact hk
  obtain ⟨f64, t64⟩ := h64 s (List.mem_of_getElem? hk)
  unfold Z0E.s0;rw [Zq (show (k : Int) < l.length by omega), cond_true, hat]
  simp only [Option.bind_some];rw [Z90 f64 hb, Z90 t64 hb, Z4p, Z4p];have hk1 : w64 ((k : Int) + 1) = k + 1 := ZY (by omega)
  have happ : ∀ x : Span, app? 16 acc [x] = some (acc ++ [x]) := fun x => app?_ok (by
   have := Z11; have := Z3h; unfold Len at hl; simp; omega)
  rcases fit_or (s.From + b) with ⟨q1, q2⟩ | ⟨q1, q2⟩ <;> rcases fit_or (s.To + b) with ⟨q3, q4⟩ | ⟨q3, q4⟩ <;> rw [q2, q4]
  ·by_cases h : ZJ (s.From + b) ∧ ZJ (s.To + b)
   ·rw [if_pos h, Zq h.1, Zq h.2];simp [happ, hk1, Zh]
   ·rw [if_neg h];have : (!decide (ZJ (s.From + b)) || !decide (ZJ (s.To + b))) = true := by
     by_cases h1 : ZJ (s.From + b)
     ·rw [Zv (fun h2 => h ⟨h1, h2⟩)]; simp
     ·rw [Zv h1]; simp
    simp only [bne_self_eq_false, Bool.false_or, Bool.or_assoc] at this ⊢;rw [this]; rfl
  ·rw [if_neg (fun h => q3 (Z1g h.2))]; rfl
  ·rw [if_neg (fun h => q1 (Z1g h.1))]; rfl
  ·rw [if_neg (fun h => q1 (Z1g h.1))]; rfl
 have hend : ∀ acc, Z0E.s0 l b ((l.length : Int), acc) = some (.inr (.go acc)) := fun acc => by unfold Z0E.s0; rw [Zv (by omega)]; rfl
 unfold Z0E
 by_cases hall : ∀ s ∈ l, ZJ (s.From + b) ∧ ZJ (s.To + b)
 ·refine .inl ⟨hall, ?_⟩;have : ZM (Z0E.s0 l b) (0, []) = some (.go (l.map (Zh b))) := by
   refine Z27 (I := fun (s : Int × List Span) r => r = .go (l.map (Zh b)) ∧ ∃ k : Nat, k ≤ l.length ∧ s = ((k : Int), (l.take k).map (Zh b))) (fun s => l.length - s.1.toNat) ?_ ⟨rfl, 0, Nat.zero_le _, by simp⟩
   rintro s r ⟨rfl, k, hk, rfl⟩
   by_cases hlt : k < l.length
   ·refine .inl ⟨_, by rw [step k l[k] _ (List.getElem?_eq_getElem hlt) (by simp; omega), if_pos (hall _ (List.getElem_mem hlt))], ⟨rfl, k + 1, hlt, ?_⟩, by simp; omega⟩
    rw [List.take_succ_eq_append_getElem hlt, List.map_append]; push_cast; rfl
   ·have : k = l.length := by omega
    subst this;rw [List.take_length];exact .inr (hend _)
  rw [this]; rfl
 ·refine .inr ⟨hall, ?_⟩;obtain ⟨k0, s0, hk0, hb0, hg⟩ := Z8v (l := l) (good := fun _ s => ZJ (s.From + b) ∧ ZJ (s.To + b)) (fun h => hall fun s hs => by
   obtain ⟨k, hk⟩ := List.getElem?_of_mem hs; exact h k s hk)
  have hlt0 := (List.getElem?_eq_some_iff.1 hk0).1
  have : ZM (Z0E.s0 l b) (0, []) = some (.ret ([], 20)) := by
   refine Z27 (I := fun (s : Int × List Span) r => r = .ret ([], 20) ∧ ∃ k : Nat, k ≤ k0 ∧ s.1 = (k : Int) ∧ s.2.length = k) (fun s => l.length - s.1.toNat) ?_ ⟨rfl, 0, Nat.zero_le _, rfl, rfl⟩
   rintro ⟨i, acc⟩ r ⟨rfl, k, hk, h1, h2⟩;simp only at h1 h2;subst h1
   by_cases hlt : k < k0
   ·have hkl : k < l.length := by omega
    exact .inl ⟨_, by rw [step k l[k] _ (List.getElem?_eq_getElem hkl) h2, if_pos (hg k _ hlt (List.getElem?_eq_getElem hkl))], ⟨rfl, k + 1, hlt, by push_cast; rfl, by simp; omega⟩, by simp; omega⟩
   ·have : k = k0 := by omega
    subst this;exact .inr (by rw [step k s0 _ hk0 h2, if_neg hb0])
  rw [this]; rfl
theorem RightL.shift {l : List Span} {b : Int} (h : RightL l) (ht : ∀ s ∈ l, ZJ (s.From + b) ∧ ZJ (s.To + b)) : RightL (l.map (Zh b)) := by
 constructor
 ·intro k s hk;rw [List.getElem?_map, Option.map_eq_some_iff] at hk;obtain ⟨s, hk, rfl⟩ := hk
  have h1 := h.ok k s hk
  have h2 := ht s (List.mem_of_getElem? hk)
  exact ⟨h2.1, h2.2, by simp only [Zh]; omega⟩
 ·intro k s t hk hk1;rw [List.getElem?_map, Option.map_eq_some_iff] at hk hk1;obtain ⟨s, hk, rfl⟩ := hk
  obtain ⟨t, hk1, rfl⟩ := hk1
  have := h.gap k s t hk hk1
  simp only [Zh]; omega
def Z2z (a b : List Span) : Prop := ∀ x, a.getLast? = some x → ∀ y, b.head? = some y → x.To < y.From
theorem Z4N {a b : List Span} (ha : Len a) : ∃ r, Z0V a b = some r ∧ (r = true ↔ Z2z a b) := by
 unfold Z0V
 cases a with
 | nil => exact ⟨true, by simp, by simp [Z2z]⟩
 | cons x a =>
  cases b with
  | nil => exact ⟨true, by simp, by simp [Z2z]⟩
  | cons y b =>
   have hl : ((x :: a).length : Int) < 9223372036854775807 := by have := Z11; unfold Len at ha; omega
   have e1 : (((x :: a).length : Int) == 0 || ((y :: b).length : Int) == 0) = false := by simp; omega
   have hlt : (x :: a).length - 1 < (x :: a).length := by simp
   have e2 : at? (x :: a) (w64 (((x :: a).length : Int) - 1)) = some (x :: a)[(x :: a).length - 1] := by
    rw [ZY (by simp at hl ⊢; omega), show (((x :: a).length : Int) - 1) = (((x :: a).length - 1 : Nat) : Int) by simp, at?_nat hlt]
   have e3 : at? (y :: b) 0 = some y := rfl
   rw [e1, cond_false, e2, e3];refine ⟨decide ((x :: a)[(x :: a).length - 1].To < y.From), rfl, ?_⟩;have hlast : (x :: a).getLast? = some (x :: a)[(x :: a).length - 1] := by rw [List.getLast?_eq_getElem?, List.getElem?_eq_getElem hlt]
   simp only [decide_eq_true_eq, Z2z, hlast, List.head?_cons, Option.some.injEq];exact ⟨fun h x' hx y' hy => by rw [← hx, ← hy]; exact h, fun h => h _ rfl _ rfl⟩
theorem span_beq (x y : Span) : ((x.From == y.From) && ((x.To == y.To) && true)) = decide (x = y) := by
 obtain ⟨x1, x2⟩ := x
 obtain ⟨y1, y2⟩ := y
 by_cases h1 : x1 = y1 <;> by_cases h2 : x2 = y2 <;> simp [h1, h2]
theorem spans_Same_eq {a b : List Span} (ha : Len a) : ∃ r, Z0h a b = some r ∧ (r = true ↔ a = b) := by
 have hl : (a.length : Int) < 9223372036854775807 := by have := Z11; unfold Len at ha; omega
 unfold Z0h ZT
 by_cases hlen : a.length = b.length
 ·have e1 : ((a.length : Int) != (b.length : Int)) = false := Z5x (by omega)
  rw [e1, cond_false]
  rcases Z3w (l := a) (step := ZT.s0 a b) (fun k x => b[k]? = some x) (no := .ret false) (yes := .go ()) (fun k x hk hp => by
   have hlt := (List.getElem?_eq_some_iff.1 hk).1
   have hat : at? a (k : Int) = some x := by rw [at?_nat hlt]; rw [List.getElem?_eq_getElem hlt] at hk; exact hk
   have hbt : at? b (k : Int) = some (b[k]'(by omega)) := at?_nat (by omega)
   unfold ZT.s0;rw [Zq (show (k : Int) < a.length by omega), cond_true, hat, hbt, ZY (show _ by omega)]
   simp only [Option.bind_some, span_beq];rw [List.getElem?_eq_getElem (show k < b.length by omega)]
   by_cases h : x = b[k]'(by omega)
   ·rw [Zq h]; exact .inl ⟨rfl, congrArg some h.symm⟩
   ·rw [Zv h]; exact .inr ⟨rfl, fun e => h (Option.some.inj e).symm⟩) (by
   unfold ZT.s0; rw [Zv (by omega)]; rfl) with ⟨h1, h2⟩ | ⟨h1, h2⟩
  ·rw [h1];refine ⟨true, rfl, ⟨fun _ => List.ext_getElem? fun k => ?_, fun _ => rfl⟩⟩
   by_cases hk : k < a.length
   ·rw [List.getElem?_eq_getElem hk]; exact (h2 k _ (List.getElem?_eq_getElem hk)).symm
   ·rw [List.getElem?_eq_none (by omega), List.getElem?_eq_none (by omega)]
  ·rw [h1];refine ⟨false, rfl, by simp only [Bool.false_eq_true, false_iff]; rintro rfl; exact h2 fun k x hk => hk⟩
 ·have e1 : ((a.length : Int) != (b.length : Int)) = true := bne_t (by omega)
  rw [e1, cond_true];exact ⟨false, rfl, by simp only [Bool.false_eq_true, false_iff]; rintro rfl; exact hlen rfl⟩
end Go.Dn

namespace Go.Dn
open Go
theorem Z9t (x y : Int) : Z0Z x y = if x < y then -1 else if y < x then 1 else 0 := by
 unfold Z0Z Z01
 simp only [bne_self_eq_false, cond_false, pickB, decide_eq_true_eq, gt_iff_lt, Bool.false_eq_true, if_false]
def Inc (l : List Granule) : Prop := ∀ (j k : Nat) (a b : Granule), j < k → l[j]? = some a → l[k]? = some b → a.Index < b.Index
theorem bsearch_eq {l : List Granule} {t : Int} (hl : l.length * 32 ≤ reachBytes) (hs : Inc l) : ∃ p : Nat, p ≤ l.length ∧ (∀ (k : Nat) (g : Granule), l[k]? = some g → (k < p ↔ g.Index < t)) ∧
  Z6 l t (fun z0 z1 => some (Z2y z0 z1)) = some ((p : Int), decide (∃ g, l[p]? = some g ∧ g.Index = t)) := by
 have hlen : (l.length : Int) < 4398046511104 * 4 := by have := Z11; omega
 have hcmp : ∀ g i, Z2y g i = if g.Index < i then -1 else if i < g.Index then 1 else 0 := fun g i => Z9t _ _
 obtain ⟨r, h1, p, rfl, hp, hlow, hhigh⟩ := Z1F (step := Z6.s0 l t (fun z0 z1 => some (Z2y z0 z1)))
  (I := fun s => ∃ i j : Nat, s = ((i : Int), (j : Int)) ∧ i ≤ j ∧ j ≤ l.length ∧ (∀ k g, l[k]? = some g → k < i → g.Index < t) ∧ (∀ k g, l[k]? = some g → j ≤ k → t ≤ g.Index))
  (fun s => (s.2 - s.1).toNat)
  (fun r => ∃ p : Nat, r = (p : Int) ∧ p ≤ l.length ∧ (∀ k g, l[k]? = some g → k < p → g.Index < t) ∧ (∀ k g, l[k]? = some g → p ≤ k → t ≤ g.Index)) (by
  rintro s ⟨i, j, rfl, hij, hj, hlow, hhigh⟩;unfold Z6.s0
  by_cases hlt : i < j
  ·have hm : w64 ((IntKind.u64.wrap (w64 ((i : Int) + j))).fdiv (2 ^ 1)) = ((i + j) / 2 : Nat) := by
    rw [ZY (x := (i : Int) + j) (by omega), Z5H, Int.fdiv_eq_ediv_of_nonneg _ (by decide), ZY (by omega)]
    omega
   have hml : (i + j) / 2 < l.length := by omega
   simp only [hm];rw [Zq (show (i : Int) < j by omega), cond_true, at?_nat hml]
   simp only [Option.bind_some, hcmp];refine .inl ?_;have hget := List.getElem?_eq_getElem hml
   by_cases hc : l[(i + j) / 2].Index < t
   ·rw [if_pos hc];refine ⟨((((i + j) / 2 + 1 : Nat) : Int), (j : Int)), ?_, ⟨(i + j) / 2 + 1, j, rfl, by omega, hj, fun k g hk hki => ?_, hhigh⟩, by simp; omega⟩
    ·rw [ZY (by omega)]; simp
    ·rcases Nat.lt_or_ge k ((i + j) / 2) with h | h
     ·have := hs k _ g _ h hk hget; omega
     ·have : k = (i + j) / 2 := by omega
      subst this; rw [hget] at hk; cases hk; exact hc
   ·rw [if_neg hc];refine ⟨((i : Int), (((i + j) / 2 : Nat) : Int)), ?_, ⟨i, (i + j) / 2, rfl, by omega, by omega, hlow, fun k g hk hki => ?_⟩, by simp; omega⟩
    ·split <;> simp
    ·rcases Nat.lt_or_ge ((i + j) / 2) k with h | h
     ·have := hs _ k _ g h hget hk; omega
     ·have : k = (i + j) / 2 := by omega
      subst this; rw [hget] at hk; cases hk; omega
  ·refine .inr ⟨(i : Int), by rw [Zv (show ¬ (i : Int) < j by omega)]; rfl, i, rfl, by omega, hlow, fun k g hk hki => hhigh k g hk (by omega)⟩) (0, (l.length : Int)) ⟨0, l.length, rfl, Nat.zero_le _, Nat.le_refl _, fun k g _ h => by omega, fun k g hk h => by
    rw [List.getElem?_eq_none h] at hk; cases hk⟩
 refine ⟨p, hp, fun k g hk => ⟨fun h => hlow k g hk h, fun h => ?_⟩, ?_⟩
 ·rcases Nat.lt_or_ge k p with h2 | h2
  ·exact h2
  ·have := hhigh k g hk h2; omega
 ·unfold Z6;rw [h1];simp only [Option.bind_some]
  by_cases hlt : p < l.length
  ·rw [Zq (show (p : Int) < l.length by omega), cond_true, at?_nat hlt]
   simp only [Option.bind_some, hcmp, Option.some.injEq, Prod.mk.injEq, true_and];have := hhigh p _ (List.getElem?_eq_getElem hlt) (Nat.le_refl _)
   rw [List.getElem?_eq_getElem hlt]
   by_cases he : l[p].Index = t
   ·rw [if_neg (by omega), if_neg (by omega)]; simp [he]
   ·rw [if_neg (by omega), if_pos (by omega)]; simp [he]
  ·rw [Zv (show ¬ (p : Int) < l.length by omega), cond_false]
   simp only [Option.bind_some, Option.some.injEq, Prod.mk.injEq, true_and];rw [List.getElem?_eq_none (by omega)]
   simp
structure Shape (f : Form) : Prop where
 count : f.Count = f.Core.length
 zero : f.Count = 0 ↔ f.Period = 0
 per : 0 ≤ f.Period ∧ f.Period ≤ 1099511627776
 core : ∀ l ∈ f.Core, RightL l
 odd : ∀ g ∈ f.Odd, RightL g.Ticks ∧ ZJ g.Index
 inc : Inc f.Odd
structure Lim (f : Form) : Prop where
 core : f.Core.length * 24 ≤ reachBytes
 sets : ∀ l ∈ f.Core, Len l ∧ Sp64 l
 odd : f.Odd.length * 32 ≤ reachBytes
 ticks : ∀ g ∈ f.Odd, In64 g.Index ∧ Len g.Ticks ∧ Sp64 g.Ticks
 count : In64 f.Count
 period : In64 f.Period
theorem Form.lim {f : Form} (h : f.ok) : Lim f := by
 obtain ⟨h1, h2, h3, h4⟩ := h
 exact ⟨h3.1, fun l hl => okSpans (h3.2 l hl), h4.1, fun g hg => ⟨(h4.2 g hg).1, okSpans (h4.2 g hg).2⟩, h2, h1⟩
theorem Z4e {f : Form} (hl : Lim f) (hs : Inc f.Odd) (i : Int) : ∃ p : Nat, p ≤ f.Odd.length ∧ (∀ (k : Nat) (g : Granule), f.Odd[k]? = some g → (k < p ↔ g.Index < i)) ∧ Z3t f i = some ((p : Int), decide (∃ g, f.Odd[p]? = some g ∧ g.Index = i)) := by
 obtain ⟨p, h1, h2, h3⟩ := bsearch_eq (t := i) hl.odd hs
 exact ⟨p, h1, h2, by unfold Z3t; rw [h3]; rfl⟩
def Z1i (f : Form) (i : Int) : Prop := ∃ g ∈ f.Odd, g.Index = i
def Z0f (f : Form) (i : Int) : List Span := f.Core.getD (i % f.Count).toNat []
def Z3k (f : Form) (i : Int) : Int := i / f.Count * f.Period
open Classical in
noncomputable def ZZ (f : Form) (i : Int) : List Span := if h : Z1i f i then h.choose.Ticks else if f.Count = 0 then [] else (Z0f f i).map (Zh (Z3k f i))
theorem Inc.uniq {l : List Granule} (h : Inc l) {a b : Granule} (ha : a ∈ l) (hb : b ∈ l) (he : a.Index = b.Index) : a = b := by
 obtain ⟨j, hj⟩ := List.getElem?_of_mem ha
 obtain ⟨k, hk⟩ := List.getElem?_of_mem hb
 rcases Nat.lt_trichotomy j k with hjk | rfl | hjk
 ·have := h j k a b hjk hj hk; omega
 ·rw [hj] at hk; cases hk; rfl
 ·have := h k j b a hjk hk hj; omega
theorem Z0M {f : Form} (hs : Inc f.Odd) {g : Granule} (hg : g ∈ f.Odd) : ZZ f g.Index = g.Ticks := by
 have h : Z1i f g.Index := ⟨g, hg, rfl⟩
 unfold ZZ
 rw [dif_pos h]
 rw [hs.uniq h.choose_spec.1 hg h.choose_spec.2]
theorem Z2W {f : Form} {i : Int} (h : ¬ Z1i f i) (h0 : f.Count = 0) : ZZ f i = [] := by unfold ZZ; rw [dif_neg h, if_pos h0]
theorem Z2U {f : Form} {i : Int} (h : ¬ Z1i f i) (h0 : f.Count ≠ 0) : ZZ f i = (Z0f f i).map (Zh (Z3k f i)) := by unfold ZZ; rw [dif_neg h, if_neg h0]
theorem Z89 {f : Form} (hs : Shape f) (h0 : f.Count ≠ 0) : 0 < f.Count := by have := hs.count; omega
theorem Z0r {f : Form} (hs : Shape f) (h0 : f.Count ≠ 0) (i : Int) : at? f.Core (i % f.Count) = some (Z0f f i) ∧ Z0f f i ∈ f.Core := by
 have hp := Z89 hs h0
 have h1 := Int.emod_nonneg i h0
 have h2 := Int.emod_lt_of_pos i hp
 have h3 : (i % f.Count).toNat < f.Core.length := by have := hs.count; omega
 unfold Z0f
 rw [at?_lt h1 (by have := hs.count; omega), List.getD_eq_getElem?_getD, List.getElem?_eq_getElem h3]
 exact ⟨rfl, List.getElem_mem h3⟩
theorem Z6x {f : Form} (hl : Lim f) (hs : Shape f) {g : Granule} (hg : g ∈ f.Odd) : Z29 f g.Index = some (g.Ticks, 0, 0) := by
 obtain ⟨p, h1, h2, h3⟩ := Z4e hl hs.inc g.Index
 obtain ⟨k, hk⟩ := List.getElem?_of_mem hg
 have hkl := (List.getElem?_eq_some_iff.1 hk).1
 have hpk : p ≤ k := by
  rcases Nat.lt_or_ge k p with h | h
  ·have := (h2 k g hk).1 h; omega
  ·exact h
 have hpl : p < f.Odd.length := by omega
 have hpg := h2 p _ (List.getElem?_eq_getElem hpl)
 have : p = k := by
  rcases Nat.lt_or_ge p k with h | h
  ·have := hs.inc p k _ g h (List.getElem?_eq_getElem hpl) hk
   exact absurd (hpg.2 this) (Nat.lt_irrefl _)
  ·omega
 subst this
 unfold Z29
 rw [h3]
 simp only [Option.bind_some]
 rw [Zq ⟨g, hk, rfl⟩, cond_true, at?_nat hpl]
 rw [List.getElem?_eq_getElem hpl] at hk
 cases hk; rfl
theorem Z6B {f : Form} (hl : Lim f) (hs : Shape f) {i : Int} (hi : In64 i) (ho : ¬ Z1i f i) : Z29 f i = if f.Count = 0 then some ([], 0, 0) else some (Z0f f i, (fitS (Z3k f i)).1, (fitS (Z3k f i)).2) := by
 obtain ⟨p, h1, h2, h3⟩ := Z4e hl hs.inc i
 unfold Z29
 rw [h3]
 simp only [Option.bind_some]
 rw [Zv (by rintro ⟨g, hg, he⟩; exact ho ⟨g, List.mem_of_getElem? hg, he⟩), cond_false]
 by_cases h0 : f.Count = 0
 ·rw [beq_t h0, cond_true, if_pos h0]
 ·rw [Z41 h0, cond_false, if_neg h0, Z2r hi hl.count, Z4K (Z89 hs h0)];simp only [Option.bind_some];rw [(Z0r hs h0 i).1];simp only [Option.bind_some];have hq : In64 (i / f.Count) := by
   have hp := Z89 hs h0
   unfold In64 at hi ⊢
   constructor
   ·have : -9223372036854775808 ≤ i / f.Count := by
     rw [Int.le_ediv_iff_mul_le hp];have : (-9223372036854775808) * f.Count ≤ -9223372036854775808 := by
      have : (-9223372036854775808) * f.Count ≤ (-9223372036854775808) * 1 := Int.mul_le_mul_of_nonpos_left (by omega) (by omega)
      omega
     omega
    exact this
   ·have : i / f.Count ≤ 9223372036854775807 := by
     rcases Int.lt_or_le i 0 with h | h
     ·have : i / f.Count < 0 := Int.ediv_neg_of_neg_of_pos h hp
      omega
     ·have := Int.ediv_le_self f.Count h
      omega
    exact this
  rw [Z3s hq hl.period]
  rfl
def fits (f : Form) (i : Int) : Prop := ∀ s ∈ ZZ f i, ZJ s.From ∧ ZJ s.To
theorem Z7U (l : List Span) : l.map (Zh 0) = l := by
 have : Zh 0 = id := by funext s; simp [Zh]
 rw [this, List.map_id]
theorem Z1o {f : Form} {i : Int} (ho : ¬ Z1i f i) (h0 : f.Count ≠ 0) : ZZ f i = [] ↔ Z0f f i = [] := by rw [Z2U ho h0, List.map_eq_nil_iff]
open Classical in
theorem Z3l {f : Form} (hl : Lim f) (hs : Shape f) {i : Int} (hi : In64 i) : Z0B f i = some (if ZJ i ∧ fits f i then (ZZ f i, 0) else ([], 20)) := by
 unfold Z0B
 rw [Z5e]
 by_cases ht : ZJ i
 ·rw [Zq ht, Bool.not_true, cond_false]
  by_cases ho : Z1i f i
  ·obtain ⟨g, hg, rfl⟩ := ho
   have hset := Z0M hs.inc hg
   have hr := (hs.odd g hg).1
   have hf : fits f g.Index := by
    intro s hsm;rw [hset] at hsm;obtain ⟨k, hk⟩ := List.getElem?_of_mem hsm
    exact ⟨(hr.ok k s hk).1, (hr.ok k s hk).2.1⟩
   rw [Z6x hl hs hg, if_pos ⟨ht, hf⟩, hset];simp only [Option.bind_some]
   by_cases hn : g.Ticks = []
   ·rw [hn]; rfl
   ·have : ((g.Ticks.length : Int) == 0) = false := Z41 (by have := List.length_pos_iff.2 hn; omega)
    rw [this, cond_false];simp only [bne_self_eq_false, cond_false]
    rcases Z3d (b := 0) (hl.ticks g hg).2.1 hr.sp64 ⟨by decide, by decide⟩ with ⟨_, h2⟩ | ⟨h1, _⟩
    ·rw [h2, Z7U]; rfl
    ·refine absurd (fun s hsm => ?_) h1
     rw [← hset] at hsm
     simpa using hf s hsm
  ·rw [Z6B hl hs hi ho]
   by_cases h0 : f.Count = 0
   ·rw [if_pos h0, if_pos ⟨ht, by intro s hsm; rw [Z2W ho h0] at hsm; cases hsm⟩, Z2W ho h0]; rfl
   ·rw [if_neg h0];simp only [Option.bind_some]
    by_cases hn : Z0f f i = []
    ·rw [if_pos ⟨ht, by intro s hsm; rw [(Z1o ho h0).2 hn] at hsm; cases hsm⟩, (Z1o ho h0).2 hn, hn]; rfl
    ·have : (((Z0f f i).length : Int) == 0) = false := Z41 (by have := List.length_pos_iff.2 hn; omega)
     rw [this, cond_false];have hmem := (Z0r hs h0 i).2
     have hr := hs.core _ hmem
     have hfe : fits f i ↔ ∀ s ∈ Z0f f i, ZJ (s.From + Z3k f i) ∧ ZJ (s.To + Z3k f i) := by
      unfold fits; rw [Z2U ho h0]
      constructor
      ·intro h s hsm; exact h (Zh (Z3k f i) s) (List.mem_map.2 ⟨s, hsm, rfl⟩)
      ·intro h s hsm;obtain ⟨s, hsm', rfl⟩ := List.mem_map.1 hsm
       exact h s hsm'
     rcases fit_or (Z3k f i) with ⟨q1, q2⟩ | ⟨q1, q2⟩ <;> rw [q2]
     ·simp only [bne_self_eq_false, cond_false]
      rcases Z3d (b := Z3k f i) (hl.sets _ hmem).1 hr.sp64 q1 with ⟨h1, h2⟩ | ⟨h1, h2⟩
      ·rw [h2, if_pos ⟨ht, hfe.2 h1⟩, Z2U ho h0]; rfl
      ·rw [h2, if_neg (fun h => h1 (hfe.1 h.2))]; rfl
     ·rw [if_neg]
      ·rfl
      ·rintro ⟨_, h⟩;have h := hfe.1 h
       obtain ⟨s, hsm⟩ := List.exists_mem_of_ne_nil _ hn
       have h1 := (h s hsm).1
       obtain ⟨k, hk⟩ := List.getElem?_of_mem hsm
       have h2 := (hr.ok k s hk).1
       unfold ZJ at h1 h2;exact q1 (by unfold In64; omega)
 ·rw [Zv ht, if_neg (fun h => ht h.1)]; rfl
open Classical in
theorem Z81 {f : Form} (hl : Lim f) (hs : Shape f) {i : Int} (hi : In64 i) : Z3U f i = some (decide (ZZ f i ≠ [])) := by
 unfold Z3U
 by_cases ho : Z1i f i
 ·obtain ⟨g, hg, rfl⟩ := ho
  rw [Z6x hl hs hg, Z0M hs.inc hg];simp only [Option.bind_some];cases g.Ticks <;> simp
 ·rw [Z6B hl hs hi ho]
  by_cases h0 : f.Count = 0
  ·rw [if_pos h0, Z2W ho h0]; rfl
  ·rw [if_neg h0];simp only [Option.bind_some, Ne, Z1o ho h0];cases Z0f f i <;> simp
end Go.Dn

namespace Go.Dn
open Go
theorem Z2T {α : Type} {l : List α} {b : Nat} (h : l.length * (b + 1) ≤ reachBytes) : (l.length : Int) < 4611686018427387904 := by
 have := Z11
 have : l.length ≤ l.length * (b + 1) := Nat.le_mul_of_pos_right _ (by omega)
 omega
theorem Z8f {α : Type} {l : List α} {k : Nat} {x : α} (h : l[k]? = some x) : at? l (k : Int) = some x ∧ (k : Int) < l.length := by
 have hlt := (List.getElem?_eq_some_iff.1 h).1
 rw [List.getElem?_eq_getElem hlt] at h
 exact ⟨by rw [at?_nat hlt]; exact h, by omega⟩
theorem shape_core {f : Form} (hl : Lim f) : (ZM (Zm.s0 f) 0 = some (.go ()) ∧ ∀ l ∈ f.Core, RightL l) ∨ (ZM (Zm.s0 f) 0 = some (.ret false) ∧ ¬ ∀ l ∈ f.Core, RightL l) := by
 have hlen := Z2T (b := 23) hl.core
 rcases Z3w (l := f.Core) (step := Zm.s0 f) (fun _ x => RightL x) (no := .ret false) (yes := .go ()) (fun k x hk _ => by
   obtain ⟨h1, h2⟩ := Z8f hk
   obtain ⟨b, hb, hr⟩ := Z66 (hl.sets x (List.mem_of_getElem? hk)).1 (hl.sets x (List.mem_of_getElem? hk)).2
   unfold Zm.s0;rw [Zq h2, cond_true, h1];simp only [Option.bind_some, hb, ZY (show -9223372036854775808 ≤ (k : Int) + 1 ∧ (k : Int) + 1 ≤ 9223372036854775807 by omega)]
   cases b
   ·exact .inr ⟨rfl, fun h => by have := hr.2 h; cases this⟩
   ·exact .inl ⟨rfl, hr.1 rfl⟩) (by unfold Zm.s0; rw [Zv (by omega)]; rfl) with ⟨h1, h2⟩ | ⟨h1, h2⟩
 ·exact .inl ⟨h1, fun l hm => by obtain ⟨k, hk⟩ := List.getElem?_of_mem hm; exact h2 k l hk⟩
 ·exact .inr ⟨h1, fun h => h2 fun k x hk => h x (List.mem_of_getElem? hk)⟩
def goodOdd (f : Form) (k : Nat) (g : Granule) : Prop := RightL g.Ticks ∧ ZJ g.Index ∧ ∀ p, k ≠ 0 → f.Odd[k - 1]? = some p → p.Index < g.Index
theorem shape_odd {f : Form} (hl : Lim f) : (ZM (Zm.s1 f) 0 = some (.go ()) ∧ ∀ k g, f.Odd[k]? = some g → goodOdd f k g) ∨ (ZM (Zm.s1 f) 0 = some (.ret false) ∧ ¬ ∀ k g, f.Odd[k]? = some g → goodOdd f k g) := by
 have hlen := Z2T (b := 31) hl.odd
 refine Z3w (l := f.Odd) (step := Zm.s1 f) (goodOdd f) (no := .ret false) (yes := .go ()) (fun k x hk _ => ?_) (by unfold Zm.s1; rw [Zv (by omega)]; rfl)
 obtain ⟨h1, h2⟩ := Z8f hk
 have hx := hl.ticks x (List.mem_of_getElem? hk)
 obtain ⟨b, hb, hr⟩ := Z66 hx.2.1 hx.2.2
 unfold Zm.s1
 rw [Zq h2, cond_true, h1]
 simp only [Option.bind_some, hb, Z5e, ZY (show -9223372036854775808 ≤ (k : Int) + 1 ∧ (k : Int) + 1 ≤ 9223372036854775807 by omega)]
 by_cases hbt : b = true ∧ ZJ x.Index
 ·rw [hbt.1, Zq hbt.2];simp only [Bool.not_true, Bool.or_self, cond_false]
  by_cases h0 : k = 0
  ·subst h0;exact .inl ⟨by simp, hr.1 hbt.1, hbt.2, fun p h => absurd rfl h⟩
  ·have hpl : k - 1 < f.Odd.length := by omega
   rw [Zq (show (k : Int) > 0 by omega), cond_true, ZY (by omega), show (k : Int) - 1 = ((k - 1 : Nat) : Int) by omega, at?_nat hpl]
   simp only [Option.bind_some]
   by_cases hc : x.Index ≤ f.Odd[k - 1].Index
   ·rw [Zq hc];refine .inr ⟨rfl, fun h => ?_⟩
    have := h.2.2 _ h0 (List.getElem?_eq_getElem hpl); omega
   ·rw [Zv hc];refine .inl ⟨rfl, hr.1 hbt.1, hbt.2, fun p _ hp => ?_⟩
    rw [List.getElem?_eq_getElem hpl] at hp; cases hp; omega
 ·have : (!b || !decide (ZJ x.Index)) = true := by
   cases b
   ·rfl
   ·rw [Zv (fun h => hbt ⟨rfl, h⟩)]; rfl
  rw [this, cond_true];exact .inr ⟨rfl, fun h => hbt ⟨hr.2 h.1, h.2.1⟩⟩
theorem inc_of {f : Form} (h : ∀ k g, f.Odd[k]? = some g → goodOdd f k g) : Inc f.Odd := by
 intro j k a b hjk ha hb
 induction k generalizing b with
 | zero => omega
 | succ k ih =>
  have hkl := (List.getElem?_eq_some_iff.1 hb).1
  have h1 := (h (k + 1) b hb).2.2 f.Odd[k] (by omega) (by simp [List.getElem?_eq_getElem (show k < f.Odd.length by omega)])
  rcases Nat.lt_or_ge j k with h2 | h2
  ·have := ih _ h2 (List.getElem?_eq_getElem (show k < f.Odd.length by omega)); omega
  ·have : j = k := by omega
   subst this;rw [List.getElem?_eq_getElem (show j < f.Odd.length by omega)] at ha; cases ha; exact h1
theorem gran_shape_eq {f : Form} (hl : Lim f) : ∃ b, Zm f = some b ∧ (b = true ↔ Shape f) := by
 unfold Zm
 by_cases h1 : f.Count = f.Core.length ∧ (f.Count = 0 ↔ f.Period = 0) ∧ 0 ≤ f.Period ∧ f.Period ≤ 1099511627776
 ·have e : (f.Count != (f.Core.length : Int) || (f.Count == 0) != (f.Period == 0) || decide (f.Period < 0) || decide (f.Period > 1099511627776)) = false := by
   rw [Z5x h1.1, Zv (show ¬ f.Period < 0 by omega), Zv (show ¬ f.Period > 1099511627776 by omega)]
   simp only [Bool.false_or, Bool.or_false, bne_eq_false_iff_eq, ibeq, decide_eq_decide];exact h1.2.1
  rw [e, cond_false]
  rcases shape_core hl with ⟨h2, h3⟩ | ⟨h2, h3⟩
  ·rw [h2];simp only [Option.bind_some, Jx.elim]
   rcases shape_odd hl with ⟨h4, h5⟩ | ⟨h4, h5⟩
   ·rw [h4];exact ⟨true, rfl, fun _ => ⟨h1.1, h1.2.1, h1.2.2, h3, fun g hg => by obtain ⟨k, hk⟩ := List.getElem?_of_mem hg; exact ⟨(h5 k g hk).1, (h5 k g hk).2.1⟩, inc_of h5⟩, fun _ => rfl⟩
   ·rw [h4];refine ⟨false, rfl, fun h => (by cases h), fun h => absurd (fun k g hk => ⟨(h.odd g (List.mem_of_getElem? hk)).1, (h.odd g (List.mem_of_getElem? hk)).2, fun p h0 hp => h.inc (k - 1) k p g (by omega) hp hk⟩) h5⟩
  ·rw [h2];exact ⟨false, rfl, fun h => (by cases h), fun h => absurd h.core h3⟩
 ·have e : (f.Count != (f.Core.length : Int) || (f.Count == 0) != (f.Period == 0) || decide (f.Period < 0) || decide (f.Period > 1099511627776)) = true := by
   apply Classical.byContradiction;intro hn;simp only [Bool.not_eq_true, Bool.or_eq_false_iff, bne_eq_false_iff_eq, decide_eq_false_iff_not, ibeq, decide_eq_decide] at hn;exact h1 ⟨hn.1.1.1, hn.1.1.2, by omega, by omega⟩
  rw [e, cond_true];exact ⟨false, rfl, fun h => (by cases h), fun h => absurd ⟨h.count, h.zero, h.per⟩ h1⟩
def fstT (l : List Span) : Int := (l.head?.map Span.From).getD 0
def lstT (l : List Span) : Int := (l.getLast?.map Span.To).getD 0
theorem ZAK {a b : List Span} (ha : a ≠ []) (hb : b ≠ []) : Z2z a b ↔ lstT a < fstT b := by
 unfold Z2z lstT fstT
 rw [List.getLast?_eq_some_getLast ha, List.head?_eq_some_head hb]
 simp
theorem RightL.tail {s : Span} {l : List Span} (h : RightL (s :: l)) : RightL l :=
 ⟨fun k x hk => h.ok (k + 1) x hk, fun k x y hx hy => h.gap (k + 1) x y hx hy⟩
theorem Z5I {l : List Span} (h : RightL l) (hn : l ≠ []) : fstT l ≤ lstT l := by
 induction l with
 | nil => exact absurd rfl hn
 | cons s l ih =>
  have h0 := h.ok 0 s rfl
  cases l with
  | nil => simp [fstT, lstT]; exact h0.2.2
  | cons t l =>
   have h1 := h.gap 0 s t rfl rfl
   have h2 := ih h.tail (by simp)
   have e1 : lstT (s :: t :: l) = lstT (t :: l) := by simp [lstT]
   have e2 : fstT (t :: l) = t.From := rfl
   have e3 : fstT (s :: t :: l) = s.From := rfl
   rw [e1, e3]; rw [e2] at h2; omega
theorem lst_tick {l : List Span} (h : RightL l) (hn : l ≠ []) : ZJ (lstT l) ∧ ZJ (fstT l) := by
 have h1 : l.getLast? = some (l.getLast hn) := List.getLast?_eq_some_getLast hn
 have h2 : l.head? = some (l.head hn) := List.head?_eq_some_head hn
 obtain ⟨j, hj⟩ := List.getElem?_of_mem (List.getLast_mem hn)
 obtain ⟨k, hk⟩ := List.getElem?_of_mem (List.head_mem hn)
 unfold lstT fstT
 rw [h1, h2]
 exact ⟨(h.ok j _ hj).2.1, (h.ok k _ hk).1⟩
def full (f : Form) : List (List Span) := f.Core.filter (fun l => decide (l.length > 0))
def Turns (f : Form) : Prop := (∀ (k : Nat) (a b : List Span), (full f)[k]? = some a → (full f)[k + 1]? = some b → lstT a < fstT b) ∧ ∀ a b, (full f).getLast? = some a → (full f).head? = some b → lstT a < fstT b + f.Period
theorem full_loop {f : Form} (hl : Lim f) : ZM (Z0C.s0 f) (0, []) = some (full f) := by
 have hlen := Z2T (b := 23) hl.core
 refine Z27 (I := fun s r => r = full f ∧ ∃ k : Nat, k ≤ f.Core.length ∧ s = ((k : Int), (f.Core.take k).filter (fun l => decide (l.length > 0)))) (fun s => f.Core.length - s.1.toNat) ?_ ⟨rfl, 0, Nat.zero_le _, by simp⟩
 rintro s r ⟨rfl, k, hk, rfl⟩
 unfold Z0C.s0
 by_cases hlt : k < f.Core.length
 ·have htake : f.Core.take (k + 1) = f.Core.take k ++ [f.Core[k]] := List.take_succ_eq_append_getElem hlt
  simp only;rw [Zq (show (k : Int) < f.Core.length by omega), cond_true, at?_nat hlt, ZY (by omega)]
  simp only [Option.bind_some];refine .inl ?_;have hfl : ((f.Core.take k).filter (fun l => decide (l.length > 0))).length ≤ k := Nat.le_trans (List.length_filter_le _ _) (by rw [List.length_take]; exact Nat.min_le_left _ _)
  by_cases hc : f.Core[k].length > 0
  ·rw [Zq (show ((f.Core[k].length : Int) > 0) by omega), cond_true, app?_ok (by have h1 := hl.core; rw [Z11] at h1; rw [Z3h]; simp only [List.length_singleton]; omega)]
   exact ⟨_, rfl, ⟨trivial, k + 1, hlt, by rw [htake, List.filter_append]; simp [hc]⟩, by simp; omega⟩
  ·rw [Zv (show ¬ ((f.Core[k].length : Int) > 0) by omega), cond_false]
   exact ⟨_, rfl, ⟨trivial, k + 1, hlt, by rw [htake, List.filter_append]; simp [hc]⟩, by simp; omega⟩
 ·have : k = f.Core.length := by omega
  subst this;simp only;rw [Zv (show ¬ ((f.Core.length : Int) < f.Core.length) by omega), cond_false, List.take_length]
  exact .inr rfl
theorem gran_turns_eq {f : Form} (hl : Lim f) (hs : Shape f) : ∃ b, Z0C f = some b ∧ (b = true ↔ Turns f) := by
 have hlen := Z2T (b := 23) hl.core
 have hfl : (full f).length ≤ f.Core.length := List.length_filter_le _ _
 have hmem : ∀ x ∈ full f, x ∈ f.Core ∧ x ≠ [] := fun x hx => by
  have := List.mem_filter.1 hx
  exact ⟨this.1, by rintro rfl; simp at this⟩
 unfold Z0C
 rw [full_loop hl]
 simp only [Option.bind_some]
 rcases Z3w (l := full f) (step := Z0C.s1 f (full f)) (fun k a => ∀ b, (full f)[(k + 1) % (full f).length]? = some b → lstT a < fstT b + (if k + 1 = (full f).length then f.Period else 0)) (no := .ret false) (yes := .go ()) (fun k a hk _ => by
   obtain ⟨h1, h2⟩ := Z8f hk
   have hkl : k < (full f).length := by omega
   have hmod : (k + 1) % (full f).length < (full f).length := Nat.mod_lt _ (by omega)
   have hnext : at? (full f) ((((k + 1) % (full f).length : Nat) : Int)) = some (full f)[(k + 1) % (full f).length] := at?_nat hmod
   obtain ⟨ha1, ha2⟩ := hmem a (List.mem_of_getElem? hk)
   obtain ⟨hb1, hb2⟩ := hmem _ (List.getElem_mem hmod)
   have hra := hs.core a ha1
   have hrb := hs.core _ hb1
   have hal : a.length - 1 < a.length := by have := List.length_pos_iff.2 ha2; omega
   have hlast : at? a (w64 ((a.length : Int) - 1)) = some a[a.length - 1] := by
    have := Z2T (b := 15) (hl.sets a ha1).1
    rw [ZY (by omega), show (a.length : Int) - 1 = ((a.length - 1 : Nat) : Int) by omega, at?_nat hal]
   have hlt : lstT a = a[a.length - 1].To := by unfold lstT; rw [List.getLast?_eq_getElem?, List.getElem?_eq_getElem hal]; rfl
   unfold Z0C.s1;rw [Zq h2, cond_true, h1, nz?_ok (by omega), ZY (x := (k : Int) + 1) (by omega)]
   have htm : ((k : Int) + 1).tmod ((full f).length : Int) = (((k + 1) % (full f).length : Nat) : Int) := by
    rw [Int.tmod_eq_emod_of_nonneg (by omega)]; push_cast; rfl
   simp only [Option.bind_some, htm, hnext, hlast];rw [List.getElem?_eq_getElem hmod];generalize (full f)[(k + 1) % (full f).length] = b at *
   have hb0 : at? b 0 = some (b.head hb2) := by
    cases b with
    | nil => exact absurd rfl hb2
    | cons y b => rfl
   have hbf : fstT b = (b.head hb2).From := by unfold fstT; rw [List.head?_eq_some_head hb2]; rfl
   have htick := (lst_tick hrb hb2).2
   unfold ZJ at htick;have hper := hs.per
   by_cases hl1 : k + 1 = (full f).length
   ·have e : ((k : Int) + 1 == ((full f).length : Int)) = true := beq_t (by omega)
    rw [e, cond_true];simp only [Option.bind_some, hb0, ← hbf, ZY (show -9223372036854775808 ≤ fstT b + f.Period ∧ fstT b + f.Period ≤ 9223372036854775807 by omega), ← hlt, if_pos hl1]
    by_cases hc : lstT a ≥ fstT b + f.Period
    ·rw [Zq hc]; exact .inr ⟨rfl, fun h => by have := h b rfl; omega⟩
    ·rw [Zv hc]; exact .inl ⟨rfl, fun b' hb' => by cases hb'; omega⟩
   ·have e : ((k : Int) + 1 == ((full f).length : Int)) = false := Z41 (by omega)
    rw [e, cond_false];simp only [Option.bind_some, hb0, ← hbf, ZY (show -9223372036854775808 ≤ fstT b + 0 ∧ fstT b + 0 ≤ 9223372036854775807 by omega), ← hlt, if_neg hl1]
    by_cases hc : lstT a ≥ fstT b + 0
    ·rw [Zq hc]; exact .inr ⟨rfl, fun h => by have := h b rfl; omega⟩
    ·rw [Zv hc]; exact .inl ⟨rfl, fun b' hb' => by cases hb'; omega⟩) (by unfold Z0C.s1; rw [Zv (by omega)]; rfl) with ⟨h1, h2⟩ | ⟨h1, h2⟩
 ·rw [h1];refine ⟨true, rfl, fun _ => ⟨fun k a b ha hb => ?_, fun a b ha hb => ?_⟩, fun _ => rfl⟩
  ·have hkl := (List.getElem?_eq_some_iff.1 hb).1
   have := h2 k a ha b (by rw [Nat.mod_eq_of_lt hkl]; exact hb)
   rw [if_neg (by omega)] at this; omega
  ·have hn : full f ≠ [] := by rintro e; rw [e] at ha; simp at ha
   have hpos := List.length_pos_iff.2 hn
   rw [List.getLast?_eq_getElem?] at ha;have e1 : (full f).length - 1 + 1 = (full f).length := by omega
   have := h2 _ a ha b (by rw [e1, Nat.mod_self, ← List.head?_eq_getElem?]; exact hb)
   rw [if_pos e1] at this; exact this
 ·rw [h1];refine ⟨false, rfl, fun h => (by cases h), fun h => absurd (fun k a hk b hb => ?_) h2⟩
  have hkl := (List.getElem?_eq_some_iff.1 hk).1
  by_cases hl1 : k + 1 = (full f).length
  ·rw [if_pos hl1];rw [hl1, Nat.mod_self, ← List.head?_eq_getElem?] at hb;exact h.2 a b (by rw [List.getLast?_eq_getElem?, ← hl1]; exact hk) hb
  ·rw [if_neg hl1];rw [Nat.mod_eq_of_lt (by omega)] at hb
   have := h.1 k a b hk hb; omega
end Go.Dn

namespace Go.Dn
open Go
theorem Z9Q {l : List (List Span)} {p : List Span → Bool} (hl : l.length * 24 ≤ reachBytes) : Za l (fun z => some (p z)) = some (decide (∃ x ∈ l, p x = true)) := by
 have hlen := Z2T (b := 23) hl
 unfold Za ZE
 by_cases hall : ∀ (k : Nat) (x : List Span), l[k]? = some x → ¬ p x = true
 ·have : ZM (ZE.s0 l (fun z => some (p z))) 0 = some (.go ()) := by
   refine Z27 (I := fun (s : Int) r => r = .go () ∧ ∃ k : Nat, s = k ∧ k ≤ l.length) (fun s => l.length - s.toNat) ?_ ⟨rfl, 0, rfl, Nat.zero_le _⟩
   rintro s r ⟨rfl, k, rfl, hk⟩;unfold ZE.s0
   by_cases hlt : k < l.length
   ·rw [Zq (show (k : Int) < l.length by omega), cond_true, at?_nat hlt, ZY (by omega)]
    have := hall k _ (List.getElem?_eq_getElem hlt)
    simp only [Option.bind_some, Bool.not_eq_true] at this ⊢;rw [this];exact .inl ⟨_, rfl, ⟨trivial, k + 1, by push_cast; rfl, hlt⟩, by simp; omega⟩
   ·rw [Zv (show ¬ (k : Int) < l.length by omega)]; exact .inr rfl
  rw [this, Zv (by rintro ⟨x, hx, hp⟩; obtain ⟨k, hk⟩ := List.getElem?_of_mem hx; exact hall k x hk hp)]
  rfl
 ·obtain ⟨k0, x0, hx0, hb0, hg⟩ := Z8v (good := fun _ x => ¬ p x = true) hall
  have hb0 : p x0 = true := Classical.byContradiction hb0
  have hlt0 := (List.getElem?_eq_some_iff.1 hx0).1
  have : ZM (ZE.s0 l (fun z => some (p z))) 0 = some (.ret (k0 : Int)) := by
   refine Z27 (I := fun (s : Int) r => r = .ret (k0 : Int) ∧ ∃ k : Nat, s = k ∧ k ≤ k0) (fun s => l.length - s.toNat) ?_ ⟨rfl, 0, rfl, Nat.zero_le _⟩
   rintro s r ⟨rfl, k, rfl, hk⟩;unfold ZE.s0;have hkl : k < l.length := by omega
   rw [Zq (show (k : Int) < l.length by omega), cond_true, at?_nat hkl, ZY (by omega)]
   by_cases hlt : k < k0
   ·have := hg k _ hlt (List.getElem?_eq_getElem hkl)
    simp only [Option.bind_some, Bool.not_eq_true] at this ⊢;rw [this];exact .inl ⟨_, rfl, ⟨trivial, k + 1, by push_cast; rfl, hlt⟩, by simp; omega⟩
   ·have : k = k0 := by omega
    subst this;rw [List.getElem?_eq_getElem hkl] at hx0;cases hx0;simp only [Option.bind_some, hb0];exact .inr rfl
  rw [this, Zq ⟨x0, List.mem_of_getElem? hx0, hb0⟩];simp only [Option.bind_some, Jx.elim];rw [Zq (by omega)]
def Bare (f : Form) : Prop := ∀ l ∈ f.Core, l = []
theorem Z5T {f : Form} (hl : Lim f) : ∃ b, Z2b f = some b ∧ (b = true ↔ Bare f) := by
 unfold Z2b
 rw [Z9Q hl.core]
 refine ⟨_, rfl, ?_⟩
 simp only [Z3o, Bool.not_eq_true', decide_eq_false_iff_not, decide_eq_true_eq]
 constructor
 ·intro h l hm;apply Classical.byContradiction;intro hn;exact h ⟨l, hm, by have := List.length_pos_iff.2 hn; omega⟩
 ·rintro h ⟨l, hm, hp⟩;rw [h l hm] at hp; simp at hp
theorem Z5J {f : Form} (hs : Shape f) (hb : Bare f) {i : Int} (ho : ¬ Z1i f i) : ZZ f i = [] := by
 by_cases h0 : f.Count = 0
 ·exact Z2W ho h0
 ·exact (Z1o ho h0).2 (hb _ (Z0r hs h0 i).2)
def UpTo (f : Form) (i : Int) (r : Int × Bool) : Prop := (r.2 = true ∧ i ≤ r.1 ∧ ZJ r.1 ∧ ZZ f r.1 ≠ [] ∧ ∀ k, i ≤ k → k < r.1 → ZZ f k = []) ∨ (r.2 = false ∧ r.1 = 0 ∧ ∀ k, i ≤ k → ZJ k → ZZ f k = [])
def DownTo (f : Form) (i : Int) (r : Int × Bool) : Prop := (r.2 = true ∧ r.1 ≤ i ∧ ZJ r.1 ∧ ZZ f r.1 ≠ [] ∧ ∀ k, k ≤ i → r.1 < k → ZZ f k = []) ∨ (r.2 = false ∧ r.1 = 0 ∧ ∀ k, k ≤ i → ZJ k → ZZ f k = [])
theorem odd_split {f : Form} (hs : Shape f) {p : Nat} {i : Int} (hp : ∀ (k : Nat) (g : Granule), f.Odd[k]? = some g → (k < p ↔ g.Index < i)) {j : Int} (hj : Z1i f j) : ∃ (k : Nat) (g : Granule), f.Odd[k]? = some g ∧ g.Index = j ∧ (k < p ↔ j < i) := by
 obtain ⟨g, hg, rfl⟩ := hj
 obtain ⟨k, hk⟩ := List.getElem?_of_mem hg
 exact ⟨k, g, hk, rfl, hp k g hk⟩
theorem gran_step_up {f : Form} (hl : Lim f) (hs : Shape f) {i : Int} (hi : -1099511627776 ≤ i ∧ i ≤ 1099511627776) : ∃ r, Zu f i 1 = some r ∧ UpTo f i r := by
 have hi64 : In64 i := by unfold In64; omega
 obtain ⟨b, hb, hbb⟩ := Z5T hl
 have holen := Z2T (b := 31) hl.odd
 unfold Zu
 rw [hb]
 simp only [Option.bind_some]
 cases b with
 | true =>
  have hbare := hbb.1 rfl
  rw [cond_true];obtain ⟨p, h1, h2, h3⟩ := Z4e hl hs.inc i
  rw [h3];simp only [Option.bind_some, Zv (show ¬ (1 : Int) < 0 by omega), Bool.false_and, cond_false]
  obtain ⟨r, hr, hpost⟩ := Z1F (step := Zu.s0 f 1) (I := fun (s : Int) => ∃ k : Nat, s = k ∧ p ≤ k ∧ k ≤ f.Odd.length ∧ ∀ (j : Nat) (g : Granule), f.Odd[j]? = some g → p ≤ j → j < k → g.Ticks = []) (fun s => f.Odd.length - s.toNat)
   (fun r => (∃ (k : Nat) (g : Granule), r = .ret (g.Index, true) ∧ f.Odd[k]? = some g ∧ p ≤ k ∧ g.Ticks ≠ [] ∧ ∀ (j : Nat) (g' : Granule), f.Odd[j]? = some g' → p ≤ j → j < k → g'.Ticks = []) ∨ (r = .go () ∧ ∀ (j : Nat) (g' : Granule), f.Odd[j]? = some g' → p ≤ j → g'.Ticks = [])) (by
   rintro s ⟨k, rfl, hpk, hk, hn⟩;unfold Zu.s0
   by_cases hlt : k < f.Odd.length
   ·rw [Zq (show (k : Int) ≥ 0 by omega), Zq (show (k : Int) < f.Odd.length by omega), Bool.and_self, cond_true, at?_nat hlt, ZY (by omega)]
    simp only [Option.bind_some];have hget := List.getElem?_eq_getElem hlt
    by_cases hc : f.Odd[k].Ticks = []
    ·rw [hc];refine .inl ⟨(k : Int) + 1, rfl, ⟨k + 1, by push_cast; rfl, by omega, hlt, fun j g hj hpj hjk => ?_⟩, by simp; omega⟩
     rcases Nat.lt_or_ge j k with h | h
     ·exact hn j g hj hpj h
     ·have : j = k := by omega
      subst this; rw [hget] at hj; cases hj; exact hc
    ·rw [Zq (show ((f.Odd[k].Ticks.length : Int) > 0) by have := List.length_pos_iff.2 hc; omega), cond_true]
     exact .inr ⟨_, rfl, .inl ⟨k, _, rfl, hget, hpk, hc, hn⟩⟩
   ·rw [Zv (show ¬ (k : Int) < f.Odd.length by omega), Bool.and_false, cond_false]
    refine .inr ⟨_, rfl, .inr ⟨rfl, fun j g hj hpj => hn j g hj hpj ?_⟩⟩
    have := (List.getElem?_eq_some_iff.1 hj).1; omega) (p : Int) ⟨p, rfl, Nat.le_refl _, h1, fun j g _ h h' => by omega⟩
  rw [hr];simp only [Option.bind_some]
  rcases hpost with ⟨k, g, rfl, hk, hpk, hne, hn⟩ | ⟨rfl, hn⟩
  ·have hset := Z0M hs.inc (List.mem_of_getElem? hk)
   have hgi : ¬ g.Index < i := fun h => by have := (h2 k g hk).2 h; omega
   refine ⟨_, rfl, .inl ⟨rfl, by simp only; omega, (hs.odd g (List.mem_of_getElem? hk)).2, by simp only; rw [hset]; exact hne, fun j hij hjg => ?_⟩⟩
   simp only at hjg
   by_cases ho : Z1i f j
   ·obtain ⟨k', g', hk', rfl, hiff⟩ := odd_split hs h2 ho
    rw [Z0M hs.inc (List.mem_of_getElem? hk')];refine hn k' g' hk' ?_ ?_
    ·rcases Nat.lt_or_ge k' p with h | h
     ·have := hiff.1 h; omega
     ·exact h
    ·rcases Nat.lt_or_ge k' k with h | h
     ·exact h
     ·rcases Nat.lt_or_ge k k' with h' | h'
      ·have := hs.inc k k' g g' h' hk hk'; omega
      ·have : k = k' := by omega
       subst this; rw [hk] at hk'; cases hk'; omega
   ·exact Z5J hs hbare ho
  ·refine ⟨_, rfl, .inr ⟨rfl, rfl, fun j hij _ => ?_⟩⟩
   by_cases ho : Z1i f j
   ·obtain ⟨k', g', hk', rfl, hiff⟩ := odd_split hs h2 ho
    rw [Z0M hs.inc (List.mem_of_getElem? hk')];refine hn k' g' hk' ?_
    rcases Nat.lt_or_ge k' p with h | h
    ·have := hiff.1 h; omega
    ·exact h
   ·exact Z5J hs hbare ho
 | false =>
  rw [cond_false];obtain ⟨r, hr, hpost⟩ := Z1F (step := Zu.s1 f 1) (I := fun (s : Int) => i ≤ s ∧ s ≤ 1099511627777 ∧ ∀ k, i ≤ k → k < s → ZZ f k = []) (fun s => (1099511627777 - s).toNat)
   (fun r => (∃ j, r = .ret (j, true) ∧ i ≤ j ∧ ZJ j ∧ ZZ f j ≠ [] ∧ ∀ k, i ≤ k → k < j → ZZ f k = []) ∨ (r = .go () ∧ ∀ k, i ≤ k → ZJ k → ZZ f k = [])) (by
   rintro s ⟨hs1, hs2, hn⟩;unfold Zu.s1;rw [Z5e]
   by_cases ht : ZJ s
   ·rw [Zq ht, cond_true, Z81 hl hs (Z1g ht), ZY (by unfold ZJ at ht; omega)]
    simp only [Option.bind_some]
    by_cases hc : ZZ f s = []
    ·rw [hc];refine .inl ⟨s + 1, by simp, ⟨by omega, by unfold ZJ at ht; omega, fun k hk hks => ?_⟩, by unfold ZJ at ht; omega⟩
     by_cases h : k = s
     ·rw [h]; exact hc
     ·exact hn k hk (by omega)
    ·rw [Zq hc, cond_true];exact .inr ⟨_, rfl, .inl ⟨s, rfl, hs1, ht, hc, hn⟩⟩
   ·rw [Zv ht, cond_false];exact .inr ⟨_, rfl, .inr ⟨rfl, fun k hk htk => hn k hk (by unfold ZJ at ht htk; omega)⟩⟩) i ⟨Int.le_refl _, by omega, fun k h h' => by omega⟩
  rw [hr];simp only [Option.bind_some]
  rcases hpost with ⟨j, rfl, h1, h2, h3, h4⟩ | ⟨rfl, hn⟩
  ·exact ⟨_, rfl, .inl ⟨rfl, h1, h2, h3, h4⟩⟩
  ·exact ⟨_, rfl, .inr ⟨rfl, rfl, hn⟩⟩
theorem Z9w {f : Form} (hl : Lim f) (hs : Shape f) {i : Int} (hi : -1099511627776 ≤ i ∧ i ≤ 1099511627776) : ∃ r, Zu f i (-1) = some r ∧ DownTo f i r := by
 have hi64 : In64 i := by unfold In64; omega
 obtain ⟨b, hb, hbb⟩ := Z5T hl
 have holen := Z2T (b := 31) hl.odd
 unfold Zu
 rw [hb]
 simp only [Option.bind_some]
 cases b with
 | true =>
  have hbare := hbb.1 rfl
  rw [cond_true];obtain ⟨p, h1, h2, h3⟩ := Z4e hl hs.inc i
  rw [h3]
  -- the number of exceptions up to the index
  obtain ⟨q, hq1, hq2, hq3⟩ : ∃ q : Nat, q ≤ f.Odd.length ∧ (∀ (k : Nat) (g : Granule), f.Odd[k]? = some g → (k < q ↔ g.Index ≤ i)) ∧ ((bif (decide ((-1 : Int) < 0) && !decide (∃ g, f.Odd[p]? = some g ∧ g.Index = i)) then some (w64 ((p : Int) - 1)) else some (p : Int)) : Option Int) = some ((q : Int) - 1) := by
   by_cases he : ∃ g, f.Odd[p]? = some g ∧ g.Index = i
   ·obtain ⟨g, hg, hgi⟩ := he
    have hpl := (List.getElem?_eq_some_iff.1 hg).1
    refine ⟨p + 1, by omega, fun k g' hk => ?_, by rw [Zq (p := ∃ g, f.Odd[p]? = some g ∧ g.Index = i) ⟨g, hg, hgi⟩]; simp⟩
    have := h2 k g' hk
    constructor
    ·intro h
     rcases Nat.lt_or_ge k p with h' | h'
     ·have := this.1 h'; omega
     ·have : k = p := by omega
      subst this; rw [hg] at hk; cases hk; omega
    ·intro h
     rcases Nat.lt_or_ge p k with h' | h'
     ·have := hs.inc p k g g' h' hg hk; omega
     ·omega
   ·refine ⟨p, h1, fun k g' hk => ?_, by rw [Zv (p := ∃ g, f.Odd[p]? = some g ∧ g.Index = i) he, ZY (by omega)]; simp⟩
    have := h2 k g' hk
    constructor
    ·intro h; have := this.1 h; omega
    ·intro h
     by_cases hgi : g'.Index = i
     ·exfalso
      have hkp : ¬ k < p := fun h' => by have := this.1 h'; omega
      rcases Nat.lt_or_ge p k with h' | h'
      ·have hpl : p < f.Odd.length := by have := (List.getElem?_eq_some_iff.1 hk).1; omega
       have h5 := hs.inc p k _ g' h' (List.getElem?_eq_getElem hpl) hk
       have h6 := (h2 p _ (List.getElem?_eq_getElem hpl)).2 (by omega)
       omega
      ·have : k = p := by omega
       subst this;exact he ⟨g', hk, hgi⟩
     ·exact this.2 (by omega)
  simp only [Option.bind_some];rw [hq3];simp only [Option.bind_some];obtain ⟨r, hr, hpost⟩ := Z1F (step := Zu.s0 f (-1)) (I := fun (s : Int) => ∃ k : Nat, s = (k : Int) - 1 ∧ k ≤ q ∧ ∀ (j : Nat) (g : Granule), f.Odd[j]? = some g → k ≤ j → j < q → g.Ticks = []) (fun s => (s + 1).toNat)
   (fun r => (∃ (k : Nat) (g : Granule), r = .ret (g.Index, true) ∧ f.Odd[k]? = some g ∧ k < q ∧ g.Ticks ≠ [] ∧ ∀ (j : Nat) (g' : Granule), f.Odd[j]? = some g' → k < j → j < q → g'.Ticks = []) ∨ (r = .go () ∧ ∀ (j : Nat) (g' : Granule), f.Odd[j]? = some g' → j < q → g'.Ticks = [])) (by
   rintro s ⟨k, rfl, hk, hn⟩;unfold Zu.s0
   by_cases h0 : 0 < k
   ·have hlt : k - 1 < f.Odd.length := by omega
    rw [Zq (show (k : Int) - 1 ≥ 0 by omega), Zq (show (k : Int) - 1 < f.Odd.length by omega), Bool.and_self, cond_true, show (k : Int) - 1 = ((k - 1 : Nat) : Int) by omega, at?_nat hlt, ZY (by omega)]
    simp only [Option.bind_some];have hget := List.getElem?_eq_getElem hlt
    by_cases hc : f.Odd[k - 1].Ticks = []
    ·rw [hc];refine .inl ⟨((k - 1 : Nat) : Int) + -1, rfl, ⟨k - 1, by omega, by omega, fun j g hj hpj hjk => ?_⟩, by simp; omega⟩
     rcases Nat.lt_or_ge j k with h | h
     ·have : j = k - 1 := by omega
      subst this; rw [hget] at hj; cases hj; exact hc
     ·exact hn j g hj h hjk
    ·rw [Zq (show ((f.Odd[k - 1].Ticks.length : Int) > 0) by have := List.length_pos_iff.2 hc; omega), cond_true]
     exact .inr ⟨_, rfl, .inl ⟨k - 1, _, rfl, hget, by omega, hc, fun j g hj h1 h2 => hn j g hj (by omega) h2⟩⟩
   ·rw [Zv (show ¬ (k : Int) - 1 ≥ 0 by omega), Bool.false_and, cond_false]
    exact .inr ⟨_, rfl, .inr ⟨rfl, fun j g hj hjq => hn j g hj (by omega) hjq⟩⟩) ((q : Int) - 1) ⟨q, rfl, Nat.le_refl _, fun j g _ h h' => by omega⟩
  rw [hr];simp only [Option.bind_some]
  rcases hpost with ⟨k, g, rfl, hk, hkq, hne, hn⟩ | ⟨rfl, hn⟩
  ·have hset := Z0M hs.inc (List.mem_of_getElem? hk)
   have hgi := (hq2 k g hk).1 hkq
   refine ⟨_, rfl, .inl ⟨rfl, hgi, (hs.odd g (List.mem_of_getElem? hk)).2, by simp only; rw [hset]; exact hne, fun j hij hjg => ?_⟩⟩
   simp only at hjg
   by_cases ho : Z1i f j
   ·obtain ⟨g', hg', rfl⟩ := ho
    obtain ⟨k', hk'⟩ := List.getElem?_of_mem hg'
    rw [Z0M hs.inc hg'];refine hn k' g' hk' ?_ ((hq2 k' g' hk').2 hij)
    rcases Nat.lt_or_ge k k' with h | h
    ·exact h
    ·rcases Nat.lt_or_ge k' k with h' | h'
     ·have := hs.inc k' k g' g h' hk' hk; omega
     ·have : k = k' := by omega
      subst this; rw [hk] at hk'; cases hk'; omega
   ·exact Z5J hs hbare ho
  ·refine ⟨_, rfl, .inr ⟨rfl, rfl, fun j hij _ => ?_⟩⟩
   by_cases ho : Z1i f j
   ·obtain ⟨g', hg', rfl⟩ := ho
    obtain ⟨k', hk'⟩ := List.getElem?_of_mem hg'
    rw [Z0M hs.inc hg'];exact hn k' g' hk' ((hq2 k' g' hk').2 hij)
   ·exact Z5J hs hbare ho
 | false =>
  rw [cond_false];obtain ⟨r, hr, hpost⟩ := Z1F (step := Zu.s1 f (-1)) (I := fun (s : Int) => s ≤ i ∧ -1099511627777 ≤ s ∧ ∀ k, k ≤ i → s < k → ZZ f k = []) (fun s => (s + 1099511627777).toNat)
   (fun r => (∃ j, r = .ret (j, true) ∧ j ≤ i ∧ ZJ j ∧ ZZ f j ≠ [] ∧ ∀ k, k ≤ i → j < k → ZZ f k = []) ∨ (r = .go () ∧ ∀ k, k ≤ i → ZJ k → ZZ f k = [])) (by
   rintro s ⟨hs1, hs2, hn⟩;unfold Zu.s1;rw [Z5e]
   by_cases ht : ZJ s
   ·rw [Zq ht, cond_true, Z81 hl hs (Z1g ht), ZY (by unfold ZJ at ht; omega)]
    simp only [Option.bind_some]
    by_cases hc : ZZ f s = []
    ·rw [hc];refine .inl ⟨s + -1, by simp, ⟨by omega, by unfold ZJ at ht; omega, fun k hk hks => ?_⟩, by unfold ZJ at ht; omega⟩
     by_cases h : k = s
     ·rw [h]; exact hc
     ·exact hn k hk (by omega)
    ·rw [Zq hc, cond_true];exact .inr ⟨_, rfl, .inl ⟨s, rfl, hs1, ht, hc, hn⟩⟩
   ·rw [Zv ht, cond_false];exact .inr ⟨_, rfl, .inr ⟨rfl, fun k hk htk => hn k hk (by unfold ZJ at ht htk; omega)⟩⟩) i ⟨Int.le_refl _, by omega, fun k h h' => by omega⟩
  rw [hr];simp only [Option.bind_some]
  rcases hpost with ⟨j, rfl, h1, h2, h3, h4⟩ | ⟨rfl, hn⟩
  ·exact ⟨_, rfl, .inl ⟨rfl, h1, h2, h3, h4⟩⟩
  ·exact ⟨_, rfl, .inr ⟨rfl, rfl, hn⟩⟩
def Above (f : Form) (i : Int) (r : Int × Bool) : Prop := (r.2 = true ∧ i < r.1 ∧ ZJ r.1 ∧ ZZ f r.1 ≠ [] ∧ ∀ k, i < k → k < r.1 → ZJ k → ZZ f k = []) ∨ (r.2 = false ∧ r.1 = 0 ∧ ∀ k, i < k → ZJ k → ZZ f k = [])
def Under (f : Form) (i : Int) (r : Int × Bool) : Prop := (r.2 = true ∧ r.1 < i ∧ ZJ r.1 ∧ ZZ f r.1 ≠ [] ∧ ∀ k, k < i → r.1 < k → ZJ k → ZZ f k = []) ∨ (r.2 = false ∧ r.1 = 0 ∧ ∀ k, k < i → ZJ k → ZZ f k = [])
theorem Z4O {f : Form} (hl : Lim f) (hs : Shape f) {i : Int} (hi : In64 i) : ∃ r, Z0u f i = some r ∧ Above f i r := by
 unfold Z0u
 by_cases h : i ≥ 1099511627776
 ·rw [Zq h, cond_true];exact ⟨_, rfl, .inr ⟨rfl, rfl, fun k hk ht => by unfold ZJ at ht; omega⟩⟩
 ·rw [Zv h, cond_false, ZY (by unfold In64 at hi; omega)]
  have hm : iMax (i + 1) (-1099511627776) = max (i + 1) (-1099511627776) := by unfold iMax; omega
  rw [hm];obtain ⟨r, h1, h2⟩ := gran_step_up hl hs (i := max (i + 1) (-1099511627776)) (by omega)
  rw [h1];refine ⟨r, rfl, ?_⟩
  rcases h2 with ⟨a, b, c, d, e⟩ | ⟨a, b, e⟩
  ·exact .inl ⟨a, by omega, c, d, fun k hk hkr ht => e k (by unfold ZJ at ht; omega) hkr⟩
  ·exact .inr ⟨a, b, fun k hk ht => e k (by have := ht; unfold ZJ at this; omega) ht⟩
theorem Z4W {f : Form} (hl : Lim f) (hs : Shape f) {i : Int} (hi : In64 i) : ∃ r, Z18 f i = some r ∧ Under f i r := by
 unfold Z18
 by_cases h : i ≤ -1099511627776
 ·rw [Zq h, cond_true];exact ⟨_, rfl, .inr ⟨rfl, rfl, fun k hk ht => by unfold ZJ at ht; omega⟩⟩
 ·rw [Zv h, cond_false, ZY (by unfold In64 at hi; omega)]
  have hm : iMin (i - 1) 1099511627776 = min (i - 1) 1099511627776 := by unfold iMin; omega
  rw [hm];obtain ⟨r, h1, h2⟩ := Z9w hl hs (i := min (i - 1) 1099511627776) (by omega)
  rw [h1];refine ⟨r, rfl, ?_⟩
  rcases h2 with ⟨a, b, c, d, e⟩ | ⟨a, b, e⟩
  ·exact .inl ⟨a, by omega, c, d, fun k hk hkr ht => e k (by unfold ZJ at ht; omega) hkr⟩
  ·exact .inr ⟨a, b, fun k hk ht => e k (by have := ht; unfold ZJ at this; omega) ht⟩
end Go.Dn

namespace Go.Dn
open Go
def BesideR (f : Form) (i : Int) (lo hi : Int × Bool) : Prop :=
 fits f i ∧ (lo.2 = true → fits f lo.1 ∧ Z2z (ZZ f lo.1) (ZZ f i)) ∧ (hi.2 = true → fits f hi.1 ∧ Z2z (ZZ f i) (ZZ f hi.1)) ∧ (lo.2 = true → hi.2 = true → Z2z (ZZ f lo.1) (ZZ f hi.1))
theorem aheadL_nil_l (b : List Span) : Z2z [] b := by intro x hx; cases hx
theorem aheadL_nil_r (a : List Span) : Z2z a [] := by intro x _ y hy; cases hy
theorem Z8r {f : Form} (hl : Lim f) (hs : Shape f) (i : Int) : Len (ZZ f i) := by
 by_cases ho : Z1i f i
 ·obtain ⟨g, hg, rfl⟩ := ho
  rw [Z0M hs.inc hg]; exact (hl.ticks g hg).2.1
 ·by_cases h0 : f.Count = 0
  ·rw [Z2W ho h0]; unfold Len; simp
  ·rw [Z2U ho h0]; unfold Len; rw [List.length_map]; exact (hl.sets _ (Z0r hs h0 i).2).1
theorem Z9H {f : Form} (hs : Shape f) {i : Int} (hf : fits f i) : RightL (ZZ f i) := by
 by_cases ho : Z1i f i
 ·obtain ⟨g, hg, rfl⟩ := ho
  rw [Z0M hs.inc hg]; exact (hs.odd g hg).1
 ·by_cases h0 : f.Count = 0
  ·rw [Z2W ho h0]; exact ⟨by simp, by simp⟩
  ·unfold fits at hf;rw [Z2U ho h0] at hf ⊢;exact (hs.core _ (Z0r hs h0 i).2).shift fun s hs' => hf (Zh (Z3k f i) s) (List.mem_map.2 ⟨s, hs', rfl⟩)
theorem near_l {c : Bool} {X S : List Span} : Z2z (if c = true then X else []) S ↔ (c = true → Z2z X S) := by
 cases c
 ·simp [aheadL_nil_l]
 ·simp
theorem near_r {c : Bool} {X S : List Span} : Z2z S (if c = true then X else []) ↔ (c = true → Z2z S X) := by
 cases c
 ·simp [aheadL_nil_r]
 ·simp
noncomputable def sideG (f : Form) (r : Int × Bool) : Option (Jx (List Span) Bool) :=
 (bif r.2 then (Z0B f r.1).bind fun x => (bif (x.2 != 0) then some (.ret false) else some (.go x.1)) else some (.go []))
open Classical in
theorem sideG_eq {f : Form} (hl : Lim f) (hs : Shape f) {r : Int × Bool} (ht : r.2 = true → ZJ r.1) : (r.2 = true ∧ ¬ fits f r.1 ∧ sideG f r = some (.ret false)) ∨ ((r.2 = true → fits f r.1) ∧ sideG f r = some (.go (if r.2 = true then ZZ f r.1 else []))) := by
 obtain ⟨j, c⟩ := r
 unfold sideG
 cases c with
 | false => exact .inr ⟨by simp, by simp⟩
 | true =>
  simp only [cond_true];rw [Z3l hl hs (Z1g (ht rfl))]
  by_cases hfl : fits f j
  ·rw [if_pos ⟨ht rfl, hfl⟩]; exact .inr ⟨fun _ => hfl, by simp⟩
  ·rw [if_neg (fun h => hfl h.2)]; exact .inl ⟨trivial, hfl, rfl⟩
open Classical in
theorem Z9m {f : Form} (hl : Lim f) (hs : Shape f) {i : Int} (hi : ZJ i) {lo hi' : Int × Bool} (hlo : Z18 f i = some lo) (hhi : Z0u f i = some hi') (tlo : lo.2 = true → ZJ lo.1) (thi : hi'.2 = true → ZJ hi'.1) :
  ∃ b, Z1T f i = some b ∧ (b = true ↔ BesideR f i lo hi') := by
 have e : Z1T f i = (Z0B f i).bind fun x1 => (bif (x1.2 != 0) then some false else (sideG f lo).bind fun y1 => y1.elim (fun r' => some r') fun a2 => (sideG f hi').bind fun y2 => y2.elim (fun r' => some r') fun a4 =>
   (Z0V a2 x1.1).bind fun x6 => ((bif x6 then (Z0V x1.1 a4).bind fun x7 => some x7 else some false)).bind fun y3 => ((bif y3 then (Z0V a2 a4).bind fun x8 => some x8 else some false)).bind fun y4 => some y4) := by
  unfold Z1T sideG;rw [hlo, hhi];simp only [Option.bind_some]
 rw [e, Z3l hl hs (Z1g hi)]
 clear e
 by_cases hf : fits f i
 ·rw [if_pos ⟨hi, hf⟩];simp only [Option.bind_some, bne_self_eq_false, cond_false]
  rcases sideG_eq hl hs tlo with ⟨h1, h2, h0⟩ | ⟨h1, h0⟩
  ·rw [h0];exact ⟨false, rfl, fun h => (by cases h), fun h => absurd (h.2.1 h1).1 h2⟩
  ·rw [h0];simp only [Option.bind_some, Jx.elim]
   rcases sideG_eq hl hs thi with ⟨h3, h4, h0'⟩ | ⟨h3, h0'⟩
   ·rw [h0'];exact ⟨false, rfl, fun h => (by cases h), fun h => absurd (h.2.2.1 h3).1 h4⟩
   ·rw [h0'];simp only [Option.bind_some];have lenA : Len (if lo.2 = true then ZZ f lo.1 else []) := by
     by_cases hc : lo.2 = true
     ·rw [if_pos hc]; exact Z8r hl hs _
     ·rw [if_neg hc]; unfold Len; simp
    generalize hA : (if lo.2 = true then ZZ f lo.1 else []) = A at lenA
    generalize hB : (if hi'.2 = true then ZZ f hi'.1 else []) = B
    obtain ⟨r1, q1, p1⟩ := Z4N (b := ZZ f i) lenA
    obtain ⟨r2, q2, p2⟩ := Z4N (a := ZZ f i) (b := B) (Z8r hl hs i)
    obtain ⟨r3, q3, p3⟩ := Z4N (b := B) lenA
    rw [q1, q2, q3];subst hA hB;rw [near_l] at p1;rw [near_r] at p2;rw [near_l, near_r] at p3;refine ⟨r1 && r2 && r3, by cases r1 <;> cases r2 <;> rfl, ?_⟩
    rw [Bool.and_eq_true, Bool.and_eq_true, p1, p2, p3]
    constructor
    ·rintro ⟨⟨a, b⟩, c⟩;exact ⟨hf, fun h => ⟨h1 h, a h⟩, fun h => ⟨h3 h, b h⟩, c⟩
    ·rintro ⟨_, a, b, c⟩;exact ⟨⟨fun h => (a h).2, fun h => (b h).2⟩, c⟩
 ·rw [if_neg (fun h => hf h.2)]
  exact ⟨false, rfl, fun h => (by cases h), fun h => absurd h.1 hf⟩
def Beside (f : Form) (i : Int) : Prop := ∀ lo hi, Under f i lo → Above f i hi → BesideR f i lo hi
theorem Under.uniq {f : Form} {i : Int} {r r' : Int × Bool} (h : Under f i r) (h' : Under f i r') : r = r' := by
 obtain ⟨a, b⟩ := r
 obtain ⟨a', b'⟩ := r'
 rcases h with ⟨rfl, h1, h2, h3, h4⟩ | ⟨rfl, rfl, h4⟩ <;> rcases h' with ⟨rfl, k1, k2, k3, k4⟩ | ⟨rfl, rfl, k4⟩
 ·simp only at *
  rcases Int.lt_trichotomy a a' with h | h | h
  ·exact absurd (h4 a' k1 h k2) k3
  ·rw [h]
  ·exact absurd (k4 a h1 h h2) h3
 ·exact absurd (k4 a h1 h2) h3
 ·exact absurd (h4 a' k1 k2) k3
 ·rfl
theorem Above.uniq {f : Form} {i : Int} {r r' : Int × Bool} (h : Above f i r) (h' : Above f i r') : r = r' := by
 obtain ⟨a, b⟩ := r
 obtain ⟨a', b'⟩ := r'
 rcases h with ⟨rfl, h1, h2, h3, h4⟩ | ⟨rfl, rfl, h4⟩ <;> rcases h' with ⟨rfl, k1, k2, k3, k4⟩ | ⟨rfl, rfl, k4⟩
 ·simp only at *
  rcases Int.lt_trichotomy a a' with h | h | h
  ·exact absurd (k4 a h1 h h2) h3
  ·rw [h]
  ·exact absurd (h4 a' k1 h k2) k3
 ·exact absurd (k4 a h1 h2) h3
 ·exact absurd (h4 a' k1 k2) k3
 ·rfl
theorem Z9T {f : Form} (hl : Lim f) (hs : Shape f) {i : Int} (hi : ZJ i) : ∃ b, Z1T f i = some b ∧ (b = true ↔ Beside f i) := by
 obtain ⟨lo, h1, h2⟩ := Z4W hl hs (Z1g hi)
 obtain ⟨hi', h3, h4⟩ := Z4O hl hs (Z1g hi)
 obtain ⟨b, h5, h6⟩ := Z9m hl hs hi h1 h3 (fun h => by rcases h2 with ⟨_, _, h, _⟩ | ⟨h', _⟩ <;> simp_all) (fun h => by rcases h4 with ⟨_, _, h, _⟩ | ⟨h', _⟩ <;> simp_all)
 refine ⟨b, h5, h6.trans ⟨fun h lo' hi'' q1 q2 => ?_, fun h => h lo hi' h2 h4⟩⟩
 rw [q1.uniq h2, q2.uniq h4]; exact h
def Z6M (f : Form) : Nat := (f.Core.map List.length).sum + (f.Odd.map (·.Ticks.length)).sum
theorem sum_take {α : Type} (g : α → Nat) {l : List α} {k : Nat} (h : k < l.length) : ((l.take (k + 1)).map g).sum = ((l.take k).map g).sum + g l[k] := by
 rw [List.take_succ_eq_append_getElem h, List.map_append, List.sum_append]; simp
theorem Z7u {f : Form} (hl : Lim f) (hc : f.Core.length ≤ 6000) (ho : f.Odd.length ≤ 6000) : Z06 f = some (Z6M f : Int) := by
 have hr := Z11
 have lenC : ∀ l ∈ f.Core, l.length ≤ 8796093022207 := fun l hm => by have := (hl.sets l hm).1; unfold Len at this; omega
 have lenO : ∀ g ∈ f.Odd, g.Ticks.length ≤ 8796093022207 := fun l hm => by have := (hl.ticks l hm).2.1; unfold Len at this; omega
 obtain ⟨a, h1, h2, h3⟩ := fold_loop (l := f.Core) (step := Z06.s0 f) (f := fun a _ x => a + (x.length : Int)) (fin := id) (a0 := (0 : Int)) (fun k a => a = ((((f.Core.take k).map List.length).sum : Nat) : Int) ∧ a ≤ k * 8796093022207) ⟨by simp, by simp⟩ (fun k x a hk ⟨ha, hb⟩ => by
   obtain ⟨q1, q2⟩ := Z8f hk
   have hx := lenC x (List.mem_of_getElem? hk)
   have hkl : k < f.Core.length := by omega
   have h0 : 0 ≤ a := by rw [ha]; omega
   unfold Z06.s0;simp only;rw [Zq q2, cond_true, q1, ZY (x := (k : Int) + 1) (by omega)]
   simp only [Option.bind_some];rw [ZY (x := a + (x.length : Int)) (by omega)]
   refine ⟨rfl, ?_, by push_cast; omega⟩
   rw [sum_take _ hkl];rw [List.getElem?_eq_getElem hkl] at hk;cases hk; rw [ha]; push_cast; rfl) (fun a _ => by unfold Z06.s0; simp only; rw [Zv (by omega)]; rfl)
 rw [List.take_length] at h2
 obtain ⟨b, h4, h5, h6⟩ := fold_loop (l := f.Odd) (step := Z06.s1 f) (f := fun a _ x => a + (x.Ticks.length : Int)) (fin := id) (a0 := a) (fun k b => b = a + ((((f.Odd.take k).map (·.Ticks.length)).sum : Nat) : Int) ∧ b ≤ a + k * 8796093022207) ⟨by simp, by simp⟩ (fun k x b hk ⟨ha, hb⟩ => by
   obtain ⟨q1, q2⟩ := Z8f hk
   have hx := lenO x (List.mem_of_getElem? hk)
   have hkl : k < f.Odd.length := by omega
   have h0 : 0 ≤ b := by rw [ha, h2]; omega
   unfold Z06.s1;simp only;rw [Zq q2, cond_true, q1, ZY (x := (k : Int) + 1) (by omega)]
   simp only [Option.bind_some];rw [ZY (x := b + (x.Ticks.length : Int)) (by omega)]
   refine ⟨rfl, ?_, by push_cast; omega⟩
   rw [sum_take _ hkl];rw [List.getElem?_eq_getElem hkl] at hk;cases hk; rw [ha]; push_cast; omega) (fun a _ => by unfold Z06.s1; simp only; rw [Zv (by omega)]; rfl)
 rw [List.take_length] at h5
 unfold Z06
 rw [h1]
 simp only [Option.bind_some, id]
 rw [h4]
 simp only [Option.bind_some, id, h5, h2, Z6M]
 push_cast; rfl
structure RightF (f : Form) : Prop where
 shape : Shape f
 turns : Turns f
 beside : ∀ g ∈ f.Odd, Beside f g.Index
def LongF (f : Form) : Prop := 6000 < f.Core.length ∨ 6000 < f.Odd.length ∨ 60000 < Z6M f
theorem Z3f {f : Form} (hl : Lim f) : (LongF f ∧ Z03 f = some 3) ∨ (¬ LongF f ∧ RightF f ∧ Z03 f = some 0) ∨ (¬ LongF f ∧ ¬ RightF f ∧ Z03 f = some 50) := by
 have holen := Z2T (b := 31) hl.odd
 unfold Z03
 by_cases h1 : 6000 < f.Core.length ∨ 6000 < f.Odd.length
 ·have e : (decide ((f.Core.length : Int) > 6000) || decide ((f.Odd.length : Int) > 6000)) = true := by
   rcases h1 with h | h
   ·rw [Zq (show (f.Core.length : Int) > 6000 by omega)]; rfl
   ·rw [Zq (show (f.Odd.length : Int) > 6000 by omega)]; simp
  rw [e];exact .inl ⟨h1.elim .inl (fun h => .inr (.inl h)), rfl⟩
 ·have e : (decide ((f.Core.length : Int) > 6000) || decide ((f.Odd.length : Int) > 6000)) = false := by
   rw [Zv (show ¬ (f.Core.length : Int) > 6000 by omega), Zv (show ¬ (f.Odd.length : Int) > 6000 by omega)]; rfl
  rw [e, cond_false, Z7u hl (by omega) (by omega)]
  simp only [Option.bind_some]
  by_cases h2 : 60000 < Z6M f
  ·rw [Zq (show (Z6M f : Int) > 60000 by omega)]
   exact .inl ⟨.inr (.inr h2), rfl⟩
  ·have hnl : ¬ LongF f := by unfold LongF; omega
   rw [Zv (show ¬ (Z6M f : Int) > 60000 by omega), cond_false]
   obtain ⟨b, hb, hbs⟩ := gran_shape_eq hl
   rw [hb];simp only [Option.bind_some];refine .inr ?_;cases b with
   | false => exact .inr ⟨hnl, fun h => (by have := hbs.2 h.shape; cases this), rfl⟩
   | true =>
    have hs := hbs.1 rfl
    obtain ⟨c, hc, hct⟩ := gran_turns_eq hl hs
    rw [hc];simp only [Option.bind_some, Bool.not_true, cond_false];cases c with
    | false => exact .inr ⟨hnl, fun h => (by have := hct.2 h.turns; cases this), rfl⟩
    | true =>
     simp only [Bool.not_true, cond_false]
     rcases Z3w (l := f.Odd) (step := Z03.s0 f) (fun _ g => Beside f g.Index) (no := .ret 50) (yes := .go ()) (fun k g hk _ => by
       obtain ⟨q1, q2⟩ := Z8f hk
       obtain ⟨b, hb, hbb⟩ := Z9T hl hs (hs.odd g (List.mem_of_getElem? hk)).2
       unfold Z03.s0;rw [Zq q2, cond_true, q1, ZY (by omega)]
       simp only [Option.bind_some, hb];cases b
       ·exact .inr ⟨rfl, fun h => by have := hbb.2 h; cases this⟩
       ·exact .inl ⟨rfl, hbb.1 rfl⟩) (by unfold Z03.s0; rw [Zv (by omega)]; rfl) with ⟨q1, q2⟩ | ⟨q1, q2⟩
     ·rw [q1];exact .inl ⟨hnl, ⟨hs, hct.1 rfl, fun g hg => by obtain ⟨k, hk⟩ := List.getElem?_of_mem hg; exact q2 k g hk⟩, rfl⟩
     ·rw [q1];exact .inr ⟨hnl, fun h => q2 fun k g hk => h.beside g (List.mem_of_getElem? hk), rfl⟩
def Z8e (f : Form) : Prop := f.Core.length ≤ 12 ∧ f.Odd.length ≤ 8 ∧ Z6M f ≤ 60
theorem Z6j {f : Form} (hl : Lim f) : ∃ b, Z0q f = some b ∧ (b = true ↔ Z8e f) := by
 unfold Z0q
 by_cases h : f.Core.length ≤ 12 ∧ f.Odd.length ≤ 8
 ·rw [Zq (show (f.Core.length : Int) ≤ 12 by omega), Zq (show (f.Odd.length : Int) ≤ 8 by omega), Z7u hl (by omega) (by omega)]
  refine ⟨decide ((Z6M f : Int) ≤ 60), rfl, ?_⟩;rw [decide_eq_true_iff];exact ⟨fun h' => ⟨h.1, h.2, by omega⟩, fun h' => by have := h'.2.2; omega⟩
 ·have e : (decide ((f.Core.length : Int) ≤ 12) && decide ((f.Odd.length : Int) ≤ 8)) = false := by
   by_cases h1 : f.Core.length ≤ 12
   ·rw [Zv (show ¬ (f.Odd.length : Int) ≤ 8 by omega)]; simp
   ·rw [Zv (show ¬ (f.Core.length : Int) ≤ 12 by omega)]; rfl
  rw [e];exact ⟨false, rfl, fun h => (by cases h), fun h' => absurd ⟨h'.1, h'.2.1⟩ h⟩
end Go.Dn

namespace Go.Dn
open Go
theorem Z2l {f : Form} {l : List Span} : l ∈ full f ↔ l ∈ f.Core ∧ l ≠ [] := by
 unfold full
 rw [List.mem_filter, decide_eq_true_iff, gt_iff_lt, List.length_pos_iff]
theorem full_pair {f : Form} (hs : Shape f) (ht : Turns f) : (full f).Pairwise (fun a b => lstT a < fstT b) := by
 have hm : ∀ x ∈ full f, fstT x ≤ lstT x := fun x hx => Z5I (hs.core x (Z2l.1 hx).1) (Z2l.1 hx).2
 have h1 := ht.1
 generalize full f = l at hm h1
 induction l with
 | nil => exact .nil
 | cons x l ih =>
  have ih := ih (fun y hy => hm y (List.mem_cons_of_mem _ hy)) (fun k a b ha hb => h1 (k + 1) a b ha hb)
  refine List.pairwise_cons.2 ⟨fun y hy => ?_, ih⟩
  cases l with
  | nil => cases hy
  | cons z l =>
   have hxz := h1 0 x z rfl rfl
   rcases List.mem_cons.1 hy with rfl | hy
   ·exact hxz
   ·have := (List.pairwise_cons.1 ih).1 y hy
    have := hm z (by simp)
    omega
theorem core_pair {f : Form} (hs : Shape f) (ht : Turns f) {j k : Nat} {a b : List Span} (hjk : j < k) (ha : f.Core[j]? = some a) (hb : f.Core[k]? = some b) (na : a ≠ []) (nb : b ≠ []) : lstT a < fstT b := by
 have h := full_pair hs ht
 unfold full at h
 rw [List.pairwise_filter] at h
 have hj := (List.getElem?_eq_some_iff.1 ha)
 have hk := (List.getElem?_eq_some_iff.1 hb)
 obtain ⟨hj, rfl⟩ := hj
 obtain ⟨hk, rfl⟩ := hk
 exact List.pairwise_iff_getElem.1 h j k hj hk hjk (by rw [decide_eq_true_iff]; exact List.length_pos_iff.2 na) (by rw [decide_eq_true_iff]; exact List.length_pos_iff.2 nb)
theorem core_turn {f : Form} (hs : Shape f) (ht : Turns f) {a b : List Span} (ha : a ∈ f.Core) (hb : b ∈ f.Core) (na : a ≠ []) (nb : b ≠ []) : lstT a < fstT b + f.Period := by
 have hA := Z2l.2 ⟨ha, na⟩
 have hB := Z2l.2 ⟨hb, nb⟩
 have hm : ∀ x ∈ full f, fstT x ≤ lstT x := fun x hx => Z5I (hs.core x (Z2l.1 hx).1) (Z2l.1 hx).2
 have hn : full f ≠ [] := List.ne_nil_of_mem hA
 have hlast := List.getLast?_eq_some_getLast hn
 have hhead := List.head?_eq_some_head hn
 have h2 := ht.2 _ _ hlast hhead
 have hp := full_pair hs ht
 have e1 : lstT a ≤ lstT ((full f).getLast hn) := by
  obtain ⟨j, hj⟩ := List.getElem?_of_mem hA
  obtain ⟨hjl, hj⟩ := List.getElem?_eq_some_iff.1 hj
  by_cases hc : j = (full f).length - 1
  ·subst hc;rw [List.getLast_eq_getElem, hj];exact Int.le_refl _
  ·have := List.pairwise_iff_getElem.1 hp j ((full f).length - 1) hjl (by omega) (by omega)
   rw [hj] at this;have h5 := hm _ (List.getLast_mem hn)
   rw [List.getLast_eq_getElem] at h5 ⊢;omega
 have e2 : fstT ((full f).head hn) ≤ fstT b := by
  obtain ⟨j, hj⟩ := List.getElem?_of_mem hB
  obtain ⟨hjl, hj⟩ := List.getElem?_eq_some_iff.1 hj
  have hh : (full f).head hn = (full f)[0]'(by omega) := List.head_eq_getElem hn
  by_cases hc : j = 0
  ·subst hc;rw [hh, hj];exact Int.le_refl _
  ·have := List.pairwise_iff_getElem.1 hp 0 j (by omega) hjl (by omega)
   rw [hj, ← hh] at this;have h5 := hm _ (List.head_mem hn)
   omega
 omega
theorem ZAL {f : Form} (hs : Shape f) (h0 : f.Count ≠ 0) (i : Int) : f.Core[(i % f.Count).toNat]? = some (Z0f f i) := by
 have := (Z0r hs h0 i).1
 unfold at? at this
 rwa [if_pos (Int.emod_nonneg i h0)] at this
theorem Z9o {f : Form} (hs : Shape f) (ht : Turns f) (h0 : f.Count ≠ 0) {i k : Int} (hik : i < k) (ni : Z0f f i ≠ []) (nk : Z0f f k ≠ []) : lstT (Z0f f i) + Z3k f i < fstT (Z0f f k) + Z3k f k := by
 have hp := Z89 hs h0
 have di := Int.emod_add_mul_ediv i f.Count
 have dk := Int.emod_add_mul_ediv k f.Count
 have mi := Int.emod_nonneg i h0
 have mk := Int.emod_nonneg k h0
 have li := Int.emod_lt_of_pos i hp
 have lk := Int.emod_lt_of_pos k hp
 have hq : i / f.Count ≤ k / f.Count := Int.ediv_le_ediv hp (by omega)
 unfold Z3k
 rcases Int.lt_or_eq_of_le hq with h | h
 ·have h1 := core_turn hs ht (Z0r hs h0 i).2 (Z0r hs h0 k).2 ni nk
  have h2 : (i / f.Count + 1) * f.Period ≤ k / f.Count * f.Period := Int.mul_le_mul_of_nonneg_right (by omega) hs.per.1
  rw [Int.add_mul, Int.one_mul] at h2;omega
 ·rw [h] at di ⊢;have : i % f.Count < k % f.Count := by omega
  have h1 := core_pair hs ht (j := (i % f.Count).toNat) (k := (k % f.Count).toNat) (by omega) (ZAL hs h0 i) (ZAL hs h0 k) ni nk
  omega
theorem Z59 {l : List Span} (d : Int) (hn : l ≠ []) : lstT (l.map (Zh d)) = lstT l + d ∧ fstT (l.map (Zh d)) = fstT l + d := by
 unfold lstT fstT
 rw [List.getLast?_map, List.head?_map, List.getLast?_eq_some_getLast hn, List.head?_eq_some_head hn]
 exact ⟨rfl, rfl⟩
theorem under_some {f : Form} (hl : Lim f) (hs : Shape f) {i k : Int} (hk : In64 k) (hik : i < k) (ti : ZJ i) (ni : ZZ f i ≠ []) : ∃ j, Under f k (j, true) ∧ i ≤ j := by
 obtain ⟨r, _, h⟩ := Z4W hl hs hk
 obtain ⟨j, b⟩ := r
 have h' := h
 rcases h with ⟨rfl, h1, h2, h3, h4⟩ | ⟨rfl, _, h4⟩
 ·refine ⟨j, h', ?_⟩;apply Classical.byContradiction;intro hc;exact ni (h4 i hik (by simp only; omega) ti)
 ·exact absurd (h4 i hik ti) ni
theorem above_some {f : Form} (hl : Lim f) (hs : Shape f) {i k : Int} (hk : In64 k) (hik : k < i) (ti : ZJ i) (ni : ZZ f i ≠ []) : ∃ j, Above f k (j, true) ∧ j ≤ i := by
 obtain ⟨r, _, h⟩ := Z4O hl hs hk
 obtain ⟨j, b⟩ := r
 have h' := h
 rcases h with ⟨rfl, h1, h2, h3, h4⟩ | ⟨rfl, _, h4⟩
 ·refine ⟨j, h', ?_⟩;apply Classical.byContradiction;intro hc;exact ni (h4 i hik (by simp only; omega) ti)
 ·exact absurd (h4 i hik ti) ni
theorem RightF.order {f : Form} (hl : Lim f) (hr : RightF f) : ∀ (n : Nat) (i k : Int), (k - i).toNat = n → i < k → ZJ i → ZJ k → fits f i → fits f k → ZZ f i ≠ [] → ZZ f k ≠ [] → lstT (ZZ f i) < fstT (ZZ f k) := by
 have hs := hr.shape
 intro n
 induction n using Nat.strongRecOn with
 | _ n ih =>
  intro i k hn hik ti tk fi fk ni nk
  by_cases ok : Z1i f k
  ·obtain ⟨g, hg, rfl⟩ := ok
   obtain ⟨j, hj, hij⟩ := under_some hl hs (Z1g tk) hik ti ni
   obtain ⟨hi', _, hab⟩ := Z4O hl hs (Z1g tk)
   obtain ⟨_, hlo, _, _⟩ := hr.beside g hg _ _ hj hab
   obtain ⟨fj, aj⟩ := hlo rfl
   have hj2 := hj
   rcases hj2 with ⟨_, j1, j2, j3, j4⟩ | ⟨h, _⟩
   ·simp only at fj aj j1 j2 j3;have hjk := (ZAK j3 nk).1 aj
    by_cases hji : i = j
    ·rw [hji]; exact hjk
    ·have h1 := ih (j - i).toNat (by omega) i j rfl (by omega) ti j2 fi fj ni j3
     have h2 := Z5I (Z9H hs fj) j3
     omega
   ·cases h
  ·by_cases oi : Z1i f i
   ·obtain ⟨g, hg, rfl⟩ := oi
    obtain ⟨j, hj, hij⟩ := above_some hl hs (Z1g ti) hik tk nk
    obtain ⟨lo', _, hun⟩ := Z4W hl hs (Z1g ti)
    obtain ⟨_, _, hhi, _⟩ := hr.beside g hg _ _ hun hj
    obtain ⟨fj, aj⟩ := hhi rfl
    have hj2 := hj
    rcases hj2 with ⟨_, j1, j2, j3, j4⟩ | ⟨h, _⟩
    ·simp only at fj aj j1 j2 j3;have hjk := (ZAK ni j3).1 aj
     by_cases hji : j = k
     ·rw [← hji]; exact hjk
     ·have h1 := ih (k - j).toNat (by omega) j k rfl (by omega) j2 tk fj fk j3 nk
      have h2 := Z5I (Z9H hs fj) j3
      omega
    ·cases h
   ·have h0 : f.Count ≠ 0 := fun h => ni (Z2W oi h)
    have ni' := fun h => ni ((Z1o oi h0).2 h)
    have nk' := fun h => nk ((Z1o ok h0).2 h)
    rw [Z2U oi h0, Z2U ok h0, (Z59 _ ni').1, (Z59 _ nk').2];exact Z9o hs hr.turns h0 hik ni' nk'
end Go.Dn

namespace Go.Dn
open Go
theorem Above.tick {f : Form} {i : Int} {r : Int × Bool} (h : Above f i r) (hr : r.2 = true) : i < r.1 ∧ ZJ r.1 ∧ ZZ f r.1 ≠ [] ∧ ∀ k, i < k → k < r.1 → ZJ k → ZZ f k = [] := by
 rcases h with ⟨_, h1, h2, h3, h4⟩ | ⟨h, _⟩
 ·exact ⟨h1, h2, h3, h4⟩
 ·rw [hr] at h; cases h
theorem Under.tick {f : Form} {i : Int} {r : Int × Bool} (h : Under f i r) (hr : r.2 = true) : r.1 < i ∧ ZJ r.1 ∧ ZZ f r.1 ≠ [] ∧ ∀ k, k < i → r.1 < k → ZJ k → ZZ f k = [] := by
 rcases h with ⟨_, h1, h2, h3, h4⟩ | ⟨h, _⟩
 ·exact ⟨h1, h2, h3, h4⟩
 ·rw [hr] at h; cases h
end Go.Dn

namespace Go.Dn
open Go
theorem Z85 {α β : Type} {a : List α} {b : List β} {step : Int → Option (Int ⊕ Jx Unit Bool)} {eq : α → β → Option Bool} (P : α → β → Prop)
  (hl : (a.length : Int) < 9223372036854775807) (hab : a.length = b.length)
  (heq : ∀ (k : Nat) x y, a[k]? = some x → b[k]? = some y → ∃ r, eq x y = some r ∧ (r = true ↔ P x y))
  (hstep : ∀ s, step s = bif decide (s < (a.length : Int)) then (at? a s).bind fun x1 => (at? b s).bind fun x2 => (eq x1 x2).bind fun x3 => bif (!x3) then some (.inr (.ret false)) else some (.inl (w64 (s + 1))) else some (.inr (.go ()))) :
  (ZM step 0 = some (.go ()) ∧ ∀ (k : Nat) x y, a[k]? = some x → b[k]? = some y → P x y) ∨ (ZM step 0 = some (.ret false) ∧ ¬ ∀ (k : Nat) x y, a[k]? = some x → b[k]? = some y → P x y) := by
 rcases Z3w (l := a) (step := step) (fun k x => ∀ y, b[k]? = some y → P x y) (no := .ret false) (yes := .go ()) (fun k x hk hp => by
  have hlt := (List.getElem?_eq_some_iff.1 hk).1
  have hat : at? a (k : Int) = some x := by rw [at?_nat hlt]; rw [List.getElem?_eq_getElem hlt] at hk; exact hk
  have hbt : at? b (k : Int) = some (b[k]'(by omega)) := at?_nat (by omega)
  have hbk : b[k]? = some (b[k]'(by omega)) := List.getElem?_eq_getElem (by omega)
  obtain ⟨r, h1, h2⟩ := heq k x _ hk hbk
  rw [hstep, Zq (show (k : Int) < a.length by omega), cond_true, hat, hbt, ZY (show _ by omega)]
  simp only [Option.bind_some, h1];cases r with
  | true => exact .inl ⟨rfl, fun y hy => by rw [hbk] at hy; cases hy; exact h2.1 rfl⟩
  | false => exact .inr ⟨rfl, fun h => by have := h2.2 (h _ hbk); cases this⟩) (by
  rw [hstep, Zv (by omega)]; rfl) with ⟨h1, h2⟩ | ⟨h1, h2⟩
 ·exact .inl ⟨h1, fun k x y hx hy => h2 k x hx y hy⟩
 ·exact .inr ⟨h1, fun h => h2 fun k x hx y hy => h k x y hx hy⟩
theorem Z9K {a b : List Span} {d : Int} (hl : a.length = b.length) : (∀ (k : Nat) x y, a[k]? = some x → b[k]? = some y → y.From - x.From = d ∧ y.To - x.To = d) ↔ b = a.map (Zh d) := by
 constructor
 ·intro h;apply List.ext_getElem?;intro k
  by_cases hk : k < a.length
  ·have h1 : a[k]? = some a[k] := List.getElem?_eq_getElem hk
   have h2 : b[k]? = some (b[k]'(by omega)) := List.getElem?_eq_getElem (by omega)
   rw [h2, List.getElem?_map, h1];obtain ⟨q1, q2⟩ := h k _ _ h1 h2
   simp only [Option.map_some, Zh, Option.some.injEq];generalize b[k]'(by omega) = y at q1 q2 ⊢
   obtain ⟨y1, y2⟩ := y
   simp only at q1 q2;simp only [Span.mk.injEq];omega
  ·rw [List.getElem?_eq_none (by omega), List.getElem?_eq_none (by simp; omega)]
 ·rintro rfl k x y hx hy;rw [List.getElem?_map, hx] at hy;simp only [Option.map_some, Option.some.injEq] at hy;subst hy;simp only [Zh];omega
theorem Z8q {a b : List Span} {d : Int} (ha : RightL a) (hb : RightL b) (hl : Len a) : ∃ r, Z1f a b d = some r ∧ (r = true ↔ b = a.map (Zh d)) := by
 have hl' : (a.length : Int) < 9223372036854775807 := by have := Z11; unfold Len at hl; omega
 unfold Z1f ZB
 by_cases hlen : a.length = b.length
 ·rw [Z5x (by omega), cond_false]
  have tk : ∀ {l : List Span}, RightL l → ∀ (k : Nat) s, l[k]? = some s → ZJ s.From ∧ ZJ s.To := fun {l} h k s hs => by
   have := Z5c.1 h k s hs
   unfold Z3r at this;exact ⟨this.1, this.2.1⟩
  rcases Z85 (a := a) (b := b) (step := ZB.s0 a b (fun z0 z1 => some (Z10 z0 z1 d))) (eq := fun z0 z1 => some (Z10 z0 z1 d)) (fun x y => y.From - x.From = d ∧ y.To - x.To = d) hl' hlen (fun k x y hx hy => by
   refine ⟨_, rfl, ?_⟩;obtain ⟨x1, x2⟩ := tk ha k x hx
   obtain ⟨y1, y2⟩ := tk hb k y hy
   unfold ZJ at x1 x2 y1 y2;unfold Z10;rw [ZY (by omega), ZY (by omega)]
   simp) (fun s => rfl) with ⟨h1, h2⟩ | ⟨h1, h2⟩
  ·rw [h1];exact ⟨true, rfl, ⟨fun _ => (Z9K hlen).1 h2, fun _ => rfl⟩⟩
  ·rw [h1];refine ⟨false, rfl, by simp only [Bool.false_eq_true, false_iff]; exact fun h => h2 ((Z9K hlen).2 h)⟩
 ·rw [bne_t (by omega), cond_true]
  refine ⟨false, rfl, by simp only [Bool.false_eq_true, false_iff]; rintro rfl; exact hlen (by simp)⟩
end Go.Dn

namespace Go.Dn
open Go
noncomputable def cs (f : Form) (i : Int) : List Span := (Z0f f i).map (Zh (Z3k f i))
theorem Z17 (l : List Span) (a b : Int) : (l.map (Zh a)).map (Zh b) = l.map (Zh (a + b)) := by
 rw [List.map_map]
 congr 1
 funext s
 simp only [Function.comp, Zh, Span.mk.injEq]
 omega
theorem shift_inj {a b : List Span} {d : Int} (h : a.map (Zh d) = b.map (Zh d)) : a = b := by
 have := congrArg (List.map (Zh (-d))) h
 rw [Z17, Z17, Int.add_right_neg, Z7U, Z7U] at this
 exact this
theorem Z5D {f : Form} (h0 : f.Count ≠ 0) (i : Int) : cs f (i + f.Count) = (cs f i).map (Zh f.Period) := by
 unfold cs Z0f Z3k
 rw [Z17, Int.add_emod_right, Int.add_ediv_of_dvd_right (Int.dvd_refl _), Int.ediv_self h0, Int.add_mul, Int.one_mul]
theorem Z5Q {f : Form} (h0 : f.Count ≠ 0) (i k : Int) : cs f (i + f.Count * k) = (cs f i).map (Zh (k * f.Period)) := by
 unfold cs Z0f Z3k
 rw [Z17, Int.add_mul_emod_self_left, Int.add_mul_ediv_left _ _ h0, Int.add_mul]
theorem Z2p {f : Form} {i : Int} (h0 : 0 ≤ i) (h1 : i < f.Count) : cs f i = f.Core.getD i.toNat [] := by
 unfold cs Z0f Z3k
 rw [Int.emod_eq_of_lt h0 h1, Int.ediv_eq_zero_of_lt h0 h1, Int.zero_mul, Z7U]
def TurnZ (f : Form) (d q : Int) : Prop := ∀ i, cs f (i + d) = (cs f i).map (Zh q)
theorem turn_of {f : Form} (h0 : 0 < f.Count) {d q : Int} (h : ∀ i, 0 ≤ i → i < f.Count → cs f (i + d) = (cs f i).map (Zh q)) : TurnZ f d q := by
 intro i
 have e : i = i % f.Count + f.Count * (i / f.Count) := (Int.emod_add_mul_ediv i f.Count).symm
 have h1 := h (i % f.Count) (Int.emod_nonneg i (by omega)) (Int.emod_lt_of_pos i h0)
 have e2 : i + d = (i % f.Count + d) + f.Count * (i / f.Count) := by omega
 rw [e2, Z5Q (by omega), h1]
 conv => rhs; rw [e, Z5Q (by omega)]
 rw [Z17, Z17, Int.add_comm]
def Z5E (f : Form) (d k : Int) : Int := if k + d ≥ f.Count then k + d - f.Count else k + d
def Z6K (f : Form) (d k : Int) : Int := if k + d ≥ f.Count then f.Period else 0
theorem wrap_cs {f : Form} {d k : Int} (hd : 1 ≤ d) (hdn : d ≤ f.Count) (h0 : 0 ≤ k) (h1 : k < f.Count) : 0 ≤ Z5E f d k ∧ Z5E f d k < f.Count ∧ cs f (k + d) = (cs f (Z5E f d k)).map (Zh (Z6K f d k)) := by
 unfold Z5E Z6K
 by_cases h : k + d ≥ f.Count
 ·rw [if_pos h, if_pos h];refine ⟨by omega, by omega, ?_⟩
  rw [← Z5D (by omega)]
  congr 1; omega
 ·rw [if_neg h, if_neg h, Z7U];exact ⟨by omega, by omega, rfl⟩
theorem canon_turn_eq {f : Form} (hl : Lim f) (hs : Shape f) {d q : Int} (hd : 1 ≤ d) (hdn : d ≤ f.Count) (hq : 0 ≤ q ∧ q ≤ 1099511627776) : ∃ r, Z0c f d q = some r ∧ (r = true ↔ TurnZ f d q) := by
 have hcl : (f.Core.length : Int) < 4611686018427387904 := Z2T (b := 23) hl.core
 have hcnt := hs.count
 have key : ∀ k : Int, 0 ≤ k → k < f.Count → (cs f (Z5E f d k) = (cs f k).map (Zh (q - Z6K f d k)) ↔ cs f (k + d) = (cs f k).map (Zh q)) := fun k k0 k1 => by
  obtain ⟨_, _, h⟩ := wrap_cs hd hdn k0 k1
  rw [h]
  constructor
  ·intro e;rw [e, Z17]
   congr 2; omega
  ·intro e;apply shift_inj (d := Z6K f d k)
   rw [e, Z17]
   congr 2; omega
 unfold Z0c
 rcases Z3w (l := f.Core) (step := Z0c.s0 f d q) (fun k x => cs f (Z5E f d k) = x.map (Zh (q - Z6K f d k))) (no := .ret false) (yes := .go ()) (fun k x hk hp => by
  have hlt := (List.getElem?_eq_some_iff.1 hk).1
  have hat : at? f.Core (k : Int) = some x := by rw [at?_nat hlt]; rw [List.getElem?_eq_getElem hlt] at hk; exact hk
  obtain ⟨w0, w1, _⟩ := wrap_cs (f := f) (k := (k : Int)) hd hdn (by omega) (by omega)
  have hx := hs.core x (List.mem_of_getElem? hk)
  have hlx := (hl.sets x (List.mem_of_getElem? hk)).1
  have hwl : (Z5E f d k).toNat < f.Core.length := by omega
  have hgw : cs f (Z5E f d k) = f.Core[(Z5E f d k).toNat] := by rw [Z2p w0 w1, List.getD_eq_getElem?_getD, List.getElem?_eq_getElem hwl]; rfl
  have hy := hs.core _ (List.getElem_mem hwl)
  have hat2 : at? f.Core (Z5E f d k) = some f.Core[(Z5E f d k).toNat] := at?_lt w0 (by omega)
  have hpk : (bif decide (w64 ((k : Int) + d) ≥ f.Count) then some (w64 (w64 ((k : Int) + d) - f.Count), f.Period) else some (w64 ((k : Int) + d), 0)) = some (Z5E f d k, Z6K f d k) := by
   rw [ZY (show _ by omega)]
   unfold Z5E Z6K
   by_cases h : (k : Int) + d ≥ f.Count
   ·rw [Zq h, cond_true, if_pos h, if_pos h, ZY (show _ by omega)]
   ·rw [Zv h, cond_false, if_neg h, if_neg h]
  obtain ⟨r, h1, h2⟩ := Z8q (d := q - Z6K f d k) hx hy hlx
  have hwp : 0 ≤ Z6K f d k ∧ Z6K f d k ≤ 1099511627776 := by have := hs.per; unfold Z6K; split <;> omega
  unfold Z0c.s0;rw [Zq (show (k : Int) < f.Core.length by omega), cond_true, hat]
  simp only [Option.bind_some, hpk, hat2];rw [ZY (show _ by omega), h1]
  simp only [Option.bind_some];rw [hgw];cases r with
  | true => exact .inl ⟨by simp only [Bool.not_true, cond_false, Option.bind_some, Jx.elim]; rw [ZY (show _ by omega)], h2.1 rfl⟩
  | false => exact .inr ⟨rfl, fun h => by have := h2.2 h; cases this⟩) (by
  unfold Z0c.s0; rw [Zv (by omega)]; rfl) with ⟨h1, h2⟩ | ⟨h1, h2⟩
 ·rw [h1];refine ⟨true, rfl, ⟨fun _ => turn_of (by omega) fun i i0 i1 => ?_, fun _ => rfl⟩⟩
  have hlt : i.toNat < f.Core.length := by omega
  have := h2 i.toNat _ (List.getElem?_eq_getElem hlt)
  rw [Int.toNat_of_nonneg i0] at this;refine (key i i0 i1).1 ?_;rw [this, Z2p i0 i1, List.getD_eq_getElem?_getD, List.getElem?_eq_getElem hlt]; rfl
 ·rw [h1];refine ⟨false, rfl, ⟨(fun h => nomatch h), fun ht => absurd (fun k x hk => ?_) h2⟩⟩
  have hlt := (List.getElem?_eq_some_iff.1 hk).1
  have := (key k (by omega) (by omega)).2 (ht k)
  rw [this, Z2p (by omega) (by omega), List.getD_eq_getElem?_getD, Int.toNat_natCast, hk]; rfl
end Go.Dn

namespace Go.Dn
open Go
structure Good (f : Form) (d : Int) : Prop where
 pos : 1 ≤ d
 dvd : d ∣ f.Count
 rest : f.Period % (f.Count / d) = 0
 turn : TurnZ f d (f.Period / (f.Count / d))
theorem good_self {f : Form} (h0 : 0 < f.Count) : Good f f.Count := by
 have e : f.Count / f.Count = 1 := Int.ediv_self (by omega)
 exact ⟨by omega, Int.dvd_refl _, by rw [e]; omega, by rw [e, Int.ediv_one]; exact Z5D (by omega)⟩
theorem copy_loop {x4 : List (List Span)} (hc : x4.length * 24 ≤ reachBytes) (hs : ∀ l ∈ x4, Len l) : ZM (Zp.s1 x4) (0, []) = some x4 := by
 have hcl : (x4.length : Int) < 4611686018427387904 := Z2T (b := 23) hc
 have hr := Z11
 have hro := Z3h
 refine Z27 (I := fun s r => r = x4 ∧ ∃ k : Nat, k ≤ x4.length ∧ s = ((k : Int), x4.take k)) (fun s => x4.length - s.1.toNat) ?_ ⟨rfl, 0, Nat.zero_le _, rfl⟩
 rintro s r ⟨rfl, k, hk, rfl⟩
 unfold Zp.s1
 by_cases hlt : k < r.length
 ·left
  have hl := hs _ (List.getElem_mem hlt)
  unfold Len at hl;have hcp : clone? 16 r[k] = some r[k] := by unfold clone?; rw [if_pos (by omega)]
  have hap : app? 24 (r.take k) [r[k]] = some (r.take (k + 1)) := by
   rw [app?_ok (by simp only [List.length_take, List.length_cons, List.length_nil]; have : min k r.length + 1 ≤ r.length := (by omega); have := Nat.mul_le_mul_right 24 this; omega)]
   rw [List.take_append_getElem hlt]
  refine ⟨((k : Int) + 1, r.take (k + 1)), ?_, ⟨rfl, k + 1, hlt, by push_cast; rfl⟩, by simp; omega⟩
  rw [Zq (show (k : Int) < r.length by omega), cond_true, at?_nat hlt]
  simp only [Option.bind_some, hcp, hap];rw [ZY (show _ by omega)]
 ·right
  have : k = r.length := by omega
  subst this;rw [Zv (show ¬ ((r.length : Int) < r.length) by omega), cond_false, List.take_length]
theorem core_b0_eq {f : Form} (hl : Lim f) (hs : Shape f) {d : Int} (hd : 1 ≤ d) (hdn : d ∣ f.Count) (h0 : 0 < f.Count) :
  (Good f d ∧ Zp.b0 f ([], 0, 0) d = some ((f.Core.take d.toNat, f.Period / (f.Count / d), d), 1)) ∨ (¬ Good f d ∧ Zp.b0 f ([], 0, 0) d = some (([], 0, 0), 0)) := by
 have hle : d ≤ f.Count := Int.le_of_dvd h0 hdn
 have hcl : (f.Core.length : Int) < 4611686018427387904 := Z2T (b := 23) hl.core
 have hcnt := hs.count
 have hm : 0 < f.Count / d := Int.ediv_pos_of_pos_of_dvd h0 (by omega) hdn
 have hmle : f.Count / d ≤ f.Count := Int.ediv_le_self _ (by omega)
 have htd : f.Count.tdiv d = f.Count / d := Int.tdiv_eq_ediv_of_nonneg (by omega)
 have hq : 0 ≤ f.Period / (f.Count / d) ∧ f.Period / (f.Count / d) ≤ 1099511627776 := by
  have h1 := hs.per
  have h2 : f.Period / (f.Count / d) ≤ f.Period := Int.ediv_le_self _ h1.1
  have h3 : 0 ≤ f.Period / (f.Count / d) := Int.ediv_nonneg h1.1 (by omega)
  omega
 have hfl : Z0j f.Period (w64 (f.Count.tdiv d)) = some (f.Period / (f.Count / d), f.Period % (f.Count / d), 0) := by
  rw [htd, ZY (show _ by omega), Z2r hl.period (by unfold In64; omega), Z4K hm]
 unfold Zp.b0
 rw [nz?_ok (by omega), hfl]
 simp only [Option.bind_some]
 by_cases hr : f.Period % (f.Count / d) = 0
 ·rw [Z5x hr, cond_false];obtain ⟨r, h1, h2⟩ := canon_turn_eq hl hs hd hle hq
  rw [h1];cases r with
  | true =>
   left
   refine ⟨⟨hd, hdn, hr, h2.1 rfl⟩, ?_⟩;have hcut : cut? f.Core 0 d = some (f.Core.take d.toNat) := by
    unfold cut?;rw [if_pos ⟨by omega, by omega, by omega⟩]
    rfl
   simp only [Option.bind_some, Bool.not_true, cond_false, hcut];have := copy_loop (x4 := f.Core.take d.toNat) (by have := hl.core; simp only [List.length_take]; have h := Nat.mul_le_mul_right 24 (Nat.min_le_right d.toNat f.Core.length); omega) (fun l hl' => (hl.sets l (List.mem_of_mem_take hl')).1)
   rw [this]
   rfl
  | false =>
   right
   exact ⟨fun g => (by have := h2.2 g.turn; cases this), rfl⟩
 ·right
  refine ⟨fun g => hr g.rest, ?_⟩
  rw [bne_t hr]
  rfl
theorem least_good {f : Form} (h0 : 0 < f.Count) : ∃ d, Good f d ∧ ∀ d', Good f d' → d ≤ d' := by
 have : ∃ n : Nat, Good f n := ⟨f.Count.toNat, by rw [Int.toNat_of_nonneg (by omega)]; exact good_self h0⟩
 obtain ⟨n, hn⟩ := this
 induction n using Nat.strongRecOn with
 | _ n ih =>
  by_cases h : ∃ m : Nat, m < n ∧ Good f m
  ·obtain ⟨m, h1, h2⟩ := h
   exact ih m h1 h2
  ·refine ⟨n, hn, fun d' hd' => ?_⟩
   apply Classical.byContradiction;intro hlt;have := hd'.pos
   exact h ⟨d'.toNat, by omega, by rw [Int.toNat_of_nonneg (by omega)]; exact hd'⟩
theorem canon_bare_eq {f : Form} (hl : Lim f) : Z32 f = Z2b f := by
 unfold Z32 Z2b
 rfl
theorem canon_core_eq {f : Form} (hl : Lim f) (hs : Shape f) : (Bare f ∧ Zp f = some (Form.mk 0 0 [] [])) ∨
  (¬ Bare f ∧ 0 < f.Count ∧ ∃ d, Good f d ∧ (∀ d', Good f d' → d ≤ d') ∧ Zp f = some (Form.mk (f.Period / (f.Count / d)) d (f.Core.take d.toNat) [])) := by
 have hcl : (f.Core.length : Int) < 4611686018427387904 := Z2T (b := 23) hl.core
 have hcnt := hs.count
 obtain ⟨b, h1, h2⟩ := Z5T hl
 unfold Zp
 rw [canon_bare_eq hl, h1]
 cases b with
 | true => exact .inl ⟨h2.1 rfl, rfl⟩
 | false =>
  right
  have hnb : ¬ Bare f := fun h => by have := h2.2 h; cases this
  have h0 : 0 < f.Count := by
   rcases Nat.eq_zero_or_pos f.Core.length with h | h
   ·exact absurd (fun l hl' => by rw [List.length_eq_zero_iff.1 h] at hl'; cases hl') hnb
   ·omega
  obtain ⟨d, hg, hmin⟩ := least_good h0
  refine ⟨hnb, h0, d, hg, hmin, ?_⟩;have hdn : d ≤ f.Count := Int.le_of_dvd h0 hg.dvd
  have hd1 := hg.pos
  have hloop : ZM (Zt.s0 f.Count (Z2A (Zp.b0 f))) (1, (([], 0, 0), 0)) = some (.ret ((f.Core.take d.toNat, f.Period / (f.Count / d), d), 1)) := by
   refine Z27 (I := fun s r => r = .ret ((f.Core.take d.toNat, f.Period / (f.Count / d), d), 1) ∧ ∃ k : Int, 1 ≤ k ∧ k ≤ d ∧ s = (k, (([], 0, 0), 0))) (fun s => (d - s.1).toNat) ?_ ⟨rfl, 1, by omega, hd1, rfl⟩
   rintro s r ⟨rfl, k, k1, k2, rfl⟩;unfold Zt.s0;rw [Zq (show k ≤ f.Count by omega), cond_true, nz?_ok (by omega)]
   simp only [Option.bind_some]
   by_cases hkd : k ∣ f.Count
   ·rw [beq_t (show f.Count.tmod k = 0 from Int.tmod_eq_zero_of_dvd hkd), cond_true]
    rcases core_b0_eq hl hs k1 hkd h0 with ⟨g, e⟩ | ⟨g, e⟩
    ·have : k = d := by have := hmin k g; omega
     subst this
     right
     simp only [Z2A, if_true, e, Option.map_some, Option.bind_some]
     rfl
    ·left
     have hne : k ≠ d := fun h => g (h ▸ hg)
     refine ⟨(k + 1, (([], 0, 0), 0)), ?_, ⟨trivial, k + 1, by omega, by omega, rfl⟩, by simp; omega⟩
     simp only [Z2A, if_true, e, Option.map_some, Option.bind_some];rw [ZY (show _ by omega)]
     rfl
   ·left
    have hne : k ≠ d := fun h => hkd (h ▸ hg.dvd)
    refine ⟨(k + 1, (([], 0, 0), 0)), ?_, ⟨trivial, k + 1, by omega, by omega, rfl⟩, by simp; omega⟩
    rw [Z41 (fun h => hkd (Int.dvd_of_tmod_eq_zero h)), cond_false]
    simp only [Option.bind_some, cond_false];rw [ZY (show _ by omega)]
  unfold Zt;rw [hloop]
  rfl
end Go.Dn

namespace Go.Dn
open Go
def Turn (h : Int → List Span) (d q : Int) : Prop := ∀ i, h (i + d) = (h i).map (Zh q)
theorem Turn.neg {h : Int → List Span} {d q : Int} (t : Turn h d q) : Turn h (-d) (-q) := fun i => by
 have := t (i + -d)
 rw [show i + -d + d = i by omega] at this
 rw [this, Z17, Int.add_right_neg, Z7U]
theorem Turn.add {h : Int → List Span} {d q d' q' : Int} (t : Turn h d q) (t' : Turn h d' q') : Turn h (d + d') (q + q') := fun i => by
 rw [show i + (d + d') = (i + d) + d' by omega, t', t, Z17]
theorem Turn.zero (h : Int → List Span) : Turn h 0 0 := fun i => by rw [Int.add_zero, Z7U]
theorem Turn.nat {h : Int → List Span} {d q : Int} (t : Turn h d q) : ∀ k : Nat, Turn h (k * d) (k * q)
 | 0 => by simpa using Turn.zero h
 | k + 1 => by
  have := (Turn.nat t k).add t
  push_cast
  rw [Int.add_mul, Int.one_mul, Int.add_mul, Int.one_mul];exact this
theorem Turn.mul {h : Int → List Span} {d q : Int} (t : Turn h d q) (k : Int) : Turn h (k * d) (k * q) := by
 rcases Int.natAbs_eq k with e | e
 ·rw [e]; exact t.nat _
 ·rw [e, Int.neg_mul, Int.neg_mul]; exact (t.nat _).neg
theorem Turn.agree {h h' : Int → List Span} {d q a : Int} (t : Turn h d q) (t' : Turn h' d q) (hd : 0 < d) (he : ∀ i, a ≤ i → i < a + d → h i = h' i) : h = h' := by
 funext i
 have e : i = ((i - a) % d + a) + (i - a) / d * d := by
  have := Int.emod_add_mul_ediv (i - a) d
  rw [Int.mul_comm] at this;omega
 have h1 := Int.emod_nonneg (i - a) (show d ≠ 0 by omega)
 have h2 := Int.emod_lt_of_pos (i - a) hd
 rw [e, t.mul, t'.mul, he _ (by omega) (by omega)]
noncomputable def csz (f : Form) (i : Int) : List Span := if f.Count = 0 then [] else cs f i
theorem Z2f {f : Form} (h0 : 0 < f.Count) : csz f = cs f := by funext i; exact if_neg (by omega)
theorem Z26 {f : Form} {i : Int} (h : ¬ Z1i f i) : ZZ f i = csz f i := by
 unfold csz
 by_cases h0 : f.Count = 0
 ·rw [if_pos h0, Z2W h h0]
 ·rw [if_neg h0, Z2U h h0]; rfl
theorem csz_bare {f : Form} (hs : Shape f) (hb : Bare f) (i : Int) : csz f i = [] := by
 unfold csz
 by_cases h0 : f.Count = 0
 ·rw [if_pos h0]
 ·rw [if_neg h0]; unfold cs; rw [hb _ (Z0r hs h0 i).2]; rfl
def Z1Y (f c : Form) : Prop := (Bare f ∧ c = Form.mk 0 0 [] []) ∨ (¬ Bare f ∧ 0 < f.Count ∧ ∃ d, Good f d ∧ (∀ d', Good f d' → d ≤ d') ∧ c = Form.mk (f.Period / (f.Count / d)) d (f.Core.take d.toNat) [])
theorem canon_core_ok {f : Form} (hl : Lim f) (hs : Shape f) : ∃ c, Zp f = some c ∧ Z1Y f c := by
 rcases canon_core_eq hl hs with ⟨h1, h2⟩ | ⟨h1, h2, d, h3, h4, h5⟩
 ·exact ⟨_, h2, .inl ⟨h1, rfl⟩⟩
 ·exact ⟨_, h5, .inr ⟨h1, h2, d, h3, h4, rfl⟩⟩
theorem Z1Y.odd {f c : Form} (h : Z1Y f c) : c.Odd = [] := by
 rcases h with ⟨_, rfl⟩ | ⟨_, _, d, _, _, rfl⟩ <;> rfl
theorem Z1Y.csz {f c : Form} (hs : Shape f) (h : Z1Y f c) : csz c = csz f := by
 rcases h with ⟨hb, rfl⟩ | ⟨hb, h0, d, hg, _, rfl⟩
 ·funext i; rw [csz_bare hs hb]; rfl
 ·have hd := hg.pos
  have hdn : d ≤ f.Count := Int.le_of_dvd h0 hg.dvd
  have hcnt := hs.count
  rw [Z2f h0, Z2f (show 0 < (Form.mk (f.Period / (f.Count / d)) d (f.Core.take d.toNat) []).Count by show 0 < d; omega)]
  refine Turn.agree (a := 0) (d := d) (q := f.Period / (f.Count / d)) (Z5D (f := Form.mk (f.Period / (f.Count / d)) d (f.Core.take d.toNat) []) (show d ≠ 0 by omega)) hg.turn (by omega) (fun i i0 i1 => ?_)
  rw [Z2p i0 (show i < d by omega), Z2p i0 (by omega)]
  show (f.Core.take d.toNat).getD i.toNat [] = _
  rw [List.getD_eq_getElem?_getD, List.getD_eq_getElem?_getD, List.getElem?_take_of_lt (by omega)]
theorem Z1Y.shape {f c : Form} (hs : Shape f) (h : Z1Y f c) : Shape c := by
 rcases h with ⟨hb, rfl⟩ | ⟨hb, h0, d, hg, _, rfl⟩
 ·exact ⟨rfl, by simp, by simp, by simp, by simp, fun j k a b _ h => by simp at h⟩
 ·have hd := hg.pos
  have hdn : d ≤ f.Count := Int.le_of_dvd h0 hg.dvd
  have hcnt := hs.count
  have hm : 0 < f.Count / d := Int.ediv_pos_of_pos_of_dvd h0 (by omega) hg.dvd
  have hp : 0 < f.Period := by
   have := hs.per; have := hs.zero
   rcases Int.lt_or_le 0 f.Period with h | h
   ·exact h
   ·have : f.Period = 0 := by omega
    have := hs.zero.2 this
    omega
  have hq : 0 < f.Period / (f.Count / d) := Int.ediv_pos_of_pos_of_dvd hp (by omega) (Int.dvd_of_emod_eq_zero hg.rest)
  have hq2 : f.Period / (f.Count / d) ≤ f.Period := Int.ediv_le_self _ (by omega)
  refine ⟨?_, ?_, ?_, ?_, by simp, fun j k a b _ h => by simp at h⟩
  ·simp only [List.length_take]; omega
  ·simp only; omega
  ·simp only; have := hs.per; omega
  ·intro l hl'; exact hs.core l (List.mem_of_mem_take hl')
theorem Z1Y.lim {f c : Form} (hl : Lim f) (hs : Shape f) (h : Z1Y f c) : Lim c := by
 have hsc := h.shape hs
 have hn : c.Core.length ≤ f.Core.length ∧ ∀ l ∈ c.Core, l ∈ f.Core := by
  rcases h with ⟨hb, rfl⟩ | ⟨hb, h0, d, hg, _, rfl⟩
  ·exact ⟨Nat.zero_le _, fun l hl' => by cases hl'⟩
  ·exact ⟨by simp only [List.length_take]; omega, fun l hl' => List.mem_of_mem_take hl'⟩
 have hc := hl.core
 have h24 := Nat.mul_le_mul_right 24 hn.1
 have hp := hsc.per
 have hcnt := hsc.count
 have hcl : (f.Core.length : Int) < 4611686018427387904 := Z2T (b := 23) hl.core
 exact ⟨by omega, fun l hl' => hl.sets l (hn.2 l hl'), by rw [h.odd]; simp [Z11], by rw [h.odd]; simp, by unfold In64; omega, by unfold In64; omega⟩
theorem Z1Y.ZZ {f c : Form} (hs : Shape f) (h : Z1Y f c) (i : Int) : ZZ c i = Go.Dn.csz f i := by
 rw [Z26 (by rintro ⟨g, hg, _⟩; rw [h.odd] at hg; cases hg), h.csz hs]
theorem ZA7 {f c : Form} (hl : Lim f) (hs : Shape f) (h : Z1Y f c) {g : Granule} (hg : g ∈ f.Odd) : ∃ r, Z2L c g = some r ∧ (r = true ↔ csz f g.Index = g.Ticks) := by
 obtain ⟨hr, ht⟩ := hs.odd g hg
 have hlc := h.lim hl hs
 have hsc := h.shape hs
 unfold Z2L
 rw [Z3l hlc hsc (Z1g ht)]
 by_cases hf : fits c g.Index
 ·rw [if_pos ⟨ht, hf⟩];obtain ⟨r, h1, h2⟩ := spans_Same_eq (a := Go.Dn.ZZ c g.Index) (b := g.Ticks) (Z8r hlc hsc _)
  refine ⟨r, ?_, ?_⟩
  ·simp only [Option.bind_some];rw [beq_t rfl, cond_true, h1]; rfl
  ·rw [h2, h.ZZ hs]
 ·rw [if_neg (fun h' => hf h'.2)]
  refine ⟨false, rfl, ⟨(fun h' => nomatch h'), fun e => absurd (fun s hs' => ?_) hf⟩⟩
  rw [h.ZZ hs, e] at hs';obtain ⟨k, hk⟩ := List.getElem?_of_mem hs'
  have := Z5c.1 hr k s hk
  exact ⟨this.1, this.2.1⟩
open Classical in
noncomputable def oddly (f : Form) (g : Granule) : Bool := decide (¬ csz f g.Index = g.Ticks)
noncomputable def Z3G (f c : Form) : Form := Form.mk c.Period c.Count c.Core (f.Odd.filter (oddly f))
theorem Z28 {f : Form} (hl : Lim f) (hs : Shape f) : ∃ c, Z1Y f c ∧ ZV f = some (Z3G f c) := by
 obtain ⟨c, h1, hc⟩ := canon_core_ok hl hs
 refine ⟨c, hc, ?_⟩
 unfold ZV
 rw [h1]
 simp only [Option.bind_some]
 have hol : (f.Odd.length : Int) < 4611686018427387904 := Z2T (b := 31) hl.odd
 have hr := Z11
 have hro := Z3h
 have : ZM (ZV.s0 f c) (0, []) = some (f.Odd.filter (oddly f)) := by
  refine Z27 (I := fun s r => r = f.Odd.filter (oddly f) ∧ ∃ k : Nat, k ≤ f.Odd.length ∧ s = ((k : Int), (f.Odd.take k).filter (oddly f))) (fun s => f.Odd.length - s.1.toNat) ?_ ⟨rfl, 0, Nat.zero_le _, rfl⟩
  rintro s r ⟨rfl, k, hk, rfl⟩;unfold ZV.s0
  by_cases hlt : k < f.Odd.length
  ·left
   have hmem := List.getElem_mem hlt
   obtain ⟨r, p1, p2⟩ := ZA7 hl hs hc hmem
   have htk : f.Odd.take (k + 1) = f.Odd.take k ++ [f.Odd[k]] := (List.take_append_getElem hlt).symm
   have hlen := (hl.ticks _ hmem).2.1
   unfold Len at hlen;refine ⟨((k : Int) + 1, (f.Odd.take (k + 1)).filter (oddly f)), ?_, ⟨rfl, k + 1, hlt, by push_cast; rfl⟩, by simp; omega⟩
   rw [Zq (show (k : Int) < f.Odd.length by omega), cond_true, at?_nat hlt]
   simp only [Option.bind_some, p1];rw [ZY (show _ by omega), htk, List.filter_append]
   cases r with
   | true =>
    have : oddly f f.Odd[k] = false := by unfold oddly; rw [decide_eq_false_iff_not]; exact fun h => h (p2.1 rfl)
    simp only [Bool.not_true, cond_false, Option.bind_some, List.filter_cons, this, Bool.false_eq_true, if_false, List.filter_nil, List.append_nil]
   | false =>
    have : oddly f f.Odd[k] = true := by unfold oddly; rw [decide_eq_true_iff]; exact fun h => by have := p2.2 h; cases this
    have hcp : clone? 16 f.Odd[k].Ticks = some f.Odd[k].Ticks := by unfold clone?; rw [if_pos (by omega)]
    have hfl : ((f.Odd.take k).filter (oddly f)).length ≤ k := by
     have := List.length_filter_le (oddly f) (f.Odd.take k)
     simp only [List.length_take] at this;omega
    have hap : app? 32 ((f.Odd.take k).filter (oddly f)) [Granule.mk f.Odd[k].Index f.Odd[k].Ticks] = some ((f.Odd.take k).filter (oddly f) ++ [f.Odd[k]]) := by
     rw [app?_ok (by simp only [List.length_cons, List.length_nil]; have h3 := hl.odd; have := Nat.mul_le_mul_right 32 (show ((f.Odd.take k).filter (oddly f)).length + 1 ≤ f.Odd.length by omega); omega)]
    simp only [Bool.not_false, cond_true, Option.bind_some, hcp, hap, List.filter_cons, this, if_true, List.filter_nil]
  ·right
   have : k = f.Odd.length := by omega
   subst this;rw [Zv (show ¬ ((f.Odd.length : Int) < f.Odd.length) by omega), cond_false, List.take_length]
 rw [this]
 rfl
end Go.Dn

namespace Go.Dn
open Go
theorem ext_of {α : Type} {a b : List α} (hl : a.length = b.length) (h : ∀ (k : Nat) x y, a[k]? = some x → b[k]? = some y → x = y) : a = b := by
 apply List.ext_getElem hl
 intro k h1 h2
 exact h k _ _ (List.getElem?_eq_getElem h1) (List.getElem?_eq_getElem h2)
theorem Z4h {x y : Granule} : x = y ↔ x.Index = y.Index ∧ x.Ticks = y.Ticks := by
 obtain ⟨a, b⟩ := x
 obtain ⟨c, d⟩ := y
 simp
theorem form_ext {a b : Form} : a = b ↔ a.Period = b.Period ∧ a.Count = b.Count ∧ a.Core = b.Core ∧ a.Odd = b.Odd := by
 obtain ⟨a1, a2, a3, a4⟩ := a
 obtain ⟨b1, b2, b3, b4⟩ := b
 simp
theorem alike_eq {a b : List Span} (ha : Len a) : ∃ r, Ze a b = some r ∧ (r = true ↔ a = b) := by
 have hl : (a.length : Int) < 9223372036854775807 := by have := Z11; unfold Len at ha; omega
 unfold Ze
 by_cases hlen : a.length = b.length
 ·rw [Z5x (by omega), cond_false]
  rcases Z85 (a := a) (b := b) (step := Ze.s0 a b) (eq := fun x y => some (decide (y = x))) (fun p q => p = q) hl hlen (fun k p q hp hq => ⟨_, rfl, by rw [decide_eq_true_iff]; exact ⟨Eq.symm, Eq.symm⟩⟩) (fun s => by
   unfold Ze.s0;simp only [span_beq]
   rfl) with ⟨h1, h2⟩ | ⟨h1, h2⟩
  ·rw [h1]; exact ⟨true, rfl, ⟨fun _ => ext_of hlen h2, fun _ => rfl⟩⟩
  ·rw [h1]; exact ⟨false, rfl, ⟨(fun h => nomatch h), fun e => absurd (fun k p q hp hq => by rw [e, hq] at hp; exact (Option.some.inj hp).symm) h2⟩⟩
 ·rw [bne_t (by omega), cond_true]
  exact ⟨false, rfl, ⟨(fun h => nomatch h), fun e => absurd (congrArg List.length e) hlen⟩⟩
theorem alikeForms_eq {a b : Form} (hl : Lim a) : ∃ r, ZK a b = some r ∧ (r = true ↔ a = b) := by
 have hc : (a.Core.length : Int) < 4611686018427387904 := Z2T (b := 23) hl.core
 have ho : (a.Odd.length : Int) < 4611686018427387904 := Z2T (b := 31) hl.odd
 unfold ZK
 rw [form_ext]
 by_cases hp : a.Period = b.Period ∧ a.Count = b.Count ∧ a.Core.length = b.Core.length ∧ a.Odd.length = b.Odd.length
 ·obtain ⟨p1, p2, p3, p4⟩ := hp
  rw [Z5x p1, Z5x p2, Z5x (show (a.Core.length : Int) = b.Core.length by omega), Z5x (show (a.Odd.length : Int) = b.Odd.length by omega)]
  simp only [Bool.or_self, cond_false]
  rcases Z85 (a := a.Core) (b := b.Core) (step := ZK.s0 a b) (eq := Ze) (fun p q => p = q) (by omega) p3 (fun k p q hp hq => alike_eq (hl.sets p (List.mem_of_getElem? hp)).1) (fun s => rfl) with ⟨h1, h2⟩ | ⟨h1, h2⟩
  ·rw [h1];simp only [Option.bind_some, Jx.elim];have ec := ext_of p3 h2
   rcases Z85 (a := a.Odd) (b := b.Odd) (step := ZK.s1 a b) (eq := fun x y => bif x.Index != y.Index then some false else Ze x.Ticks y.Ticks) (fun p q => p = q) (by omega) p4 (fun k p q hp hq => by
    rw [Z4h]
    by_cases hi : p.Index = q.Index
    ·rw [Z5x hi, cond_false];obtain ⟨r, q1, q2⟩ := alike_eq (b := q.Ticks) (hl.ticks p (List.mem_of_getElem? hp)).2.1
     exact ⟨r, q1, by rw [q2]; exact ⟨fun e => ⟨hi, e⟩, fun e => e.2⟩⟩
    ·rw [bne_t hi, cond_true];exact ⟨false, rfl, ⟨(fun h => nomatch h), fun e => absurd e.1 hi⟩⟩) (fun s => by
    unfold ZK.s1
    rcases e1 : at? a.Odd s with _ | x
    ·rfl
    rcases e2 : at? b.Odd s with _ | y
    ·rfl
    simp only [Option.bind_some];cases x.Index != y.Index with
    | true => rfl
    | false =>
     simp only [cond_false]
     rcases Ze x.Ticks y.Ticks with _ | r
     ·rfl
     ·rfl) with ⟨h3, h4⟩ | ⟨h3, h4⟩
   ·rw [h3]; exact ⟨true, rfl, ⟨fun _ => ⟨p1, p2, ec, ext_of p4 h4⟩, fun _ => rfl⟩⟩
   ·rw [h3]; exact ⟨false, rfl, ⟨(fun h => nomatch h), fun e => absurd (fun k p q hp hq => by rw [e.2.2.2, hq] at hp; exact (Option.some.inj hp).symm) h4⟩⟩
  ·rw [h1]; exact ⟨false, rfl, ⟨(fun h => nomatch h), fun e => absurd (fun k p q hp hq => by rw [e.2.2.1, hq] at hp; exact (Option.some.inj hp).symm) h2⟩⟩
 ·refine ⟨false, ?_, ⟨(fun h => nomatch h), fun e => absurd ⟨e.1, e.2.1, by rw [e.2.2.1], by rw [e.2.2.2]⟩ hp⟩⟩
  have : ((((a.Period != b.Period) || (a.Count != b.Count)) || ((a.Core.length : Int) != (b.Core.length : Int))) || ((a.Odd.length : Int) != (b.Odd.length : Int))) = true := by
   simp only [Bool.or_eq_true, bne_iff_ne, ne_eq];apply Classical.byContradiction;intro hn;apply hp;refine ⟨?_, ?_, ?_, ?_⟩ <;> apply Classical.byContradiction <;> intro h <;> apply hn
   ·exact .inl (.inl (.inl h))
   ·exact .inl (.inl (.inr h))
   ·exact .inl (.inr (by omega))
   ·exact .inr (by omega)
  rw [this]; rfl
end Go.Dn

namespace Go.Dn
open Go
theorem Z1s {l : List Granule} : Inc l ↔ l.Pairwise (fun a b => a.Index < b.Index) := by
 rw [List.pairwise_iff_getElem]
 constructor
 ·intro h i j hi hj hij;exact h i j _ _ hij (List.getElem?_eq_getElem hi) (List.getElem?_eq_getElem hj)
 ·intro h j k a b hjk ha hb;obtain ⟨h1, rfl⟩ := List.getElem?_eq_some_iff.1 ha
  obtain ⟨h2, rfl⟩ := List.getElem?_eq_some_iff.1 hb
  exact h j k h1 h2 hjk
theorem Inc.filter {l : List Granule} (h : Inc l) (p : Granule → Bool) : Inc (l.filter p) := Z1s.2 ((Z1s.1 h).filter p)
theorem Z5U {f c : Form} (hs : Shape f) (h : Z1Y f c) : csz (Z3G f c) = csz f := by
 rw [← h.csz hs]; rfl
theorem oddly_iff {f : Form} {g : Granule} : oddly f g = true ↔ ¬ csz f g.Index = g.Ticks := by unfold oddly; rw [decide_eq_true_iff]
theorem Z30 {f c : Form} {g : Granule} : g ∈ (Z3G f c).Odd ↔ g ∈ f.Odd ∧ oddly f g = true := List.mem_filter
theorem Z7v {f c : Form} (hs : Shape f) (h : Z1Y f c) : ZZ (Z3G f c) = ZZ f := by
 funext i
 by_cases ho : Z1i f i
 ·obtain ⟨g, hg, rfl⟩ := ho
  rw [Z0M hs.inc hg]
  by_cases hod : oddly f g = true
  ·exact Z0M (hs.inc.filter _) (Z30.2 ⟨hg, hod⟩)
  ·have he : csz f g.Index = g.Ticks := Classical.byContradiction fun hn => hod (oddly_iff.2 hn)
   rw [Z26 (f := Z3G f c), Z5U hs h, he]
   rintro ⟨g', hg', e⟩;obtain ⟨m1, m2⟩ := Z30.1 hg'
   have := hs.inc.uniq m1 hg e
   subst this;exact hod m2
 ·rw [Z26 ho, Z26 (f := Z3G f c), Z5U hs h]
  rintro ⟨g', hg', e⟩;exact ho ⟨g', (Z30.1 hg').1, e⟩
theorem Z7n {f c : Form} (hs : Shape f) (h : Z1Y f c) : Shape (Z3G f c) := by
 have := h.shape hs
 exact ⟨this.count, this.zero, this.per, this.core, fun g hg => hs.odd g (Z30.1 hg).1, hs.inc.filter _⟩
theorem canonF_lim {f c : Form} (hl : Lim f) (hs : Shape f) (h : Z1Y f c) : Lim (Z3G f c) := by
 have := h.lim hl hs
 refine ⟨this.core, this.sets, ?_, fun g hg => hl.ticks g (Z30.1 hg).1, this.count, this.period⟩
 have h1 : (Z3G f c).Odd.length ≤ f.Odd.length := List.length_filter_le _ _
 have := hl.odd
 have := Nat.mul_le_mul_right 32 h1
 omega
theorem turns_of {f : Form} (hs : Shape f) (h : 0 < f.Count → ∀ i k, i < k → cs f i ≠ [] → cs f k ≠ [] → lstT (cs f i) < fstT (cs f k)) : Turns f := by
 have hcnt := hs.count
 have at_ : ∀ (j : Nat) (a : List Span), f.Core[j]? = some a → cs f j = a := fun j a ha => by
  have := (List.getElem?_eq_some_iff.1 ha).1
  rw [Z2p (by omega) (by omega), List.getD_eq_getElem?_getD, Int.toNat_natCast, ha]; rfl
 have hpw : f.Core.Pairwise (fun a b => a ≠ [] → b ≠ [] → lstT a < fstT b) := by
  rw [List.pairwise_iff_getElem];intro i j hi hj hij na nb;have h1 := at_ i _ (List.getElem?_eq_getElem hi)
  have h2 := at_ j _ (List.getElem?_eq_getElem hj)
  have := h (by omega) i j (by omega) (by rw [h1]; exact na) (by rw [h2]; exact nb)
  rw [h1, h2] at this;exact this
 constructor
 ·intro k a b ha hb;have hp := hpw.filter (fun l => decide (l.length > 0))
  rw [List.pairwise_iff_getElem] at hp;obtain ⟨h1, rfl⟩ := List.getElem?_eq_some_iff.1 ha
  obtain ⟨h2, rfl⟩ := List.getElem?_eq_some_iff.1 hb
  exact hp k (k + 1) h1 h2 (by omega) (Z2l.1 (List.getElem_mem h1)).2 (Z2l.1 (List.getElem_mem h2)).2
 ·intro a b ha hb;obtain ⟨ma, na⟩ := Z2l.1 (List.mem_of_getLast? ha)
  obtain ⟨mb, nb⟩ := Z2l.1 (List.mem_of_head? hb)
  obtain ⟨j, hj⟩ := List.getElem?_of_mem ma
  obtain ⟨k, hk⟩ := List.getElem?_of_mem mb
  have hjl := (List.getElem?_eq_some_iff.1 hj).1
  have h1 := at_ j _ hj
  have h2 := at_ k _ hk
  have h3 : cs f ((k : Int) + f.Count) = b.map (Zh f.Period) := by rw [Z5D (by omega), h2]
  have := h (by omega) j ((k : Int) + f.Count) (by omega) (by rw [h1]; exact na) (by rw [h3]; simpa using nb)
  rw [h1, h3, (Z59 _ nb).2] at this;exact this
theorem csz_order {f : Form} (hs : Shape f) (ht : Turns f) {i k : Int} (hik : i < k) (ni : csz f i ≠ []) (nk : csz f k ≠ []) : lstT (csz f i) < fstT (csz f k) := by
 have h0 : f.Count ≠ 0 := fun h => ni (by unfold csz; rw [if_pos h])
 unfold csz at ni nk ⊢
 rw [if_neg h0] at ni nk ⊢
 rw [if_neg h0]
 have n1 : Z0f f i ≠ [] := fun h => ni (by unfold cs; rw [h]; rfl)
 have n2 : Z0f f k ≠ [] := fun h => nk (by unfold cs; rw [h]; rfl)
 have := Z9o hs ht h0 hik n1 n2
 unfold cs
 rw [(Z59 _ n1).1, (Z59 _ n2).2]
 exact this
theorem beside_congr {f g : Form} (h : ZZ g = ZZ f) {i : Int} (hb : Beside f i) : Beside g i := by
 intro lo hi hlo hhi
 have hu : Under f i lo := by unfold Under at hlo ⊢; rw [h] at hlo; exact hlo
 have ha : Above f i hi := by unfold Above at hhi ⊢; rw [h] at hhi; exact hhi
 have := hb lo hi hu ha
 unfold BesideR fits at this ⊢
 rw [h]
 exact this
theorem canonF_right {f c : Form} (hr : RightF f) (h : Z1Y f c) : RightF (Z3G f c) := by
 have hs := hr.shape
 refine ⟨Z7n hs h, turns_of (Z7n hs h) (fun h0 i k hik ni nk => ?_), fun g hg => beside_congr (Z7v hs h) (hr.beside g (Z30.1 hg).1)⟩
 rw [← Z2f h0, Z5U hs h] at ni nk ⊢
 exact csz_order hs hr.turns hik ni nk
end Go.Dn

namespace Go.Dn
open Go
end Go.Dn

namespace Go.Dn
open Go
theorem shift_ne {l : List Span} (hn : l ≠ []) {a b : Int} (h : l.map (Zh a) = l.map (Zh b)) : a = b := by
 cases l with
 | nil => exact absurd rfl hn
 | cons s l =>
  simp only [List.map_cons, List.cons.injEq, Zh, Span.mk.injEq] at h;omega
theorem Turn.uniq {h : Int → List Span} {d q q' : Int} (t : Turn h d q) (t' : Turn h d q') {i : Int} (hn : h i ≠ []) : q = q' := shift_ne hn ((t i).symm.trans (t' i))
theorem Z3J {f : Form} (h0 : 0 < f.Count) : Turn (cs f) f.Count f.Period := Z5D (by omega)
theorem cs_some {f : Form} (hs : Shape f) (hb : ¬ Bare f) (h0 : 0 < f.Count) (a : Int) : ∃ i, a ≤ i ∧ i < a + f.Count ∧ cs f i ≠ [] := by
 apply Classical.byContradiction
 intro hn
 apply hb
 have hz : cs f = fun _ => [] := Turn.agree (a := a) (Z3J h0) (fun i => rfl) h0 (fun i i0 i1 => Classical.byContradiction fun h => hn ⟨i, i0, i1, h⟩)
 intro l hl
 obtain ⟨k, hk⟩ := List.getElem?_of_mem hl
 have hkl := (List.getElem?_eq_some_iff.1 hk).1
 have hcnt := hs.count
 have := congrFun hz (k : Int)
 rw [Z2p (by omega) (by omega), List.getD_eq_getElem?_getD, Int.toNat_natCast, hk] at this
 exact this
theorem good_of_turn {f : Form} (hs : Shape f) (hb : ¬ Bare f) (h0 : 0 < f.Count) {d q : Int} (hd : 1 ≤ d) (hdn : d ∣ f.Count) (t : Turn (cs f) d q) : Good f d ∧ f.Period / (f.Count / d) = q := by
 obtain ⟨i, _, _, hi⟩ := cs_some hs hb h0 0
 obtain ⟨m, hm⟩ := hdn
 have hmp : 0 < m := by
  rcases Int.lt_or_le 0 m with h | h
  ·exact h
  ·have : d * m ≤ 0 := Int.mul_nonpos_of_nonneg_of_nonpos (by omega) h
   omega
 have e1 : f.Count / d = m := by rw [hm, Int.mul_ediv_cancel_left _ (by omega)]
 have e2 : f.Period = m * q := by
  have t1 := t.mul m
  have t2 := Z3J h0
  rw [hm, Int.mul_comm d m] at t2;exact t2.uniq t1 hi
 have e3 : f.Period / m = q := by rw [e2, Int.mul_ediv_cancel_left _ (by omega)]
 exact ⟨⟨hd, ⟨m, hm⟩, by rw [e1, e2]; exact Int.mul_emod_right _ _, by rw [e1, e3]; exact t⟩, by rw [e1, e3]⟩
theorem least_turn {h : Int → List Span} {n p : Int} (hn : 0 < n) (t : Turn h n p) : ∃ d q, 1 ≤ d ∧ Turn h d q ∧ ∀ d' q', Turn h d' q' → d ∣ d' := by
 have : ∃ m : Nat, 1 ≤ m ∧ ∃ q, Turn h m q := ⟨n.toNat, by omega, p, by rw [Int.toNat_of_nonneg (by omega)]; exact t⟩
 obtain ⟨m, hm⟩ := this
 induction m using Nat.strongRecOn with
 | _ m ih =>
  by_cases hex : ∃ m' : Nat, m' < m ∧ 1 ≤ m' ∧ ∃ q, Turn h m' q
  ·obtain ⟨m', h1, h2⟩ := hex
   exact ih m' h1 h2
  ·obtain ⟨h1, q, hq⟩ := hm
   refine ⟨m, q, by omega, hq, fun d' q' t' => ?_⟩
   apply Classical.byContradiction;intro hnd;have r0 := Int.emod_nonneg d' (show (m : Int) ≠ 0 by omega)
   have r1 := Int.emod_lt_of_pos d' (show (0 : Int) < m by omega)
   have hr : d' % m ≠ 0 := fun e => hnd (Int.dvd_of_emod_eq_zero e)
   have tt := t'.add ((hq.mul (d' / m)).neg)
   have e : d' + -(d' / m * m) = d' % m := by
    have := Int.emod_add_mul_ediv d' m
    rw [Int.mul_comm] at this;omega
   rw [e] at tt;exact hex ⟨(d' % m).toNat, by omega, by omega, _, by rw [Int.toNat_of_nonneg r0]; exact tt⟩
theorem least_is {f : Form} (hs : Shape f) (hb : ¬ Bare f) (h0 : 0 < f.Count) {d : Int} (hg : Good f d) (hmin : ∀ d', Good f d' → d ≤ d') {t q : Int} (ht : 1 ≤ t) (tt : Turn (cs f) t q) (hall : ∀ d' q', Turn (cs f) d' q' → t ∣ d') : d = t ∧ f.Period / (f.Count / d) = q := by
 have h1 := hall _ _ (Z3J h0)
 obtain ⟨g1, g2⟩ := good_of_turn hs hb h0 ht h1 tt
 have h2 := hmin t g1
 have h3 := Int.le_of_dvd hg.pos (hall _ _ hg.turn)
 have : d = t := by omega
 subst this
 exact ⟨rfl, g2⟩
theorem coreOf_eq {f g c c' : Form} (hf : Shape f) (hg : Shape g) (h : csz f = csz g) (hbb : Bare f ↔ Bare g) (hc : Z1Y f c) (hc' : Z1Y g c') : c = c' := by
 rcases hc with ⟨b1, rfl⟩ | ⟨b1, z1, d1, g1, m1, rfl⟩ <;> rcases hc' with ⟨b2, rfl⟩ | ⟨b2, z2, d2, g2, m2, rfl⟩
 ·rfl
 ·exact absurd (hbb.1 b1) b2
 ·exact absurd (hbb.2 b2) b1
 ·rw [Z2f z1, Z2f z2] at h;obtain ⟨t, q, t1, t2, t3⟩ := least_turn z1 (Z3J z1)
  obtain ⟨e1, e2⟩ := least_is hf b1 z1 g1 m1 t1 t2 t3
  rw [h] at t2 t3;obtain ⟨e3, e4⟩ := least_is hg b2 z2 g2 m2 t1 t2 t3
  have : d1 = d2 := by omega
  subst this;have l1 : d1 ≤ f.Count := Int.le_of_dvd z1 g1.dvd
  have l2 : d1 ≤ g.Count := Int.le_of_dvd z2 g2.dvd
  have c1 := hf.count
  have c2 := hg.count
  have p1 := g1.pos
  rw [form_ext];refine ⟨by rw [e2, e4], rfl, ?_, rfl⟩
  apply List.ext_getElem?;intro k
  show (f.Core.take d1.toNat)[k]? = (g.Core.take d1.toNat)[k]?
  by_cases hk : k < d1.toNat
  ·rw [List.getElem?_take_of_lt hk, List.getElem?_take_of_lt hk];have := congrFun h (k : Int)
   rw [Z2p (by omega) (by omega), Z2p (by omega) (by omega), List.getD_eq_getElem?_getD, List.getD_eq_getElem?_getD, Int.toNat_natCast] at this
   rw [List.getElem?_eq_getElem (show k < f.Core.length by omega), List.getElem?_eq_getElem (show k < g.Core.length by omega)] at this ⊢
   exact congrArg some this
  ·rw [List.getElem?_eq_none (by rw [List.length_take]; omega), List.getElem?_eq_none (by rw [List.length_take]; omega)]
theorem inc_ext : ∀ {a b : List Granule}, a.Pairwise (fun x y => x.Index < y.Index) → b.Pairwise (fun x y => x.Index < y.Index) → (∀ x, x ∈ a ↔ x ∈ b) → a = b
 | [], [], _, _, _ => rfl
 | [], y :: b, _, _, h => absurd ((h y).2 (List.mem_cons_self)) (List.not_mem_nil)
 | x :: a, [], _, _, h => absurd ((h x).1 (List.mem_cons_self)) (List.not_mem_nil)
 | x :: a, y :: b, ha, hb, h => by
  obtain ⟨a1, a2⟩ := List.pairwise_cons.1 ha
  obtain ⟨b1, b2⟩ := List.pairwise_cons.1 hb
  have hxy : x = y := by
   rcases List.mem_cons.1 ((h x).1 List.mem_cons_self) with e | e
   ·exact e
   ·rcases List.mem_cons.1 ((h y).2 List.mem_cons_self) with e' | e'
    ·exact e'.symm
    ·have := b1 x e; have := a1 y e'; omega
  subst hxy;rw [inc_ext a2 b2 fun z => ⟨fun hz => ?_, fun hz => ?_⟩]
  ·rcases List.mem_cons.1 ((h z).1 (List.mem_cons_of_mem _ hz)) with e | e
   ·subst e; have := a1 z hz; omega
   ·exact e
  ·rcases List.mem_cons.1 ((h z).2 (List.mem_cons_of_mem _ hz)) with e | e
   ·subst e; have := b1 z hz; omega
   ·exact e
def NearF (f : Form) (m : Int) : Prop := ∀ g ∈ f.Odd, -m ≤ g.Index ∧ g.Index ≤ m
end Go.Dn

namespace Go.Dn
open Go
end Go.Dn

namespace Go.Dn
open Go
theorem u64_id {a : Int} (h : 0 ≤ a ∧ a < 18446744073709551616) : IntKind.u64.wrap a = a := by rw [Z5H]; omega
def Dig (x : Int) : Prop := 0 ≤ x ∧ x < 65536
structure Digs (d : Arr9_u32) : Prop where
 h0 : Dig d.d0
 h1 : Dig d.d1
 h2 : Dig d.d2
 h3 : Dig d.d3
 h4 : Dig d.d4
 h5 : Dig d.d5
 h6 : Dig d.d6
 h7 : Dig d.d7
 h8 : Dig d.d8
def lsz (d : Arr9_u32) : Int := d.d0 + 65536 * (d.d1 + 65536 * (d.d2 + 65536 * (d.d3 + 65536 * (d.d4 + 65536 * (d.d5 + 65536 * (d.d6 + 65536 * (d.d7 + 65536 * d.d8)))))))
def lval (x : epactref01_long) : Int := if x.minus = true then -lsz x.digits else lsz x.digits
end Go.Dn

namespace Go.Dn
open Go
structure Low (d : Arr9_u32) : Prop where
 z4 : d.d4 = 0
 z5 : d.d5 = 0
 z6 : d.d6 = 0
 z7 : d.d7 = 0
 z8 : d.d8 = 0
end Go.Dn

namespace Go.Dn
open Go
theorem gcd_ok {a b : Int} (ha : In64 a) (hb : In64 b) : gcd? (a.natAbs : Int) b.natAbs = some ((Nat.gcd a.natAbs b.natAbs : Nat) : Int) := by
 unfold gcd?
 rw [if_pos (by unfold In64 at *; omega)]
 rfl
theorem gcd_lt {a b : Int} (ha : In64 a) (hb : In64 b) : Nat.gcd a.natAbs b.natAbs ≤ 9223372036854775808 := by
 unfold In64 at *
 by_cases h : a = 0
 ·subst h; simp; omega
 ·exact Nat.le_trans (Nat.gcd_le_left _ (by omega)) (by omega)
def lcmS (a b : Int) : Int × Int := if a = 0 ∨ b = 0 then (0, 0) else fitS (((a.natAbs / Nat.gcd a.natAbs b.natAbs : Nat) : Int) * b.natAbs)
theorem safe_Lcm_eq {a b : Int} (ha : In64 a) (hb : In64 b) : Z4y a b = some (lcmS a b) := by
 have := gcd_lt ha hb
 unfold Z4y lcmS
 rw [Z46 ha, Z46 hb]
 by_cases h0 : a = 0 ∨ b = 0
 ·rw [if_pos h0];have : (((a.natAbs : Int) == 0) || ((b.natAbs : Int) == 0)) = true := by simp; omega
  rw [this, cond_true]
 rw [if_neg h0]
 have h1 : (((a.natAbs : Int) == 0) || ((b.natAbs : Int) == 0)) = false := by simp; omega
 rw [h1, cond_false, gcd_ok ha hb]
 simp only [Option.bind_some]
 have gp : 0 < Nat.gcd a.natAbs b.natAbs := Nat.gcd_pos_of_pos_left _ (by omega)
 rw [nz?_ok (by omega)]
 simp only [Option.bind_some]
 have hd : ((a.natAbs : Int)).tdiv ((Nat.gcd a.natAbs b.natAbs : Nat) : Int) = ((a.natAbs / Nat.gcd a.natAbs b.natAbs : Nat) : Int) := by
  rw [Int.tdiv_eq_ediv_of_nonneg (by omega)]; rfl
 have hle : a.natAbs / Nat.gcd a.natAbs b.natAbs ≤ a.natAbs := Nat.div_le_self _ _
 rw [hd]
 generalize a.natAbs / Nat.gcd a.natAbs b.natAbs = q at *
 rw [u64_id (a := (q : Int)) (by unfold In64 at ha; omega), mul64_eq (by unfold Z5l; unfold In64 at ha; omega) (inU_abs hb)]
 simp only
 have hnn : 0 ≤ (q : Int) * b.natAbs := Int.mul_nonneg (by omega) (by omega)
 generalize (q : Int) * b.natAbs = p at *
 by_cases hp : p / 18446744073709551616 = 0
 ·rw [Z5x hp, cond_false, Z6A _ (by unfold Z5l; omega)]
  have : p % 18446744073709551616 = p := by omega
  rw [this]; rfl
 ·rw [bne_t hp, cond_true, fitS_not (by unfold In64; omega)]
end Go.Dn

namespace Go.Dn
open Go
theorem Z9p {f h : Form} (hlf : Lim f) (hlh : Lim h) (sf : Shape f) (sh : Shape h) (hc : csz h = csz f) (ha : ZZ h = ZZ f) : ZV h = ZV f := by
 have bare : ∀ {f : Form}, Shape f → (Bare f ↔ ∀ i, csz f i = []) := fun {f} hs => by
  constructor
  ·exact fun hb i => csz_bare hs hb i
  ·intro h
   by_cases hb : Bare f
   ·exact hb
   ·exfalso
    have h0 : 0 < f.Count := by
     have hcnt := hs.count
     by_cases h0 : f.Core = []
     ·exact absurd (fun l hl => by rw [h0] at hl; cases hl) hb
     ·have := List.length_pos_iff.2 h0; omega
    obtain ⟨i, _, _, i3⟩ := cs_some hs hb h0 0
    have := h i
    rw [Z2f h0] at this;exact i3 this
 have mem : ∀ {f c : Form}, Shape f → ∀ x : Granule, x ∈ (Z3G f c).Odd ↔ ZJ x.Index ∧ ZZ f x.Index = x.Ticks ∧ csz f x.Index ≠ x.Ticks ∧ Z1i f x.Index := fun {f c} hs x => by
  rw [Z30, oddly_iff]
  constructor
  ·rintro ⟨h1, h2⟩;exact ⟨(hs.odd x h1).2, Z0M hs.inc h1, h2, ⟨x, h1, rfl⟩⟩
  ·rintro ⟨_, h1, h2, ⟨y, hy, e⟩⟩;have h3 := Z0M hs.inc hy
   rw [e, h1] at h3;have : x = y := by rw [Z4h]; exact ⟨e.symm, h3⟩
   rw [this];refine ⟨hy, ?_⟩;rw [← this]; exact h2
 have odd_of : ∀ {f : Form} {i : Int} {l : List Span}, ZZ f i = l → csz f i ≠ l → Z1i f i := fun {f i l} h1 h2 => Classical.byContradiction fun ho => h2 (by rw [← Z26 ho, h1])
 obtain ⟨c, c1, c2⟩ := Z28 hlf sf
 obtain ⟨d, d1, d2⟩ := Z28 hlh sh
 have e : d = c := coreOf_eq sh sf hc (by rw [bare sh, bare sf, hc]) d1 c1
 subst e
 rw [c2, d2]
 have ho : (Z3G h d).Odd = (Z3G f d).Odd := by
  refine inc_ext (Z1s.1 (sh.inc.filter _)) (Z1s.1 (sf.inc.filter _)) fun x => ?_
  rw [mem sh, mem sf, hc, ha]
  constructor
  ·rintro ⟨h1, h2, h3, _⟩; exact ⟨h1, h2, h3, odd_of h2 h3⟩
  ·rintro ⟨h1, h2, h3, _⟩;have h2' : ZZ h x.Index = x.Ticks := by rw [ha]; exact h2
   have h3' : csz h x.Index ≠ x.Ticks := by rw [hc]; exact h3
   exact ⟨h1, h2, h3, odd_of h2' h3'⟩
 congr 1
 rw [form_ext]
 exact ⟨rfl, rfl, rfl, ho⟩
noncomputable def Z12 (f : Form) (m : Int) : Form := Form.mk f.Period f.Count ((List.range f.Core.length).map fun (j : Nat) => csz f ((j : Int) - m)) (f.Odd.map fun g => Granule.mk (g.Index + m) g.Ticks)
theorem Z7H {f : Form} (hs : Shape f) (m i : Int) : csz (Z12 f m) i = csz f (i - m) := by
 have hcnt := hs.count
 by_cases h0 : f.Count = 0
 ·unfold csz;rw [if_pos (show (Z12 f m).Count = 0 from h0), if_pos h0]
 ·have hp : 0 < f.Count := by omega
  rw [Z2f (show 0 < (Z12 f m).Count from hp), Z2f hp]
  have hi := Int.emod_nonneg i h0
  have hi2 := Int.emod_lt_of_pos i hp
  have e : i - m = (i % f.Count - m) + f.Count * (i / f.Count) := by
   have := Int.emod_add_mul_ediv i f.Count
   omega
  rw [e, Z5Q h0]
  show (Z0f (Z12 f m) i).map (Zh (i / f.Count * f.Period)) = _
  congr 1
  show ((List.range f.Core.length).map fun (j : Nat) => csz f ((j : Int) - m)).getD (i % f.Count).toNat [] = _
  rw [List.getD_eq_getElem?_getD, List.getElem?_map, List.getElem?_range (by omega)]
  simp only [Option.map_some, Option.getD_some];rw [Z2f hp, Int.toNat_of_nonneg hi]
theorem shiftF_odd {f : Form} {m i : Int} : Z1i (Z12 f m) i ↔ Z1i f (i - m) := by
 unfold Z1i Z12
 simp only [List.mem_map]
 constructor
 ·rintro ⟨g, ⟨x, hx, rfl⟩, e⟩;exact ⟨x, hx, by simp only at e; omega⟩
 ·rintro ⟨x, hx, e⟩;exact ⟨_, ⟨x, hx, rfl⟩, by simp only; omega⟩
theorem shiftF_inc {f : Form} (hs : Shape f) (m : Int) : Inc (Z12 f m).Odd := by
 rw [Z1s]
 show (f.Odd.map fun g => Granule.mk (g.Index + m) g.Ticks).Pairwise _
 rw [List.pairwise_map]
 exact (Z1s.1 hs.inc).imp fun h => by simp only; omega
theorem Z7t {f : Form} (hs : Shape f) (m i : Int) : ZZ (Z12 f m) i = ZZ f (i - m) := by
 by_cases ho : Z1i f (i - m)
 ·obtain ⟨x, hx, e⟩ := ho
  have h1 := Z0M hs.inc hx
  have h2 := Z0M (f := Z12 f m) (shiftF_inc hs m) (g := Granule.mk (x.Index + m) x.Ticks) (List.mem_map.2 ⟨x, hx, rfl⟩)
  simp only at h2;rw [show i = x.Index + m by omega, h2, show x.Index + m - m = x.Index by omega, h1]
 ·rw [Z26 ho, Z26 (fun h => ho (shiftF_odd.1 h)), Z7H hs]
theorem raw_eq {f : Form} (hl : Lim f) (hs : Shape f) {i : Int} (hi : In64 i) : (Z1b f i = some (csz f i, 0) ∧ (∀ s ∈ csz f i, ZJ s.From ∧ ZJ s.To) ∧ Len (csz f i)) ∨ Z1b f i = some ([], 20) := by
 unfold Z1b
 have hcnt := hs.count
 have len0 : Len ([] : List Span) := by show ([] : List Span).length * 16 ≤ reachBytes; simp
 by_cases h0 : f.Count = 0
 ·rw [beq_t h0, cond_true];have : csz f i = [] := if_pos h0
  rw [this];exact .inl ⟨rfl, by simp, len0⟩
 ·have hp : 0 < f.Count := by omega
  rw [Z41 h0, cond_false, Z2r hi hl.count, Z4K hp];simp only [Option.bind_some];obtain ⟨c1, c2⟩ := Z0r hs h0 i
  rw [c1];simp only [Option.bind_some];have hcsz : csz f i = (Z0f f i).map (Zh (i / f.Count * f.Period)) := by rw [Z2f hp]; rfl
  by_cases hn : Z0f f i = []
  ·rw [hcsz, hn];exact .inl ⟨rfl, by simp, len0⟩
  ·have hlen : ¬ ((Z0f f i).length : Int) = 0 := by have := List.length_pos_iff.2 hn; omega
   rw [Z41 hlen, cond_false];have hq : In64 (i / f.Count) := by
    unfold In64 at hi ⊢;have q1 : i / f.Count ≤ 9223372036854775807 := Int.ediv_le_of_le_mul hp (by
     have : (9223372036854775807 : Int) * 1 ≤ 9223372036854775807 * f.Count := Int.mul_le_mul_of_nonneg_left (by omega) (by decide)
     omega)
    have q2 : -9223372036854775808 ≤ i / f.Count := Int.le_ediv_of_mul_le hp (by
     have : (9223372036854775808 : Int) * 1 ≤ 9223372036854775808 * f.Count := Int.mul_le_mul_of_nonneg_left (by omega) (by decide)
     omega)
    exact ⟨q2, q1⟩
   rw [Z3s hq hl.period]
   rcases fit_or (i / f.Count * f.Period) with ⟨f1, f2⟩ | ⟨f1, f2⟩
   ·rw [f2];simp only [bne_self_eq_false, Bool.or_self, cond_false]
    rcases Z3d (hl.sets _ c2).1 (hl.sets _ c2).2 f1 with ⟨m1, m2⟩ | ⟨m1, m2⟩
    ·rw [m2]
     left
     rw [hcsz];refine ⟨rfl, fun s hs' => ?_, by unfold Len; rw [List.length_map]; exact (hl.sets _ c2).1⟩
     obtain ⟨x, hx, rfl⟩ := List.mem_map.1 hs'
     exact m1 x hx
    ·rw [m2];exact .inr rfl
   ·rw [f2];exact .inr rfl
structure Bnd (f : Form) : Prop where
 core : f.Core.length ≤ 12
 odd : f.Odd.length ≤ 8
 sets : ∀ l ∈ f.Core, l.length ≤ 720
 ticks : ∀ g ∈ f.Odd, g.Ticks.length ≤ 720
theorem le_sum {α : Type} (g : α → Nat) : ∀ {l : List α} {x : α}, x ∈ l → g x ≤ (l.map g).sum
 | y :: l, x, h => by
  rw [List.map_cons, List.sum_cons]
  rcases List.mem_cons.1 h with rfl | h
  ·omega
  ·have := le_sum g h; omega
theorem sum_le {α : Type} (g : α → Nat) {b : Nat} : ∀ {l : List α}, (∀ x ∈ l, g x ≤ b) → (l.map g).sum ≤ l.length * b
 | [], _ => by simp
 | y :: l, h => by
  rw [List.map_cons, List.sum_cons, List.length_cons, Nat.add_mul];have h1 := h y List.mem_cons_self
  have h2 := sum_le g (l := l) (b := b) fun x hx => h x (List.mem_cons_of_mem _ hx)
  omega
theorem Z8e.bnd {f : Form} (h : Z8e f) : Bnd f := by
 obtain ⟨h1, h2, h3⟩ := h
 unfold Z6M at h3
 refine ⟨h1, h2, fun l hl => ?_, fun g hg => ?_⟩
 ·have := le_sum List.length hl; omega
 ·have := le_sum (fun g : Granule => g.Ticks.length) hg; omega
theorem Bnd.short {f : Form} (h : Bnd f) : ¬ LongF f := by
 have h1 := sum_le List.length h.sets
 have h2 := sum_le (fun g : Granule => g.Ticks.length) h.ticks
 have h3 := h.core
 have h4 := h.odd
 unfold LongF Z6M
 have h5 : f.Core.length * 720 ≤ 12 * 720 := Nat.mul_le_mul_right _ h3
 have h6 : f.Odd.length * 720 ≤ 8 * 720 := Nat.mul_le_mul_right _ h4
 omega
theorem csz_len {f : Form} (hs : Shape f) (h : Bnd f) (i : Int) : (csz f i).length ≤ 720 := by
 unfold csz
 by_cases h0 : f.Count = 0
 ·rw [if_pos h0]; simp
 ·rw [if_neg h0];unfold cs;rw [List.length_map];exact h.sets _ (Z0r hs h0 i).2
theorem Z7I {f : Form} (hs : Shape f) (h : Bnd f) (m : Int) : Bnd (Z12 f m) := by
 refine ⟨?_, ?_, fun l hl => ?_, fun g hg => ?_⟩
 ·show ((List.range f.Core.length).map _).length ≤ 12
  rw [List.length_map, List.length_range]; exact h.core
 ·show (f.Odd.map _).length ≤ 8
  rw [List.length_map]; exact h.odd
 ·obtain ⟨j, _, rfl⟩ := List.mem_map.1 hl
  exact csz_len hs h _
 ·obtain ⟨x, hx, rfl⟩ := List.mem_map.1 hg
  exact h.ticks x hx
end Go.Dn

namespace Go.Dn
open Go
theorem inRange13 {i : Int} : ZH i = decide (ZJ i) := by
 unfold ZH ZJ
 rw [← Bool.decide_and]
theorem right13_eq {f : Form} (hl : Lim f) : ∃ b, Z1G f = some b ∧ (b = true ↔ Z8e f ∧ RightF f) := by
 unfold Z1G
 obtain ⟨b, hb, hbs⟩ := Z6j hl
 rw [hb]
 simp only [Option.bind_some]
 cases b with
 | false => exact ⟨false, rfl, fun h => (by cases h), fun h => by have := hbs.2 h.1; cases this⟩
 | true =>
  have hsm := hbs.1 rfl
  have hnl : ¬ LongF f := by unfold LongF; have := hsm.1; have := hsm.2.1; have := hsm.2.2; omega
  rw [cond_true]
  rcases Z3f hl with ⟨h, _⟩ | ⟨_, h1, h2⟩ | ⟨_, h1, h2⟩
  ·exact absurd h hnl
  ·rw [h2]; exact ⟨true, rfl, fun _ => ⟨hsm, h1⟩, fun _ => rfl⟩
  ·rw [h2]; exact ⟨false, rfl, fun h => (by cases h), fun h => absurd h.2 h1⟩
theorem shift_core {f : Form} (hl : Lim f) (hs : Shape f) (hb : Bnd f) {m : Int} (hm : ZJ m) :
  ZM (ZP.s0 f m) (0, []) = some (.ret (Form.mk 0 0 [] [], 20)) ∨ (ZM (ZP.s0 f m) (0, []) = some (.go (Z12 f m).Core) ∧ ∀ l ∈ (Z12 f m).Core, Len l ∧ Sp64 l) := by
 have hcnt := hs.count
 have hfew := hb.core
 unfold ZJ at hm
 obtain ⟨r, q1, q2⟩ := Z1F (step := ZP.s0 f m)
  (fun s => ∃ k : Nat, k ≤ f.Core.length ∧ s = ((k : Int), (List.range k).map fun (j : Nat) => csz f ((j : Int) - m)) ∧ ∀ j : Nat, j < k → Len (csz f ((j : Int) - m)) ∧ Sp64 (csz f ((j : Int) - m)))
  (fun s => f.Core.length - s.1.toNat)
  (fun r => r = .ret (Form.mk 0 0 [] [], 20) ∨ (r = .go (Z12 f m).Core ∧ ∀ l ∈ (Z12 f m).Core, Len l ∧ Sp64 l)) (by
   rintro s ⟨k, hk, rfl, hall⟩;unfold ZP.s0;simp only
   by_cases hlt : k < f.Core.length
   ·rw [Zq (show (k : Int) < f.Count by omega), cond_true, ZY (x := (k : Int) - m) (by omega)]
    rcases raw_eq hl hs (i := (k : Int) - m) (by unfold In64; omega) with ⟨e, t1, t2⟩ | e
    ·left
     rw [e];simp only [Option.bind_some, bne_self_eq_false, cond_false];rw [app?_ok (by
      have := Z3h
      simp only [List.length_append, List.length_map, List.length_range, List.length_singleton];omega)]
     simp only [Option.bind_some];rw [ZY (x := (k : Int) + 1) (by omega)]
     refine ⟨_, rfl, ⟨k + 1, hlt, ?_, fun j hj => ?_⟩, by simp only; omega⟩
     ·rw [List.range_succ, List.map_append]; push_cast; rfl
     ·by_cases hjk : j = k
      ·subst hjk;refine ⟨t2, fun s hs' => ?_⟩
       have := t1 s hs'
       unfold ZJ at this;unfold In64;omega
      ·exact hall j (by omega)
    ·right
     rw [e];exact ⟨_, rfl, .inl rfl⟩
   ·right
    obtain rfl : k = f.Core.length := by omega
    rw [Zv (show ¬ ((f.Core.length : Int) < f.Count) by omega), cond_false]
    refine ⟨_, rfl, .inr ⟨rfl, fun l hl' => ?_⟩⟩
    obtain ⟨j, hj, rfl⟩ := List.mem_map.1 hl'
    exact hall j (List.mem_range.1 hj)) (0, []) ⟨0, Nat.zero_le _, rfl, fun j hj => absurd hj (Nat.not_lt_zero _)⟩
 rcases q2 with rfl | ⟨rfl, h⟩
 ·exact .inl q1
 ·exact .inr ⟨q1, h⟩
theorem shift_odd {f : Form} (hl : Lim f) (hs : Shape f) (hb : Bnd f) {m : Int} (hm : ZJ m) :
  ZM (ZP.s1 f m) (0, []) = some (.ret (Form.mk 0 0 [] [], 20)) ∨ (ZM (ZP.s1 f m) (0, []) = some (.go (Z12 f m).Odd) ∧ ∀ g ∈ f.Odd, ZJ (g.Index + m)) := by
 have hfew := hb.odd
 unfold ZJ at hm
 obtain ⟨r, q1, q2⟩ := Z1F (step := ZP.s1 f m)
  (fun s => ∃ k : Nat, k ≤ f.Odd.length ∧ s = ((k : Int), (f.Odd.take k).map fun g => Granule.mk (g.Index + m) g.Ticks) ∧ ∀ g ∈ f.Odd.take k, ZJ (g.Index + m))
  (fun s => f.Odd.length - s.1.toNat)
  (fun r => r = .ret (Form.mk 0 0 [] [], 20) ∨ (r = .go (Z12 f m).Odd ∧ ∀ g ∈ f.Odd, ZJ (g.Index + m))) (by
   rintro s ⟨k, hk, rfl, hall⟩;unfold ZP.s1;simp only
   by_cases hlt : k < f.Odd.length
   ·have hmem := List.getElem_mem hlt
    have htk : f.Odd.take (k + 1) = f.Odd.take k ++ [f.Odd[k]] := (List.take_append_getElem hlt).symm
    have hti := (hs.odd _ hmem).2
    unfold ZJ at hti;rw [Zq (show (k : Int) < f.Odd.length by omega), cond_true, at?_nat hlt]
    simp only [Option.bind_some];rw [ZY (x := f.Odd[k].Index + m) (by omega), inRange13]
    by_cases hr : ZJ (f.Odd[k].Index + m)
    ·left
     rw [Zq hr];simp only [Bool.not_true, cond_false];have h60 := hb.ticks _ hmem
     rw [app?_ok (by
      have := Z3h
      simp only [List.length_nil];omega)]
     simp only [Option.bind_some, List.nil_append];rw [app?_ok (by
      have := Z3h
      simp only [List.length_append, List.length_map, List.length_take, List.length_singleton];omega)]
     simp only [Option.bind_some];rw [ZY (x := (k : Int) + 1) (by omega)]
     refine ⟨_, rfl, ⟨k + 1, hlt, ?_, fun g hg => ?_⟩, by simp only; omega⟩
     ·rw [htk, List.map_append]; push_cast; rfl
     ·rw [htk] at hg
      rcases List.mem_append.1 hg with hg | hg
      ·exact hall g hg
      ·rw [List.mem_singleton] at hg; subst hg; exact hr
    ·right
     rw [Zv hr];exact ⟨_, rfl, .inl rfl⟩
   ·right
    obtain rfl : k = f.Odd.length := by omega
    rw [Zv (by omega), cond_false]
    rw [List.take_length] at hall ⊢;exact ⟨_, rfl, .inr ⟨rfl, hall⟩⟩) (0, []) ⟨0, Nat.zero_le _, rfl, by simp⟩
 rcases q2 with rfl | ⟨rfl, h⟩
 ·exact .inl q1
 ·exact .inr ⟨q1, h⟩
theorem shift_eq {f : Form} (hl : Lim f) (hs : Shape f) (hb : Bnd f) {m : Int} (hm : ZJ m) :
  ZP f m = some (Form.mk 0 0 [] [], 20) ∨ ∃ g, ZP f m = some (g, 0) ∧ Lim (Z12 f m) ∧ RightF (Z12 f m) ∧ ZV (Z12 f m) = some g := by
 unfold ZP
 rw [inRange13, Zq hm, Bool.not_true, cond_false]
 rcases shift_core hl hs hb hm with h1 | ⟨h1, c1⟩
 ·rw [h1]; exact .inl rfl
 rw [h1]
 simp only [Option.bind_some, Jx.elim]
 rcases shift_odd hl hs hb hm with h2 | ⟨h2, c2⟩
 ·rw [h2]; exact .inl rfl
 rw [h2]
 simp only [Option.bind_some]
 have e : Form.mk f.Period f.Count (Z12 f m).Core (Z12 f m).Odd = Z12 f m := rfl
 rw [e]
 have lim : Lim (Z12 f m) := by
  have r := Z11
  have h3 := hb.core
  have h4 := hb.odd
  refine ⟨?_, c1, ?_, fun g hg => ?_, hl.count, hl.period⟩
  ·show ((List.range f.Core.length).map _).length * 24 ≤ reachBytes
   rw [List.length_map, List.length_range]; omega
  ·show (f.Odd.map _).length * 32 ≤ reachBytes
   rw [List.length_map]; omega
  ·obtain ⟨x, hx, rfl⟩ := List.mem_map.1 hg
   exact ⟨Z1g (c2 x hx), (hl.ticks x hx).2⟩
 have short := (Z7I hs hb m).short
 unfold Z1B
 rcases Z3f lim with ⟨h, _⟩ | ⟨_, h3, h4⟩ | ⟨_, h3, h4⟩
 ·exact absurd h short
 ·rw [h4];simp only [Option.bind_some, beq_self_eq_true, cond_true];obtain ⟨c, _, hc⟩ := Z28 lim h3.shape
  right
  rw [hc];exact ⟨_, rfl, lim, h3, rfl⟩
 ·rw [h4];exact .inl rfl
end Go.Dn

namespace Go.Dn
open Go
def seam (x s : Span) : List Span := if s.From = x.To + 1 then [⟨x.From, s.To⟩] else [x, s]
def glue (out l : List Span) : List Span :=
 match out.getLast?, l with
 | some x, s :: l' => out.dropLast ++ (seam x s ++ l')
 | _, _ => out ++ l
theorem Z3I (a : List Span) : glue a [] = a := by
 unfold glue
 cases h : a.getLast? <;> simp
theorem Z2k (b : List Span) : glue [] b = b := by
 unfold glue
 cases b <;> simp
theorem Z0S (a : List Span) (x s : Span) (l : List Span) : glue (a ++ [x]) (s :: l) = a ++ (seam x s ++ l) := by
 unfold glue
 simp
theorem Z6T {a : List Span} (h : a ≠ []) : ∃ b x, a = b ++ [x] := ⟨a.dropLast, a.getLast h, (List.dropLast_concat_getLast h).symm⟩
theorem glue_assoc (a b c : List Span) : glue (glue a b) c = glue a (glue b c) := by
 by_cases ha : a = []
 ·subst ha; rw [Z2k, Z2k]
 by_cases hc : c = []
 ·subst hc; rw [Z3I, Z3I]
 by_cases hb : b = []
 ·subst hb; rw [Z3I, Z2k]
 obtain ⟨a', x, rfl⟩ := Z6T ha
 obtain ⟨t, c', rfl⟩ := List.exists_cons_of_ne_nil hc
 obtain ⟨s, b', rfl⟩ := List.exists_cons_of_ne_nil hb
 rw [Z0S]
 by_cases hb' : b' = []
 ·subst hb';have e1 : glue [s] (t :: c') = seam s t ++ c' := by
   have := Z0S [] s t c'
   simpa using this
  rw [e1];unfold seam
  by_cases h1 : s.From = x.To + 1
  ·by_cases h2 : t.From = s.To + 1
   ·rw [if_pos h1, if_pos h2];have := Z0S a' ⟨x.From, s.To⟩ t c'
    simp only [List.append_nil, List.cons_append, List.nil_append];rw [this];have := Z0S a' x ⟨s.From, t.To⟩ c'
    rw [this];unfold seam;rw [if_pos h2, if_pos h1]
   ·rw [if_pos h1, if_neg h2];have := Z0S a' ⟨x.From, s.To⟩ t c'
    simp only [List.append_nil, List.cons_append, List.nil_append];rw [this];have := Z0S a' x s (t :: c')
    rw [this];unfold seam;rw [if_neg h2, if_pos h1]
    simp
  ·by_cases h2 : t.From = s.To + 1
   ·rw [if_neg h1, if_pos h2];have := Z0S (a' ++ [x]) s t c'
    simp only [List.append_nil, List.cons_append, List.nil_append];rw [show a' ++ [x, s] = a' ++ [x] ++ [s] by simp, this]
    have := Z0S a' x ⟨s.From, t.To⟩ c'
    rw [this];unfold seam;rw [if_pos h2, if_neg h1]
    simp
   ·rw [if_neg h1, if_neg h2];have := Z0S (a' ++ [x]) s t c'
    simp only [List.append_nil, List.cons_append, List.nil_append];rw [show a' ++ [x, s] = a' ++ [x] ++ [s] by simp, this]
    have := Z0S a' x s (t :: c')
    rw [this];unfold seam;rw [if_neg h2, if_neg h1]
    simp
 ·obtain ⟨b'', y, rfl⟩ := Z6T hb'
  have e1 : glue (s :: (b'' ++ [y])) (t :: c') = s :: (b'' ++ (seam y t ++ c')) := by
   have := Z0S (s :: b'') y t c'
   simpa using this
  rw [e1, Z0S];have := Z0S (a' ++ (seam x s ++ b'')) y t c'
  simp only [List.append_assoc] at this ⊢;exact this
def gl (h : Int → List Span) (a : Int) : Nat → List Span
 | 0 => []
 | n + 1 => glue (gl h a n) (h (a + n))
theorem gl_add (h : Int → List Span) (a : Int) (n : Nat) : ∀ m : Nat, gl h a (n + m) = glue (gl h a n) (gl h (a + n) m)
 | 0 => (Z3I _).symm
 | m + 1 => by
  show glue (gl h a (n + m)) (h (a + ((n + m : Nat) : Int))) = glue (gl h a n) (glue (gl h (a + n) m) (h (a + n + m)))
  rw [gl_add h a n m, glue_assoc, show a + ((n + m : Nat) : Int) = a + n + m by push_cast; omega]
theorem gl_mul (h : Int → List Span) (m : Nat) (a : Int) : ∀ n : Nat, gl (fun i => gl h (i * m) m) a n = gl h (a * m) (n * m)
 | 0 => by rw [Nat.zero_mul]; rfl
 | n + 1 => by
  show glue (gl (fun i => gl h (i * m) m) a n) (gl h ((a + n) * m) m) = _
  rw [gl_mul h m a n, Nat.add_mul, Nat.one_mul, gl_add]
  congr 2
  push_cast
  rw [Int.add_mul]
theorem gl_congr {h g : Int → List Span} {a b : Int} {n : Nat} (he : ∀ j : Nat, j < n → h (a + j) = g (b + j)) : gl h a n = gl g b n := by
 induction n with
 | zero => rfl
 | succ n ih =>
  show glue (gl h a n) (h (a + n)) = glue (gl g b n) (g (b + n))
  rw [ih fun j hj => he j (by omega), he n (by omega)]
theorem gl_one (h : Int → List Span) (a : Int) : gl h a 1 = h a := by
 show glue [] (h (a + 0)) = h a
 rw [Z2k, Int.add_zero]
theorem seam_shift (d : Int) (x s : Span) : seam (Zh d x) (Zh d s) = (seam x s).map (Zh d) := by
 unfold seam
 by_cases h : s.From = x.To + 1
 ·rw [if_pos h, if_pos (by unfold Zh; simp only; omega)]; rfl
 ·rw [if_neg h, if_neg (by unfold Zh; simp only; omega)]; rfl
theorem glue_shift (d : Int) (a b : List Span) : glue (a.map (Zh d)) (b.map (Zh d)) = (glue a b).map (Zh d) := by
 by_cases ha : a = []
 ·subst ha; rw [Z2k, List.map_nil, Z2k]
 ·obtain ⟨a', x, rfl⟩ := Z6T ha
  cases b with
  | nil => rw [Z3I, List.map_nil, Z3I]
  | cons s l =>
   rw [Z0S, List.map_append, List.map_cons, List.map_nil, List.map_cons, Z0S, seam_shift, List.map_append, List.map_append]
theorem gl_shift {h : Int → List Span} {d p : Int} (hp : ∀ i, h (i + p) = (h i).map (Zh d)) (a : Int) : ∀ n : Nat, gl h (a + p) n = (gl h a n).map (Zh d)
 | 0 => rfl
 | n + 1 => by
  show glue (gl h (a + p) n) (h (a + p + n)) = (glue (gl h a n) (h (a + n))).map (Zh d)
  rw [gl_shift hp a n, show a + p + (n : Int) = a + n + p by omega, hp, glue_shift]
theorem glue_len (a b : List Span) : (glue a b).length ≤ a.length + b.length := by
 by_cases ha : a = []
 ·subst ha; rw [Z2k]; simp
 ·obtain ⟨a', x, rfl⟩ := Z6T ha
  cases b with
  | nil => rw [Z3I]; simp
  | cons s l =>
   rw [Z0S];unfold seam
   split <;> simp <;> omega
end Go.Dn

namespace Go.Dn
open Go
def Z1z (l : List Span) : Prop := ∀ s ∈ l, ZJ s.From ∧ ZJ s.To
theorem glue_ticks {a b : List Span} (ha : Z1z a) (hb : Z1z b) : Z1z (glue a b) := by
 by_cases h : a = []
 ·subst h; rw [Z2k]; exact hb
 ·obtain ⟨a', x, rfl⟩ := Z6T h
  cases b with
  | nil => rw [Z3I]; exact ha
  | cons s l =>
   rw [Z0S];intro t ht;have hx := ha x (by simp)
   have hs := hb s (by simp)
   rcases List.mem_append.1 ht with h1 | h1
   ·exact ha t (List.mem_append_left _ h1)
   ·rcases List.mem_append.1 h1 with h2 | h2
    ·unfold seam at h2
     split at h2
     ·rw [List.mem_singleton] at h2; subst h2; exact ⟨hx.1, hs.2⟩
     ·rcases List.mem_cons.1 h2 with rfl | h2
      ·exact hx
      ·rw [List.mem_singleton] at h2; subst h2; exact hs
    ·exact hb t (List.mem_cons_of_mem _ h2)
theorem at?_last {a : List Span} {x : Span} : at? (a ++ [x]) (((a ++ [x]).length : Int) - 1) = some x := by
 have h := at?_nat (l := a ++ [x]) (k := a.length) (by simp)
 have e : (((a ++ [x]).length : Int) - 1) = (a.length : Int) := by simp
 rw [e, h]
 simp
theorem b0_eq {out l : List Span} {e : Int} (ho : out.length ≤ 4000000) (hl : l.length ≤ 4000000) (to : Z1z out) (tl : Z1z l) : Zk.b0 (out, e) (l, 0) = some ((glue out l, e), 0) := by
 have hr := Z3h
 unfold Zk.b0
 simp only [bne_self_eq_false, cond_false]
 by_cases h : out = []
 ·subst h;rw [Zv (show ¬ ((([] : List Span).length : Int) > 0) by simp)]
  simp only [Bool.false_and, cond_false, Option.bind_some];rw [app?_ok (by simp only [List.length_nil]; omega)]
  simp only [Option.bind_some, Jx.elim, Z2k, List.nil_append]
 ·obtain ⟨a', x, rfl⟩ := Z6T h
  have hlen : ((a' ++ [x]).length : Int) = a'.length + 1 := by simp
  have hlenN : (a' ++ [x]).length = a'.length + 1 := by simp
  cases l with
  | nil =>
   rw [Zv (show ¬ ((([] : List Span).length : Int) > 0) by simp)]
   simp only [Bool.and_false, cond_false, Option.bind_some];rw [app?_ok (by simp only [List.length_nil]; omega)]
   simp only [Option.bind_some, Jx.elim, Z3I, List.append_nil]
  | cons s l =>
   have hll : (s :: l).length = l.length + 1 := rfl
   have tx := to x (by simp)
   unfold ZJ at tx;rw [Zq (show ((a' ++ [x]).length : Int) > 0 by omega), Zq (show (((s :: l).length : Nat) : Int) > 0 by rw [hll]; omega)]
   simp only [Bool.and_self, cond_true];have e1 : at? (s :: l) 0 = some s := rfl
   have e2 : at? (a' ++ [x]) (w64 (((a' ++ [x]).length : Int) - 1)) = some x := by rw [ZY (by omega), at?_last]
   rw [e1];simp only [Option.bind_some];rw [e2];simp only [Option.bind_some];rw [ZY (x := x.To + 1) (by omega)]
   by_cases hc : s.From = x.To + 1
   ·rw [beq_t hc];simp only [cond_true];have e3 : cut? (s :: l) 1 (((s :: l).length : Nat) : Int) = some l := by
     unfold cut?;rw [if_pos (by rw [hll]; omega)]
     simp
    rw [e3];simp only [Option.bind_some];have e4 : (a' ++ [x]).set (w64 (((a' ++ [x]).length : Int) - 1)).toNat (Span.mk x.From s.To) = a' ++ [Span.mk x.From s.To] := by
     rw [ZY (by omega), hlen, show ((a'.length : Int) + 1 - 1).toNat = a'.length by omega]
     simp
    rw [e4, app?_ok (by
     have : (a' ++ [Span.mk x.From s.To]).length = a'.length + 1 := by simp
     omega)]
    simp only [Option.bind_some, Jx.elim, Z0S];unfold seam;rw [if_pos hc]
    simp
   ·rw [Z41 hc];simp only [cond_false, Option.bind_some];rw [app?_ok (by omega)]
    simp only [Option.bind_some, Jx.elim, Z0S];unfold seam;rw [if_neg hc]
    simp
theorem Z7h {h : Int → List Span} {a : Int} {B : Nat} : ∀ {n : Nat}, (∀ j : Nat, j < n → (h (a + j)).length ≤ B ∧ Z1z (h (a + j))) → (gl h a n).length ≤ n * B ∧ Z1z (gl h a n)
 | 0, _ => ⟨by simp [gl], fun s hs => by cases hs⟩
 | n + 1, hh => by
  obtain ⟨h1, h2⟩ := Z7h (n := n) fun j hj => hh j (by omega)
  obtain ⟨h3, h4⟩ := hh n (by omega)
  refine ⟨?_, glue_ticks h2 h4⟩;have := glue_len (gl h a n) (h (a + n))
  show (glue (gl h a n) (h (a + n))).length ≤ (n + 1) * B
  rw [Nat.add_mul];omega
theorem Z96 {tell : Int → Option (List Span × Int)} {h : Int → List Span} {a : Int} {m B : Nat} (hm : m * B ≤ 4000000) (hm2 : m ≤ 4000000) (hB : B ≤ 4000000) (ha : -4611686018427387904 ≤ a ∧ a ≤ 4611686018427387904)
  (ht : ∀ j : Nat, j < m → (tell (a + j) = some (h (a + j), 0) ∧ (h (a + j)).length ≤ B ∧ Z1z (h (a + j))) ∨ tell (a + j) = some ([], 20)) :
  (Zk tell a m = some (gl h a m, 0) ∧ ∀ j : Nat, j < m → (h (a + j)).length ≤ B ∧ Z1z (h (a + j)) ∧ tell (a + j) = some (h (a + j), 0)) ∨
  (Zk tell a m = some ([], 20) ∧ ∃ j : Nat, j < m ∧ tell (a + j) = some ([], 20)) := by
 obtain ⟨r, q1, q2⟩ := Z1F (step := Z0N.s0 m tell a (Z2A Zk.b0))
  (fun s => ∃ k : Nat, k ≤ m ∧ s = ((k : Int), ((gl h a k, 0), 0)) ∧ ∀ j : Nat, j < k → (h (a + j)).length ≤ B ∧ Z1z (h (a + j)) ∧ tell (a + j) = some (h (a + j), 0))
  (fun s => m - s.1.toNat)
  (fun r => (r = .go ((gl h a m, 0), 0) ∧ ∀ j : Nat, j < m → (h (a + j)).length ≤ B ∧ Z1z (h (a + j)) ∧ tell (a + j) = some (h (a + j), 0)) ∨ ((∃ o, r = .ret ((o, 20), 1)) ∧ ∃ j : Nat, j < m ∧ tell (a + j) = some ([], 20))) (by
   rintro s ⟨k, hk, rfl, hall⟩;unfold Z0N.s0;simp only
   by_cases hlt : k < m
   ·rw [Zq (show (k : Int) < m by omega), cond_true, ZY (x := a + (k : Int)) (by omega)]
    rcases ht k hlt with ⟨t1, t2, t3⟩ | t1
    ·left
     rw [t1];obtain ⟨g1, g2⟩ := Z7h (B := B) (n := k) fun j hj => ⟨(hall j hj).1, (hall j hj).2.1⟩
     have hkB : k * B ≤ m * B := Nat.mul_le_mul_right _ hk
     simp only [Option.bind_some, Z2A, if_true];rw [b0_eq (by omega) (by omega) g2 t3]
     simp only [Option.map_some, Option.bind_some, beq_self_eq_true, Bool.not_true, cond_false];rw [ZY (x := (k : Int) + 1) (by omega)]
     refine ⟨_, rfl, ⟨k + 1, hlt, by push_cast; rfl, fun j hj => ?_⟩, by simp only; omega⟩
     by_cases hjk : j = k
     ·subst hjk; exact ⟨t2, t3, t1⟩
     ·exact hall j (by omega)
    ·right
     rw [t1];exact ⟨_, rfl, .inr ⟨⟨_, rfl⟩, k, hlt, t1⟩⟩
   ·right
    obtain rfl : k = m := by omega
    rw [Zv (by omega), cond_false]
    exact ⟨_, rfl, .inl ⟨rfl, hall⟩⟩) (0, (([], 0), 0)) ⟨0, Nat.zero_le _, rfl, fun j hj => absurd hj (Nat.not_lt_zero _)⟩
 unfold Zk Z0N
 simp only [Option.bind_some]
 rw [q1]
 rcases q2 with ⟨rfl, h1⟩ | ⟨⟨o, rfl⟩, h1⟩
 ·exact .inl ⟨rfl, h1⟩
 ·exact .inr ⟨rfl, h1⟩
end Go.Dn
