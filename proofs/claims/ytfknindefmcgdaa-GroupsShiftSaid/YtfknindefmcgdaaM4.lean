/- Part 4 of what the row stands on. -/
import Derived.Test.YtfknindefmcgdaaM3
set_option linter.unusedVariables false
set_option linter.unusedSimpArgs false
namespace Go.Dn
open Go Go.Proofs
set_option maxRecDepth 100000
set_option maxHeartbeats 4000000
theorem Z3k {f : Form} {m : Int} {r : Form × Int} (h : ZP f m = some r) : Fn CX 14 [(.agg (vs (Form.cs f))), (vi m)] (.tup [(.agg (vs (Form.cs r.1))), (vi r.2)]) := by
 refine Fn.ends Try.func14 V V V V V V ?_; have H : Hs (⟨0, fun _ => .none⟩ : Heap) [] := Has.nil (Nat.le_refl _)
 generalize (⟨0, fun _ => .none⟩ : Heap) = σ at H ⊢
 unfold ZP at h; refine .then (.Z0 3 V H fun b1 σ H => (.boxH (cs := (vF f)) H (by omega) (by omega) V V V fun σ H => (.Z02 (cs := [(vi 0), (vi 0), .nils, .nils]) H (by omega) (by omega) V V fun σ H => (.av (vi 0) V V (.nila H fun H => (.then (.then (.Z0 3 V H fun b2 σ H => ?_)))))))); refine .mv (vi m) V V (.call (ys := [(vi m)]) (r := (vb (ZJ m))) V (Z21 V) V (.not (b := (ZJ m)) V V (.nila H fun H => ?_))); refine .whether (v := (!(ZJ m))) V ?_ ?_ <;> intro hc1
 ·replace h := Z8 hc1 h; refine .then (.Z0 3 V H fun b3 σ H => (.Z0Q (cs := [(vi 0), (vi 0), .nils, .nils]) V V (.ZV (cells' := [(vi 0), (vi 0), .nils, .nils]) H 0 V V V V V V V V V nofun fun σ H => (.av (vi 2) V V (.nila H fun H => (.ret ?_)))))); obtain rfl := sj h; exact (Ends.H (xs := [(.agg [(vi 0), (vi 0), .nils, .nils]), (vi 2)]) (.inr V) H (.agg (cs := [(vi 0), (vi 0), .nils, .nils]) 0 V V V V V V V (.tmp (v := (vi 2)) V .nil)) (.two (.cons (.a (.cons (.v _) (.cons (.v _) (.cons .n (.cons .n .nil))))) (.cons (.c (.v _)) .nil))))
 ·replace h := Z7 hc1 h; refine .skip (.then (.Z0 7 V H fun b4 σ H => (.Z1 H 1 V V V V V nofun V (.ld (vi f.Period) H 1 V V V V V nofun V (.Z1 H 1 V V V V V nofun V (.ld (vi f.Count) H 1 V V V V V nofun V (.Z0Q (cs := [(vi f.Period), (vi f.Count), .nils, .nils]) V V (.Z02 (cs := [(vi 0), (vi 0), .nils, .nils]) H (by omega) (by omega) V V fun σ H => ?_)))))))); refine .ZV (cells' := [(vi f.Period), (vi f.Count), .nils, .nils]) H 0 V V V V V V V V V nofun fun σ H => (.nila H fun H => (.then (.then (.Z0 3 V H fun b5 σ H => (.Z1 H 2 V V V V V nofun V (.ld (vi f.Count) H 2 V V V V V nofun V (.mv (vi 0) V V (.nila H fun H => ?_)))))))); refine .inBlock ?_; replace H := H.pushNil 37 1 true; obtain ⟨y1, hj1, h⟩ := bind_some h; obtain ⟨n1, hj1⟩ := ZW.1 hj1; refine .mono (Runs.ZN hj1 (fun s2 e σ => ∃ (w3 : PV), Z5 e [(1, (vi m)), (2, (.ptr (b1 + 0) 4 0)), (4, (.ptr (b1 + 1) 4 0)), (6, (.ptr (b4 + 5) 4 0)), (22, (vi f.Count)), (23, (vi s2.1))] ∧ Hs σ [.sl w3 37 1 (s2.2.map (cL Span.cs)) true, .blk (b4 + 5) 25 [(vi f.Period), (vi f.Count), w3, .nils], .blk (b1 + 1) 25 [(vi 0), (vi 0), .nils, .nils], .blk (b1 + 0) 25 (vF f)]) (fun y1 x e σ => (∃ a1, ∃ (w4 : PV), y1 = (.go a1) ∧ x = .exit 0 ∧ Z5 e [(1, (vi m)), (2, (.ptr (b1 + 0) 4 0)), (4, (.ptr (b1 + 1) 4 0)), (6, (.ptr (b4 + 5) 4 0))] ∧ Hs σ [.sl w4 37 1 (a1.map (cL Span.cs)) true, .blk (b4 + 5) 25 [(vi f.Period), (vi f.Count), w4, .nils], .blk (b1 + 1) 25 [(vi 0), (vi 0), .nils, .nils], .blk (b1 + 0) 25 (vF f)]) ∨ (∃ r', y1 = (.ret r') ∧ x = .ret ∧ Ends CX Try.f14.results.toList (.tup [(.agg (vs (Form.cs r'.1))), (vi r'.2)]) x e σ)) ⟨.nils, ⟨V, V, V, V, V, V, U⟩, H⟩ ?_) ?_
  ·intro s2 e σ hI z h; obtain ⟨w3, he, H⟩ := hI; obtain ⟨e, rfl⟩ := he.ex; unfold ZP.s0 at h; refine .then (.Z0 1 V H fun b6 σ H => (.it s2.1 f.Count (.bool (decide (s2.1 < f.Count))) V V V V V (.nila H fun H => (.then ?_)))); refine .whether (v := (decide (s2.1 < f.Count))) V ?_ ?_ <;> intro hc2
   ·replace h := Z8 hc2 h; refine .skip (.then (.inBlock (.then (.Z0 2 V H fun b7 σ H => (.mv (vi s2.1) V V (.av (vi s2.1) V V (.nila H fun H => (.then ?_)))))))); refine .Z0 10 V H fun b8 σ H => (.Zc (cs := (vF f)) H 3 V V V V V V V nofun V (.mv (vi s2.1) V V (.mv (vi m) V V (.it s2.1 m (.int .i64 (w64 (s2.1 - m))) V V V V V ?_)))); obtain ⟨x1, q1, h⟩ := bind_some h; refine .call (ys := [(.agg (vF f)), (vi (w64 (s2.1 - m)))]) (r := (.tup [(vl Span.cs x1.1), (vi x1.2)])) V (Z6W q1) V (.mv (.tup [(vl Span.cs x1.1), (vi x1.2)]) V V (.xt (vl Span.cs x1.1) V V V (.xt (vi x1.2) V V V (.av (vl Span.cs x1.1) V V (.av (vi x1.2) V V (.nila H fun H => (.then (.then ?_)))))))); refine .Z0 2 V H fun b9 σ H => (.mv (vi x1.2) V V (.it x1.2 0 (.bool (x1.2 != 0)) V V V V V (.nila H fun H => ?_))); refine .whether (v := (x1.2 != 0)) V ?_ ?_ <;> intro hc3
    ·replace h := Z8 hc3 h; refine .then (.Z0 4 V H fun b10 σ H => (.Z0Q (cs := [(vi 0), (vi 0), .nils, .nils]) V V (.mv (vi x1.2) V V (.ZV (cells' := [(vi 0), (vi 0), .nils, .nils]) H 2 V V V V V V V V V nofun fun σ H => (.av (vi x1.2) V V (.nila H fun H => (.ret ?_))))))); obtain rfl := sj h; exact ⟨nofun, (.inr ⟨_, V, V, (Ends.H (xs := [(.agg [(vi 0), (vi 0), .nils, .nils]), (vi x1.2)]) (.inr V) H (.agg (cs := [(vi 0), (vi 0), .nils, .nils]) 2 V V V V V V V (.tmp (v := (vi x1.2)) V .nil)) (.two (.cons (.a (.cons (.v _) (.cons (.v _) (.cons .n (.cons .n .nil))))) (.cons (.c (.v _)) .nil))))⟩)⟩
    ·replace h := Z7 hc3 h; refine .skip (.Z0 7 V H fun b11 σ H => (.Z1 H 1 V V V V V nofun V (.ld w3 H 1 V V V V V nofun V (.mv (vl Span.cs x1.1) V V (.Z2C (sz := 1) ([x1.1].map (cL Span.cs)) H (by omega) (by omega) V V V V V V V V V fun σ H => ?_))))); obtain ⟨x2, q2, h⟩ := bind_some h; refine .Z28 (c := (cL Span.cs)) (v := w3) (w := (.buf (b11 + 3) 1 1)) (xs := s2.2) (ys := [x1.1]) H (by omega) (by omega) 1 V V V (.s 0 V) q2 V V V V V nofun V fun w5 σ H => (.Z1 H 2 V V V V V nofun V (.ZV (v := w5) (ys := [w5]) (cells' := [(vi f.Period), (vi f.Count), w5, .nils]) H 2 V V V V (H.slCells (k := 1) V) V V V V nofun fun σ H => (.nila H fun H => (.Z0 2 V H fun b12 σ H => (.it s2.1 1 (.int .i64 (w64 (s2.1 + 1))) V V V V V (.mv (vi (w64 (s2.1 + 1))) V V (.nila H fun H => ?_))))))); obtain rfl := sj h; exact ⟨V, w5, ⟨V, V, V, V, V, V, U⟩, (H.erase 0)⟩
   ·replace h := Z7 hc2 h; refine .exit ?_; obtain rfl := sj h; exact ⟨nofun, (.inl ⟨_, w3, V, V, ⟨V, V, V, V, U⟩, H⟩)⟩
  ·rintro x e σ (⟨a2, w6, rfl, rfl, he, H⟩ | ⟨r', rfl, rfl, hE⟩)
   ·skip
    replace h := jgo h; obtain ⟨e, rfl⟩ := he.ex; refine .then (.then (.Z0 4 V H fun b13 σ H => (.Z1 H 3 V V V V V nofun V (.ld (vl Granule.cs f.Odd) H 3 V V V V V nofun V (.Zv (c := Granule.cs) (xs := f.Odd) V V V (.mv (vi 0) V V (.nila H fun H => (.inBlock ?_)))))))); replace H := H.pushNil 61 2 true; obtain ⟨y2, hj2, h⟩ := bind_some h; obtain ⟨n2, hj2⟩ := ZW.1 hj2; refine .mono (Runs.ZN hj2 (fun s4 e σ => ∃ (w9 : PV), Z5 e [(1, (vi m)), (4, (.ptr (b1 + 1) 4 0)), (6, (.ptr (b4 + 5) 4 0)), (46, (vl Granule.cs f.Odd)), (47, (vi (f.Odd.length : Int))), (48, (vi s4.1))] ∧ Hs σ [.sl w9 61 2 (s4.2.map Granule.cs) true, .sl w6 37 1 (a2.map (cL Span.cs)) true, .blk (b4 + 5) 25 [(vi f.Period), (vi f.Count), w6, w9], .blk (b1 + 1) 25 [(vi 0), (vi 0), .nils, .nils]]) (fun y2 x e σ => (∃ a3, ∃ (w10 : PV), y2 = (.go a3) ∧ x = .exit 2 ∧ Z5 e [(4, (.ptr (b1 + 1) 4 0)), (6, (.ptr (b4 + 5) 4 0))] ∧ Hs σ [.sl w10 61 2 (a3.map Granule.cs) true, .sl w6 37 1 (a2.map (cL Span.cs)) true, .blk (b4 + 5) 25 [(vi f.Period), (vi f.Count), w6, w10], .blk (b1 + 1) 25 [(vi 0), (vi 0), .nils, .nils]]) ∨ (∃ r', y2 = (.ret r') ∧ x = .ret ∧ Ends CX Try.f14.results.toList (.tup [(.agg (vs (Form.cs r'.1))), (vi r'.2)]) x e σ)) ⟨.nils, ⟨V, V, V, V, V, V, U⟩, (H.erase 4)⟩ ?_) ?_
    ·intro s4 e σ hI z h; obtain ⟨w9, he, H⟩ := hI; obtain ⟨e, rfl⟩ := he.ex; unfold ZP.s1 at h; refine .then (.Z0 1 V H fun b14 σ H => (.it s4.1 (f.Odd.length : Int) (.bool (decide (s4.1 < (f.Odd.length : Int)))) V V V V V (.nila H fun H => (.then ?_)))); refine .whether (v := (decide (s4.1 < (f.Odd.length : Int)))) V ?_ ?_ <;> intro hc4
     ·replace h := Z8 hc4 h; refine .skip (.then (.inBlock (.then (.Z0 4 V H fun b15 σ H => ?_)))); obtain ⟨x3, q3, h⟩ := bind_some h; refine .Zr (c := Granule.cs) (u := x3) V V q3 V V V V (.Z1o (cs := [(.int .i64 x3.Index), (.sl (x3.Ticks.map Span.cs))]) V V V V V V (.Z02 (cs := [(vi 0), .nils]) H (by omega) (by omega) V V fun σ H => (.ZV (cells' := [(vi x3.Index), (vl Span.cs x3.Ticks)]) H 0 V V V V V V V V V nofun fun σ H => (.nila H fun H => (.then (.then (.Z0 6 V H fun b16 σ H => (.Z1 H 0 V V V V V nofun V ?_)))))))); refine .ld (vi x3.Index) H 0 V V V V V nofun V (.mv (vi m) V V (.it x3.Index m (.int .i64 (w64 (x3.Index + m))) V V V V V (.call (ys := [(vi (w64 (x3.Index + m)))]) (r := (vb (ZJ (w64 (x3.Index + m))))) V (Z21 V) V (.not (b := (ZJ (w64 (x3.Index + m)))) V V (.nila H fun H => ?_))))); refine .whether (v := (!(ZJ (w64 (x3.Index + m))))) V ?_ ?_ <;> intro hc5
      ·replace h := Z8 hc5 h; refine .then (.Z0 3 V H fun b17 σ H => (.Z0Q (cs := [(vi 0), (vi 0), .nils, .nils]) V V (.ZV (cells' := [(vi 0), (vi 0), .nils, .nils]) H 4 V V V V V V V V V nofun fun σ H => (.av (vi 20) V V (.nila H fun H => (.ret ?_)))))); obtain rfl := sj h; exact ⟨nofun, (.inr ⟨_, V, V, (Ends.H (xs := [(.agg [(vi 0), (vi 0), .nils, .nils]), (vi 20)]) (.inr V) H (.agg (cs := [(vi 0), (vi 0), .nils, .nils]) 4 V V V V V V V (.tmp (v := (vi 20)) V .nil)) (.two (.cons (.a (.cons (.v _) (.cons (.v _) (.cons .n (.cons .n .nil))))) (.cons (.c (.v _)) .nil))))⟩)⟩
      ·replace h := Z7 hc5 h; refine .skip (.Z20 14 V (by kernel_rfl) H fun b18 σ H B18 => (.Z1 H 3 V V V V V (fun _ => .inl ⟨B18 3 _ V _ V, nofun, (fun _ => by kernel_rfl)⟩) V (.loadHR (v := w9) H 3 V V V V V (fun _ => ⟨B18 3 _ V _ V, _, V, mem_one⟩) V (.Z1 H 0 V V V V V (fun _ => .inl ⟨B18 0 _ V _ V, nofun, (fun _ => by kernel_rfl)⟩) V (.loadHR (v := (vi x3.Index)) H 0 V V V V V (fun _ => ⟨B18 0 _ V _ V, _, V, mem_one⟩) V (.mv (vi m) V V (.it x3.Index m (.int .i64 (w64 (x3.Index + m))) V V V V V (.Z1 H 0 V V V V V (fun _ => .inl ⟨B18 0 _ V _ V, nofun, (fun _ => by kernel_rfl)⟩) V ?_)))))))); refine .ld (vl Span.cs x3.Ticks) H 0 V V V V V (fun _ => .inl ⟨B18 0 _ V _ V, nofun, (fun _ => by kernel_rfl)⟩) V ?_; replace H := H.pushNil 59 2 true; obtain ⟨x4, q4, h⟩ := bind_some h; refine .appendNt (c := Span.cs) (w := (vl Span.cs x3.Ticks)) (ys := x3.Ticks) H (by omega) (by omega) 0 V V V (.m (fun _ => V)) q4 V V V V V (fun _ id ho => nomatch ho) V fun w11 σ hw1 H => ?_; refine .Z0Q (cs := [(vi (w64 (x3.Index + m))), w11]) (by rcases hw1 with rfl | ⟨_, rfl⟩ <;> rfl) rfl (.Z7d (sz := 2) ([(Granule.mk (w64 (x3.Index + m)) x4)].map Granule.cs) H (by omega) (by omega) rfl rfl (.exp (.a (.cons (.v _) (.cons (.s 0 rfl) .nil))) .nil) rfl rfl rfl rfl rfl rfl rfl (fun _ => frz_one (j := 8) hw1 rfl (by kernel_rfl)) fun σ H => ?_); obtain ⟨x5, q5, h⟩ := bind_some h; refine .Z28 (c := Granule.cs) (v := w9) (w := (.buf (b18 + 10) 1 2)) (xs := s4.2) (ys := [(Granule.mk (w64 (x3.Index + m)) x4)]) H (by omega) (by omega) 3 V V V (.s 0 V) q5 V V V V V (fun h => ⟨(fun id ho => .inl ⟨B18 1 _ V id ho, (fun _ => by kernel_rfl), nofun⟩), (fun id ho => .inr ⟨10, (by cases ho; rfl), (fun h => nomatch h), by kernel_rfl, by decide⟩)⟩) V fun w12 σ H => (.Z1 H 5 V V V V V (fun _ => .inl ⟨B18 3 _ V _ V, nofun, (fun _ => by kernel_rfl)⟩) V (.ZV (v := w12) (ys := [w12]) (cells' := [(vi f.Period), (vi f.Count), w6, w12]) H 5 V V V V (H.slCells (k := 3) V) V V V V (fun _ => .inl ⟨B18 3 _ V _ V, (Z5H (by kernel_rfl))⟩) fun σ H => (.nila H fun H => (.Z0 2 V H fun b19 σ H => (.it s4.1 1 (.int .i64 (w64 (s4.1 + 1))) V V V V V (.mv (vi (w64 (s4.1 + 1))) V V (.nila H fun H => ?_)))))))
       obtain rfl := sj h; exact ⟨V, w12, ⟨V, V, V, V, V, V, U⟩, (((H.erase 2).erase 1).erase 0)⟩
     ·replace h := Z7 hc4 h; refine .exit ?_; obtain rfl := sj h; exact ⟨nofun, (.inl ⟨_, w9, V, V, ⟨V, V, U⟩, H⟩)⟩
    ·rintro x e σ (⟨a4, w13, rfl, rfl, he, H⟩ | ⟨r', rfl, rfl, hE⟩)
     ·skip
      replace h := jgo h; obtain ⟨e, rfl⟩ := he.ex; refine .then (.Z0 6 V H fun b20 σ H => (.Zc (cs := [(vi f.Period), (vi f.Count), w6, w13]) H 2 V V V V V V V nofun V ?_)); obtain ⟨x6, q6, h⟩ := bind_some h; refine .Z6R (xs := [(.agg [(vi f.Period), (vi f.Count), w6, w13])]) (ys := [(.agg (vs (Form.cs (Form.mk f.Period f.Count a2 a4))))]) H V (.cons (.a (.cons (.v _) (.cons (.v _) (.cons (.s 1 V) (.cons (.s 0 V) .nil))))) .nil) (Z4C q6) V V nofun V fun σ H => (.xt (.agg (vF x6.1)) V V V (.xt (vi x6.2) V V V (.ZV (cells' := (vF x6.1)) H 3 V V V V V V V V V nofun fun σ H => (.av (vi x6.2) V V (.nila H fun H => (.ret ?_)))))); obtain rfl := sj h; exact (Ends.H (xs := [(.agg (vF x6.1)), (vi x6.2)]) (.inr V) H (.agg (cs := (vF x6.1)) 3 V V V V V V V (.tmp (v := (vi x6.2)) V .nil)) (.two (.cons (.p V) (.cons (.c (.v _)) .nil))))
     ·skip
      replace h := jret h; obtain rfl := sj h; exact hE
   ·skip
    replace h := jret h; obtain rfl := sj h; exact hE
theorem Z5T {f : Form} {i : Int} {r : Bool × (List Span) × Int} (h : Z2R f i = some r) : Fn CX 59 [(.agg (vs (Form.cs f))), (vi i)] (.tup [(vb r.1), (vl Span.cs r.2.1), (vi r.2.2)]) := by
 refine Fn.ends Try.func59 V V V V V V ?_; have H : Hs (⟨0, fun _ => .none⟩ : Heap) [] := Has.nil (Nat.le_refl _)
 generalize (⟨0, fun _ => .none⟩ : Heap) = σ at H ⊢
 unfold Z2R at h; refine .then (.Z0 4 V H fun b1 σ H => (.boxH (cs := (vF f)) H (by omega) (by omega) V V V fun σ H => (.av (vb false) V V (.av .nils V V (.av (vi 0) V V (.nila H fun H => (.then (.Z0 8 V H fun b2 σ H => ?_)))))))); refine .Zc (cs := (vF f)) H 0 V V V V V V V nofun V (.mv (vi i) V V ?_); obtain ⟨x1, q1, h⟩ := bind_some h; refine .call (ys := [(.agg (vF f)), (vi i)]) (r := (.tup [(vl Span.cs x1.1), (vi x1.2)])) V (Z1Q q1) V (.mv (.tup [(vl Span.cs x1.1), (vi x1.2)]) V V (.xt (vl Span.cs x1.1) V V V (.xt (vi x1.2) V V V (.av (vl Span.cs x1.1) V V (.av (vi x1.2) V V (.nila H fun H => (.then (.Z0 12 V H fun b3 σ H => ?_)))))))); refine .mv (vl Span.cs x1.1) V V (.Zv (c := Span.cs) (xs := x1.1) V V V (.it (x1.1.length : Int) 0 (.bool (decide ((x1.1.length : Int) > 0))) V V V V V (.mv (vb (decide ((x1.1.length : Int) > 0))) V V ?_))); refine .mid 3 (K1 := fun e σ => Z5 e [(21, (vb ((decide ((x1.1.length : Int) > 0)) || (x1.2 != 0)))), (7, (vl Span.cs x1.1)), (8, (vi x1.2))] ∧ Has σ (b3 + 7) (b3 + 12) []) rfl ?_ ?_
 ·refine .split V V ?_ ?_ <;> intro hc1
  ·skip
   refine .pass V V V (.pass V V V (.ZY (v := (vb true)) V V V (.nil ?_))); exact ⟨⟨or_T hc1, V, V, U⟩, (H.erase 0).wk (by omega)⟩
  ·skip
   refine .wt V V (.mv (vi x1.2) V V (.wt V V (.it x1.2 0 (.bool (x1.2 != 0)) V V V V V (.Za (v := (vb (x1.2 != 0))) V V V (.nil ?_))))); exact ⟨⟨or_F hc1, V, V, U⟩, (H.erase 0).wk (by omega)⟩
 ·rintro e σ ⟨he, H⟩; obtain ⟨e, rfl⟩ := he.ex; refine .mv (vl Span.cs x1.1) rfl rfl (.mv (vi x1.2) rfl rfl (.av (vb ((decide ((x1.1.length : Int) > 0)) || (x1.2 != 0))) rfl rfl (.av (vl Span.cs x1.1) rfl rfl (.av (vi x1.2) rfl rfl (.nila H fun H => (.ret ?_)))))); obtain rfl := sj h; exact (Ends.H (xs := [(vb ((decide ((x1.1.length : Int) > 0)) || (x1.2 != 0))), (vl Span.cs x1.1), (vi x1.2)]) (.inr rfl) H (.tmp (v := (vb ((decide ((x1.1.length : Int) > 0)) || (x1.2 != 0)))) rfl (.tmp (v := (vl Span.cs x1.1)) rfl (.tmp (v := (vi x1.2)) rfl .nil))) (.two (.cons (.c (.v _)) (.cons (.c (.v _)) (.cons (.c (.v _)) .nil)))))
theorem Z51 {f : Form} {m : Int} {n : Int} {r : Form × Int} (h : Zx f m n = some r) : Fn CX 28 [(.agg (vs (Form.cs f))), (vi m), (vi n)] (.tup [(.agg (vs (Form.cs r.1))), (vi r.2)]) := by
 refine Fn.ends Try.func28 V V V V V V ?_; have H : Hs (⟨0, fun _ => .none⟩ : Heap) [] := Has.nil (Nat.le_refl _)
 generalize (⟨0, fun _ => .none⟩ : Heap) = σ at H ⊢
 unfold Zx at h; refine .then (.Z0 3 V H fun b1 σ H => (.boxH (cs := (vF f)) H (by omega) (by omega) V V V fun σ H => (.Z02 (cs := [(vi 0), (vi 0), .nils, .nils]) H (by omega) (by omega) V V fun σ H => (.av (vi 0) V V (.nila H fun H => (.then (.then (.Z0 13 V H fun b2 σ H => ?_)))))))); refine .mv (vi m) V V (.call (ys := [(vi m)]) (r := (vb (ZJ m))) V (Z21 V) V (.not (b := (ZJ m)) V V (.mv (vb (!(ZJ m))) V V ?_))); refine .mid 4 (K1 := fun e σ => Z5 e [(27, (vb ((!(ZJ m)) || (!(ZJ n))))), (1, (vi m)), (2, (vi n)), (3, (.ptr (b1 + 0) 4 0)), (6, (.ptr (b1 + 1) 4 0))] ∧ Has σ (b2 + 8) (b2 + 13) [.blk (b1 + 1) 25 [(vi 0), (vi 0), .nils, .nils], .blk (b1 + 0) 25 (vF f)]) rfl ?_ ?_
 ·refine .split V V ?_ ?_ <;> intro hc1
  ·skip
   refine .pass V V V (.pass V V V (.pass V V V (.ZY (v := (vb true)) V V V (.nil ?_)))); exact ⟨⟨or_T hc1, V, V, V, V, U⟩, H.wk (by omega)⟩
  ·skip
   refine .wt V V (.mv (vi n) V V (.wt V V (.call (ys := [(vi n)]) (r := (vb (ZJ n))) V (Z21 V) V (.wt V V (.not (b := (ZJ n)) V V (.Za (v := (vb (!(ZJ n)))) V V V (.nil ?_))))))); exact ⟨⟨or_F hc1, V, V, V, V, U⟩, H.wk (by omega)⟩
 ·rintro e σ ⟨he, H⟩; obtain ⟨e, rfl⟩ := he.ex; refine .mv (vb ((!(ZJ m)) || (!(ZJ n)))) rfl rfl ?_; refine .mid 4 (K1 := fun e σ => Z5 e [(32, (vb (((!(ZJ m)) || (!(ZJ n))) || (decide (m > n))))), (1, (vi m)), (2, (vi n)), (3, (.ptr (b1 + 0) 4 0)), (6, (.ptr (b1 + 1) 4 0))] ∧ Has σ (b2 + 13) (b2 + 13) [.blk (b1 + 1) 25 [(vi 0), (vi 0), .nils, .nils], .blk (b1 + 0) 25 (vF f)]) rfl ?_ ?_
  ·refine .split V V ?_ ?_ <;> intro hc2
   ·skip
    refine .pass V V V (.pass V V V (.pass V V V (.ZY (v := (vb true)) V V V (.nil ?_)))); exact ⟨⟨or_T hc2, V, V, V, V, U⟩, H.wk (by omega)⟩
   ·skip
    refine .wt V V (.mv (vi m) V V (.wt V V (.mv (vi n) V V (.wt V V (.it m n (.bool (decide (m > n))) V V V V V (.Za (v := (vb (decide (m > n)))) V V V (.nil ?_))))))); exact ⟨⟨or_F hc2, V, V, V, V, U⟩, H.wk (by omega)⟩
  ·rintro e σ ⟨he, H⟩; obtain ⟨e, rfl⟩ := he.ex; refine .nila H fun H => ?_; refine .whether (v := (((!(ZJ m)) || (!(ZJ n))) || (decide (m > n)))) rfl ?_ ?_ <;> intro hc3
   ·replace h := Z8 hc3 h; refine .then (.Z0 3 V H fun b3 σ H => (.Z0Q (cs := [(vi 0), (vi 0), .nils, .nils]) V V (.ZV (cells' := [(vi 0), (vi 0), .nils, .nils]) H 0 V V V V V V V V V nofun fun σ H => (.av (vi 2) V V (.nila H fun H => (.ret ?_)))))); obtain rfl := sj h; exact (Ends.H (xs := [(.agg [(vi 0), (vi 0), .nils, .nils]), (vi 2)]) (.inr V) H (.agg (cs := [(vi 0), (vi 0), .nils, .nils]) 0 V V V V V V V (.tmp (v := (vi 2)) V .nil)) (.two (.cons (.a (.cons (.v _) (.cons (.v _) (.cons .n (.cons .n .nil))))) (.cons (.c (.v _)) .nil))))
   ·replace h := Z7 hc3 h; refine .skip (.then (.Z0 1 V H fun b4 σ H => (.av .nils V V (.nila H fun H => (.then (.Z0 3 V H fun b5 σ H => (.mv (vi m) V V (.av (vi m) V V ?_)))))))); refine .av (vb true) V V (.nila H fun H => (.then ?_)); obtain ⟨y1, hj1, h⟩ := bind_some h; refine .mono (Q := fun x e σ => x = .normal ∧ Z5 e [(2, (vi n)), (3, (.ptr (b1 + 0) 4 0)), (6, (.ptr (b1 + 1) 4 0)), (8, .nils), (9, (vi y1.1)), (10, (vb y1.2))] ∧ Hs σ [.blk (b1 + 1) 25 [(vi 0), (vi 0), .nils, .nils], .blk (b1 + 0) 25 (vF f)]) ?_ ?_
    ·replace h := hj1; refine .then (.Z0 10 V H fun b6 σ H => (.Zc (cs := (vF f)) H 1 V V V V V V V nofun V (.mv (vi m) V V ?_))); obtain ⟨x1, q1, h⟩ := bind_some h; refine .call (ys := [(.agg (vF f)), (vi m)]) (r := (.tup [(vb x1.1), (vl Span.cs x1.2.1), (vi x1.2.2)])) V (Z5T q1) V (.mv (.tup [(vb x1.1), (vl Span.cs x1.2.1), (vi x1.2.2)]) V V (.xt (vb x1.1) V V V (.xt (vl Span.cs x1.2.1) V V V (.xt (vi x1.2.2) V V V (.av (vb x1.1) V V (.av (vl Span.cs x1.2.1) V V (.av (vi x1.2.2) V V (.nila H fun H => ?_)))))))); refine .then (.Z0 2 V H fun b7 σ H => (.mv (vb x1.1) V V (.not (b := x1.1) V V (.nila H fun H => ?_)))); refine .whether (v := (!x1.1)) V ?_ ?_ <;> intro hc4
     ·replace h := Z8 hc4 h; refine .Z0 8 V H fun b8 σ H => (.Zc (cs := (vF f)) H 1 V V V V V V V nofun V (.mv (vi m) V V ?_)); obtain ⟨x2, q2, h⟩ := bind_some h; refine .call (ys := [(.agg (vF f)), (vi m)]) (r := (.tup [(vi x2.1), (vb x2.2)])) V (Z49 q2) V (.mv (.tup [(vi x2.1), (vb x2.2)]) V V (.xt (vi x2.1) V V V (.xt (vb x2.2) V V V (.av (vi x2.1) V V (.av (vb x2.2) V V (.nila H fun H => ?_)))))); obtain rfl := sj h; exact ⟨V, ⟨V, V, V, V, V, V, U⟩, H⟩
     ·replace h := Z7 hc4 h; refine .skip ?_; obtain rfl := sj h; exact ⟨V, ⟨V, V, V, V, V, V, U⟩, H⟩
    ·rintro x e σ ⟨rfl, he, H⟩; obtain ⟨e, rfl⟩ := he.ex; refine .then (.inBlock ?_); replace H := H.pushNil 3 1 true; obtain ⟨y2, hj2, h⟩ := bind_some h; obtain ⟨n1, hj2⟩ := ZW.1 hj2; refine .mono (Runs.ZN hj2 (fun s2 e σ => ∃ (w3 : PV), Z5 e [(2, (vi n)), (3, (.ptr (b1 + 0) 4 0)), (6, (.ptr (b1 + 1) 4 0)), (8, w3), (9, (vi s2.1)), (10, (vb s2.2.1))] ∧ Hs σ [.sl w3 3 1 (s2.2.2.map (cI .i64)) true, .blk (b1 + 1) 25 [(vi 0), (vi 0), .nils, .nils], .blk (b1 + 0) 25 (vF f)]) (fun y2 x e σ => (∃ a1, ∃ (w4 : PV), y2 = (.go a1) ∧ x = .exit 0 ∧ Z5 e [(3, (.ptr (b1 + 0) 4 0)), (6, (.ptr (b1 + 1) 4 0)), (8, w4)] ∧ Hs σ [.sl w4 3 1 (a1.map (cI .i64)) true, .blk (b1 + 1) 25 [(vi 0), (vi 0), .nils, .nils], .blk (b1 + 0) 25 (vF f)]) ∨ (∃ r', y2 = (.ret r') ∧ x = .ret ∧ Ends CX Try.f28.results.toList (.tup [(.agg (vs (Form.cs r'.1))), (vi r'.2)]) x e σ)) ⟨.nils, ⟨V, V, V, V, V, V, U⟩, H⟩ ?_) ?_
     ·intro s2 e σ hI z h; obtain ⟨w3, he, H⟩ := hI; obtain ⟨e, rfl⟩ := he.ex; unfold Zx.s0 at h; refine .then (.then (.Z0 6 V H fun b9 σ H => (.mv (vb s2.2.1) V V (.mv (vb s2.2.1) V V ?_)))); refine .mid 4 (K1 := fun e σ => Z5 e [(55, (vb (s2.2.1 && (decide (s2.1 ≤ n))))), (2, (vi n)), (3, (.ptr (b1 + 0) 4 0)), (6, (.ptr (b1 + 1) 4 0)), (8, w3), (9, (vi s2.1))] ∧ Has σ (b9 + 6) (b9 + 6) [.sl w3 3 1 (s2.2.2.map (cI .i64)) true, .blk (b1 + 1) 25 [(vi 0), (vi 0), .nils, .nils], .blk (b1 + 0) 25 (vF f)]) V ?_ ?_
      ·refine .split V V ?_ ?_ <;> intro hc5
       ·skip
        refine .wt V V (.mv (vi s2.1) V V (.wt V V (.mv (vi n) V V (.wt V V (.it s2.1 n (.bool (decide (s2.1 ≤ n))) V V V V V (.ZY (v := (vb (decide (s2.1 ≤ n)))) V V V (.nil ?_))))))); exact ⟨⟨Z0s hc5, V, V, V, V, V, U⟩, H.wk (by omega)⟩
       ·skip
        refine .pass V V V (.pass V V V (.pass V V V (.Za (v := (vb false)) V V V (.nil ?_)))); exact ⟨⟨Z0r hc5, V, V, V, V, V, U⟩, H.wk (by omega)⟩
      ·rintro e σ ⟨he, H⟩; obtain ⟨e, rfl⟩ := he.ex; refine .nila H fun H => ?_; refine .whether (v := (s2.2.1 && (decide (s2.1 ≤ n)))) V ?_ ?_ <;> intro hc6
       ·replace h := Z8 hc6 h; refine .skip (.then (.inBlock (.then (.Z0 5 V H fun b10 σ H => (.mv w3 V V (.mv (vi s2.1) V V (.Z2C (sz := 1) ([s2.1].map (cI .i64)) H (by omega) (by omega) V V V V V V V V V fun σ H => ?_))))))); obtain ⟨x3, q3, h⟩ := bind_some h; refine .Z28 (c := (cI .i64)) (v := w3) (w := (.buf (b10 + 2) 1 1)) (xs := s2.2.2) (ys := [s2.1]) H (by omega) (by omega) 1 V V V (.s 0 V) q3 V V V V V nofun V fun w5 σ H => (.av w5 V V (.nila H fun H => (.then (.Z0 3 V H fun b11 σ H => (.mv w5 V V (.Z6g (c := (cI .i64)) (xs := x3) H 1 V V V nofun V (.it (x3.length : Int) 6000 (.bool (decide ((x3.length : Int) > 6000))) V V V V V (.nila H fun H => ?_)))))))); refine .whether (v := (decide ((x3.length : Int) > 6000))) V ?_ ?_ <;> intro hc7
        ·replace h := Z8 hc7 h; refine .then (.Z0 3 V H fun b12 σ H => (.Z0Q (cs := [(vi 0), (vi 0), .nils, .nils]) V V (.ZV (cells' := [(vi 0), (vi 0), .nils, .nils]) H 2 V V V V V V V V V nofun fun σ H => (.av (vi 3) V V (.nila H fun H => (.ret ?_)))))); obtain rfl := sj h; exact ⟨nofun, (.inr ⟨_, V, V, (Ends.H (xs := [(.agg [(vi 0), (vi 0), .nils, .nils]), (vi 3)]) (.inr V) H (.agg (cs := [(vi 0), (vi 0), .nils, .nils]) 2 V V V V V V V (.tmp (v := (vi 3)) V .nil)) (.two (.cons (.a (.cons (.v _) (.cons (.v _) (.cons .n (.cons .n .nil))))) (.cons (.c (.v _)) .nil))))⟩)⟩
        ·replace h := Z7 hc7 h; refine .skip (.Z0 8 V H fun b13 σ H => (.Zc (cs := (vF f)) H 3 V V V V V V V nofun V (.mv (vi s2.1) V V ?_))); obtain ⟨x4, q4, h⟩ := bind_some h; refine .call (ys := [(.agg (vF f)), (vi s2.1)]) (r := (.tup [(vi x4.1), (vb x4.2)])) V (Z49 q4) V (.mv (.tup [(vi x4.1), (vb x4.2)]) V V (.xt (vi x4.1) V V V (.xt (vb x4.2) V V V (.av (vi x4.1) V V (.av (vb x4.2) V V (.nila H fun H => ?_)))))); obtain rfl := sj h; exact ⟨V, w5, ⟨V, V, V, V, V, V, U⟩, (H.erase 0)⟩
       ·replace h := Z7 hc6 h; refine .exit ?_; obtain rfl := sj h; exact ⟨nofun, (.inl ⟨_, w3, V, V, ⟨V, V, V, U⟩, H⟩)⟩
     ·rintro x e σ (⟨a2, w6, rfl, rfl, he, H⟩ | ⟨r', rfl, rfl, hE⟩)
      ·skip
       replace h := jgo h; obtain ⟨e, rfl⟩ := he.ex; refine .then (.Z0 1 V H fun b14 σ H => (.Z02 (cs := [(vi 0), (vi 0), .nils, .nils]) H (by omega) (by omega) V V fun σ H => (.nila H fun H => (.then (.then (.Z0 3 V H fun b15 σ H => (.mv w6 V V (.Z6g (c := (cI .i64)) (xs := a2) H 1 V V V nofun V ?_)))))))); refine .mv (vi 0) V V (.nila H fun H => (.inBlock ?_)); replace H := H.pushNil 61 2 true; obtain ⟨y3, hj3, h⟩ := bind_some h; obtain ⟨n2, hj3⟩ := ZW.1 hj3; refine .mono (Runs.ZN hj3 (fun s4 e σ => ∃ (w9 : PV), Z5 e [(3, (.ptr (b1 + 0) 4 0)), (6, (.ptr (b1 + 1) 4 0)), (14, (.ptr (b14 + 0) 4 0)), (70, w6), (71, (vi (a2.length : Int))), (72, (vi s4.1))] ∧ Hs σ [.sl w9 61 2 (s4.2.map Granule.cs) true, .blk (b14 + 0) 25 [(vi 0), (vi 0), .nils, w9], .sl w6 3 1 (a2.map (cI .i64)) true, .blk (b1 + 1) 25 [(vi 0), (vi 0), .nils, .nils], .blk (b1 + 0) 25 (vF f)]) (fun y3 x e σ => (∃ a3, ∃ (w10 : PV), y3 = (.go a3) ∧ x = .exit 2 ∧ Z5 e [(6, (.ptr (b1 + 1) 4 0)), (14, (.ptr (b14 + 0) 4 0))] ∧ Hs σ [.sl w10 61 2 (a3.map Granule.cs) true, .blk (b14 + 0) 25 [(vi 0), (vi 0), .nils, w10], .blk (b1 + 1) 25 [(vi 0), (vi 0), .nils, .nils]]) ∨ (∃ r', y3 = (.ret r') ∧ x = .ret ∧ Ends CX Try.f28.results.toList (.tup [(.agg (vs (Form.cs r'.1))), (vi r'.2)]) x e σ)) ⟨.nils, ⟨V, V, V, V, V, V, U⟩, H⟩ ?_) ?_
       ·intro s4 e σ hI z h; obtain ⟨w9, he, H⟩ := hI; obtain ⟨e, rfl⟩ := he.ex; unfold Zx.s1 at h; refine .then (.Z0 1 V H fun b16 σ H => (.it s4.1 (a2.length : Int) (.bool (decide (s4.1 < (a2.length : Int)))) V V V V V (.nila H fun H => (.then ?_)))); refine .whether (v := (decide (s4.1 < (a2.length : Int)))) V ?_ ?_ <;> intro hc8
        ·replace h := Z8 hc8 h; refine .skip (.then (.inBlock (.then (.Z0 3 V H fun b17 σ H => ?_)))); obtain ⟨x5, q5, h⟩ := bind_some h; refine .Z74 H 2 V V V (at?_map q5) V V nofun V ?_; intro id1 hv1; refine .loadS (id := id1) (j := 0) (w := (.int .i64 x5)) H 2 V hv1 (by simp) (at?_map q5) V (by simp) V V V nofun V ?_; refine .av (vi x5) V V (.nila H fun H => (.then (.Z0 10 V H fun b18 σ H => (.Zc (cs := (vF f)) H 4 V V V V V V V nofun V (.mv (vi x5) V V ?_))))); obtain ⟨x6, q6, h⟩ := bind_some h; refine .call (ys := [(.agg (vF f)), (vi x5)]) (r := (.tup [(vb x6.1), (vl Span.cs x6.2.1), (vi x6.2.2)])) V (Z5T q6) V (.mv (.tup [(vb x6.1), (vl Span.cs x6.2.1), (vi x6.2.2)]) V V (.xt (vb x6.1) V V V (.xt (vl Span.cs x6.2.1) V V V (.xt (vi x6.2.2) V V V (.av (vb x6.1) V V (.av (vl Span.cs x6.2.1) V V (.av (vi x6.2.2) V V (.nila H fun H => ?_)))))))); refine .then (.then (.Z0 2 V H fun b19 σ H => (.mv (vi x6.2.2) V V (.it x6.2.2 0 (.bool (x6.2.2 != 0)) V V V V V (.nila H fun H => ?_))))); refine .whether (v := (x6.2.2 != 0)) V ?_ ?_ <;> intro hc9
         ·replace h := Z8 hc9 h; refine .then (.Z0 3 V H fun b20 σ H => (.Z0Q (cs := [(vi 0), (vi 0), .nils, .nils]) V V (.ZV (cells' := [(vi 0), (vi 0), .nils, .nils]) H 3 V V V V V V V V V nofun fun σ H => (.av (vi 20) V V (.nila H fun H => (.ret ?_)))))); obtain rfl := sj h; exact ⟨nofun, (.inr ⟨_, V, V, (Ends.H (xs := [(.agg [(vi 0), (vi 0), .nils, .nils]), (vi 20)]) (.inr V) H (.agg (cs := [(vi 0), (vi 0), .nils, .nils]) 3 V V V V V V V (.tmp (v := (vi 20)) V .nil)) (.two (.cons (.a (.cons (.v _) (.cons (.v _) (.cons .n (.cons .n .nil))))) (.cons (.c (.v _)) .nil))))⟩)⟩
         ·replace h := Z7 hc9 h; refine .skip (.Z0 9 V H fun b21 σ H => (.Z1 H 1 V V V V V nofun V (.ld w9 H 1 V V V V V nofun V (.mv (vi x5) V V (.mv (vl Span.cs x6.2.1) V V (.Z0Q (cs := [(vi x5), (vl Span.cs x6.2.1)]) V V (.Z2C (sz := 2) ([(Granule.mk x5 x6.2.1)].map Granule.cs) H (by omega) (by omega) V V V V V V V V V fun σ H => ?_))))))); obtain ⟨x7, q7, h⟩ := bind_some h; refine .Z28 (c := Granule.cs) (v := w9) (w := (.buf (b21 + 5) 1 2)) (xs := s4.2) (ys := [(Granule.mk x5 x6.2.1)]) H (by omega) (by omega) 1 V V V (.s 0 V) q7 V V V V V nofun V fun w11 σ H => (.Z1 H 2 V V V V V nofun V (.ZV (v := w11) (ys := [w11]) (cells' := [(vi 0), (vi 0), .nils, w11]) H 2 V V V V (H.slCells (k := 1) V) V V V V nofun fun σ H => (.nila H fun H => (.Z0 2 V H fun b22 σ H => (.it s4.1 1 (.int .i64 (w64 (s4.1 + 1))) V V V V V (.mv (vi (w64 (s4.1 + 1))) V V (.nila H fun H => ?_))))))); obtain rfl := sj h; exact ⟨V, w11, ⟨V, V, V, V, V, V, U⟩, (H.erase 0)⟩
        ·replace h := Z7 hc8 h; refine .exit ?_; obtain rfl := sj h; exact ⟨nofun, (.inl ⟨_, w9, V, V, ⟨V, V, U⟩, ((H.erase 4).erase 2)⟩)⟩
       ·rintro x e σ (⟨a4, w12, rfl, rfl, he, H⟩ | ⟨r', rfl, rfl, hE⟩)
        ·skip
         replace h := jgo h; obtain ⟨e, rfl⟩ := he.ex; refine .then (.Z0 6 V H fun b23 σ H => (.Zc (cs := [(vi 0), (vi 0), .nils, w12]) H 1 V V V V V V V nofun V ?_)); obtain ⟨x8, q8, h⟩ := bind_some h; refine .Z6R (xs := [(.agg [(vi 0), (vi 0), .nils, w12])]) (ys := [(.agg (vs (Form.cs (Form.mk 0 0 [] a4))))]) H V (.cons (.a (.cons (.v _) (.cons (.v _) (.cons (.n) (.cons (.s 0 V) .nil))))) .nil) (Z4C q8) V V nofun V fun σ H => (.xt (.agg (vF x8.1)) V V V (.xt (vi x8.2) V V V (.ZV (cells' := (vF x8.1)) H 2 V V V V V V V V V nofun fun σ H => (.av (vi x8.2) V V (.nila H fun H => (.ret ?_)))))); obtain rfl := sj h; exact (Ends.H (xs := [(.agg (vF x8.1)), (vi x8.2)]) (.inr V) H (.agg (cs := (vF x8.1)) 2 V V V V V V V (.tmp (v := (vi x8.2)) V .nil)) (.two (.cons (.p V) (.cons (.c (.v _)) .nil))))
        ·skip
         replace h := jret h; obtain rfl := sj h; exact hE
      ·skip
       replace h := jret h; obtain rfl := sj h; exact hE
theorem Z6O {r : Form} (h : ZM = r) : Fn CX 29 [] (.agg (vs (Form.cs r))) := by
 refine Fn.ends Try.func29 V V V V V V ?_; have H : Hs (⟨0, fun _ => .none⟩ : Heap) [] := Has.nil (Nat.le_refl _)
 generalize (⟨0, fun _ => .none⟩ : Heap) = σ at H ⊢
 unfold ZM at h; refine .then (.Z0 1 V H fun b1 σ H => (.Z02 (cs := [(vi 0), (vi 0), .nils, .nils]) H (by omega) (by omega) V V fun σ H => (.nila H fun H => (.then (.Z0 5 V H fun b2 σ H => (.Z0Q (cs := [(vi 0), (vi 4)]) V V (.Z2C (sz := 2) ([(Span.mk 0 4)].map Span.cs) H (by omega) (by omega) V V V V V V V V V fun σ H => (.Z7d (sz := 1) ([[(Span.mk 0 4)]].map (cL Span.cs)) H (by omega) (by omega) V V (.exp (.c (.s 0 V)) .nil) V V V V V V V nofun fun σ H => ?_)))))))); refine .Z0Q (cs := [(vi 7), (vi 1), (.buf (b2 + 2) 1 1), .nils]) V V (.ZV (cells' := [(vi 7), (vi 1), (.buf (b2 + 2) 1 1), .nils]) H 2 V V V V V V V V V nofun fun σ H => (.nila H fun H => (.ret ?_))); subst h; exact (Ends.H (xs := [(.agg [(vi 7), (vi 1), (.buf (b2 + 2) 1 1), .nils])]) (.inr V) H (.agg (cs := [(vi 7), (vi 1), (.buf (b2 + 2) 1 1), .nils]) 2 V V V V V V V .nil) (.one (.a (.cons (.v _) (.cons (.v _) (.cons (.s 0 V) (.cons .n .nil)))))))
theorem Z23 {a : (List Span)} {b : (List Span)} {r : Bool} (h : Zg a b = some r) : Fn CX 30 [(vl Span.cs a), (vl Span.cs b)] (vb r) := by
 refine Fn.ends Try.func30 V V V V V V ?_; have H : Hs (⟨0, fun _ => .none⟩ : Heap) [] := Has.nil (Nat.le_refl _)
 generalize (⟨0, fun _ => .none⟩ : Heap) = σ at H ⊢
 unfold Zg at h; refine .then (.Z0 1 V H fun b1 σ H => (.av (vb false) V V (.nila H fun H => (.then (.then (.Z0 5 V H fun b2 σ H => (.mv (vl Span.cs a) V V (.Zv (c := Span.cs) (xs := a) V V V ?_)))))))); refine .mv (vl Span.cs b) V V (.Zv (c := Span.cs) (xs := b) V V V (.it (a.length : Int) (b.length : Int) (.bool ((a.length : Int) != (b.length : Int))) V V V V V (.nila H fun H => ?_))); refine .whether (v := ((a.length : Int) != (b.length : Int))) V ?_ ?_ <;> intro hc1
 ·replace h := Z8 hc1 h; refine .then (.Z0 1 V H fun b3 σ H => (.av (vb false) V V (.nila H fun H => (.ret ?_)))); obtain rfl := sj h; exact (Ends.H (xs := [(vb false)]) (.inr V) H (.tmp (v := (vb false)) V .nil) (.one (.c (.v _))))
 ·replace h := Z7 hc1 h; refine .skip (.then (.then (.Z0 3 V H fun b4 σ H => (.mv (vl Span.cs a) V V (.Zv (c := Span.cs) (xs := a) V V V (.mv (vi 0) V V (.nila H fun H => (.inBlock ?_)))))))); obtain ⟨y1, hj1, h⟩ := bind_some h; obtain ⟨n1, hj1⟩ := ZW.1 hj1; refine .mono (Runs.ZN hj1 (fun s1 e σ => Z5 e [(1, (vl Span.cs b)), (12, (vl Span.cs a)), (13, (vi (a.length : Int))), (14, (vi s1))] ∧ Hs σ []) (fun y1 x e σ => (∃ a1, y1 = (.go a1) ∧ x = .exit 0 ∧ Z5 e [] ∧ Hs σ []) ∨ (∃ r', y1 = (.ret r') ∧ x = .ret ∧ Ends CX Try.f30.results.toList (vb r') x e σ)) ⟨⟨V, V, V, V, U⟩, H⟩ ?_) ?_
  ·intro s1 e σ hI z h; obtain ⟨he, H⟩ := hI; obtain ⟨e, rfl⟩ := he.ex; unfold Zg.s0 at h; refine .then (.Z0 1 V H fun b5 σ H => (.it s1 (a.length : Int) (.bool (decide (s1 < (a.length : Int)))) V V V V V (.nila H fun H => (.then ?_)))); refine .whether (v := (decide (s1 < (a.length : Int)))) V ?_ ?_ <;> intro hc2
   ·replace h := Z8 hc2 h; refine .skip (.then (.inBlock (.then (.Z0 6 V H fun b6 σ H => (.mv (vi s1) V V ?_))))); obtain ⟨x1, q1, h⟩ := bind_some h; refine .Zr (c := Span.cs) (u := x1) V V q1 V V V V (.Z1o (cs := [(.int .i64 x1.From), (.int .i64 x1.To)]) V V V V V V (.Z02 (cs := [(vi 0), (vi 0)]) H (by omega) (by omega) V V fun σ H => (.av (vi s1) V V (.ZV (cells' := [(vi x1.From), (vi x1.To)]) H 0 V V V V V V V V V nofun fun σ H => (.nila H fun H => (.then (.Z20 6 V (by kernel_rfl) H fun b7 σ H B7 => (.mv (vl Span.cs b) V V ?_)))))))); refine .mv (vi s1) V V ?_; obtain ⟨x2, q2, h⟩ := bind_some h; refine .Zr (c := Span.cs) (u := x2) V V q2 V V V V (.Z1o (cs := [(.int .i64 x2.From), (.int .i64 x2.To)]) V V V V V V (.Zc (cs := [(vi x1.From), (vi x1.To)]) H 0 V V V V V V V (fun _ => .inl ⟨B7 0 _ V _ V, nofun, (fun _ => by kernel_rfl)⟩) V (.binA (u := (.agg [(vi x2.From), (vi x2.To)])) (w := (.agg [(vi x1.From), (vi x1.To)])) (r := .bool (!((x2.From == x1.From) && ((x2.To == x1.To) && true)))) V V (by kernel_rfl) (fun _ => ask_eqA V V V V) V (.nila H fun H => ?_)))); refine .whether (v := (!((x2.From == x1.From) && ((x2.To == x1.To) && true)))) V ?_ ?_ <;> intro hc3
    ·replace h := Z8 hc3 h; refine .then (.Z0 1 V H fun b8 σ H => (.av (vb false) V V (.nila H fun H => (.ret ?_)))); obtain rfl := sj h; exact ⟨nofun, (.inr ⟨_, V, V, (Ends.H (xs := [(vb false)]) (.inr V) H (.tmp (v := (vb false)) V .nil) (.one (.c (.v _))))⟩)⟩
    ·replace h := Z7 hc3 h; refine .skip (.Z0 2 V H fun b9 σ H => (.it s1 1 (.int .i64 (w64 (s1 + 1))) V V V V V (.mv (vi (w64 (s1 + 1))) V V (.nila H fun H => ?_)))); obtain rfl := sj h; exact ⟨V, ⟨V, V, V, V, U⟩, (H.erase 0)⟩
   ·replace h := Z7 hc2 h; refine .exit ?_; obtain rfl := sj h; exact ⟨nofun, (.inl ⟨_, V, V, U, H⟩)⟩
  ·rintro x e σ (⟨a2, rfl, rfl, he, H⟩ | ⟨r', rfl, rfl, hE⟩)
   ·skip
    replace h := jgo h; obtain ⟨e, rfl⟩ := he.ex; refine .then (.Z0 1 V H fun b10 σ H => (.av (vb true) V V (.nila H fun H => (.ret ?_)))); obtain rfl := sj h; exact (Ends.H (xs := [(vb true)]) (.inr V) H (.tmp (v := (vb true)) V .nil) (.one (.c (.v _))))
   ·skip
    replace h := jret h; obtain rfl := sj h; exact hE
theorem Z65 {r : Bool} (h : Z1N = some r) : Fn CX 10 [] (vb r) := by
 refine Fn.ends Try.func10 V V V V V V ?_; have H : Hs (⟨0, fun _ => .none⟩ : Heap) [] := Has.nil (Nat.le_refl _)
 generalize (⟨0, fun _ => .none⟩ : Heap) = σ at H ⊢
 unfold Z1N at h; refine .then (.Z0 1 V H fun b1 σ H => (.av (vb false) V V (.nila H fun H => (.then (.Z0 8 V H fun b2 σ H => (.call (ys := []) (r := (.agg (vF ZQ))) V (Z1I V) V ?_)))))); obtain ⟨x1, q1, h⟩ := bind_some h; refine .call (ys := [(.agg (vF ZQ)), (vi 7)]) (r := (.tup [(.agg (vF x1.1)), (vi x1.2)])) V (Z2m q1) V (.mv (.tup [(.agg (vF x1.1)), (vi x1.2)]) V V (.xt (.agg (vF x1.1)) V V V (.xt (vi x1.2) V V V (.Z02 (cs := [(vi 0), (vi 0), .nils, .nils]) H (by omega) (by omega) V V fun σ H => (.ZV (cells' := (vF x1.1)) H 0 V V V V V V V V V nofun fun σ H => (.av (vi x1.2) V V (.nila H fun H => (.then ?_)))))))); refine .Z0 8 V H fun b3 σ H => (.call (ys := []) (r := (.agg (vF ZQ))) V (Z1I V) V ?_); obtain ⟨x2, q2, h⟩ := bind_some h; refine .call (ys := [(.agg (vF ZQ)), (vi 3)]) (r := (.tup [(.agg (vF x2.1)), (vi x2.2)])) V (Z3k q2) V (.mv (.tup [(.agg (vF x2.1)), (vi x2.2)]) V V (.xt (.agg (vF x2.1)) V V V (.xt (vi x2.2) V V V (.Z02 (cs := [(vi 0), (vi 0), .nils, .nils]) H (by omega) (by omega) V V fun σ H => (.ZV (cells' := (vF x2.1)) H 0 V V V V V V V V V nofun fun σ H => (.av (vi x2.2) V V (.nila H fun H => (.then ?_)))))))); refine .Z0 8 V H fun b4 σ H => (.call (ys := []) (r := (.agg (vF ZQ))) V (Z1I V) V ?_); obtain ⟨x3, q3, h⟩ := bind_some h; refine .call (ys := [(.agg (vF ZQ)), (vi 2), (vi 4)]) (r := (.tup [(.agg (vF x3.1)), (vi x3.2)])) V (Z51 q3) V (.mv (.tup [(.agg (vF x3.1)), (vi x3.2)]) V V (.xt (.agg (vF x3.1)) V V V (.xt (vi x3.2) V V V (.Z02 (cs := [(vi 0), (vi 0), .nils, .nils]) H (by omega) (by omega) V V fun σ H => (.ZV (cells' := (vF x3.1)) H 0 V V V V V V V V V nofun fun σ H => (.av (vi x3.2) V V (.nila H fun H => (.then ?_))))))))
 refine .Z0 3 V H fun b5 σ H => (.call (ys := []) (r := (.agg (vF ZM))) V (Z6O V) V (.Z02 (cs := [(vi 0), (vi 0), .nils, .nils]) H (by omega) (by omega) V V fun σ H => (.ZV (cells' := (vF ZM)) H 0 V V V V V V V V V nofun fun σ H => (.nila H fun H => (.then (.Z0 6 V H fun b6 σ H => (.Z0Q (cs := [(vi 8), (vi 11)]) V V (.Z2C (sz := 2) ([(Span.mk 8 11)].map Span.cs) H (by omega) (by omega) V V V V V V V V V fun σ H => ?_)))))))); refine .Z0Q (cs := [(vi 1), (.buf (b6 + 1) 1 2)]) V V (.Z7d (sz := 2) ([(Granule.mk 1 [(Span.mk 8 11)])].map Granule.cs) H (by omega) (by omega) V V (.exp (.a (.cons (.v _) (.cons (.s 0 V) .nil))) .nil) V V V V V V V nofun fun σ H => (.Z1 H 2 V V V V V nofun V (.ZV (cells' := [(vi ZM.Period), (vi ZM.Count), (vl (cL Span.cs) ZM.Core), (.buf (b6 + 3) 1 2)]) H 2 V V V V V V V V V nofun fun σ H => (.nila H fun H => (.then (.Z0 8 V H fun b7 σ H => (.Zc (cs := [(vi ZM.Period), (vi ZM.Count), (vl (cL Span.cs) ZM.Core), (.buf (b6 + 3) 1 2)]) H 2 V V V V V V V nofun V ?_))))))); obtain ⟨x4, q4, h⟩ := bind_some h; refine .Z6R (xs := [(.agg [(vi ZM.Period), (vi ZM.Count), (vl (cL Span.cs) ZM.Core), (.buf (b6 + 3) 1 2)]), (vi 2)]) (ys := [(.agg (vs (Form.cs (Form.mk ZM.Period ZM.Count ZM.Core [(Granule.mk 1 [(Span.mk 8 11)])])))), (vi 2)]) H V (.cons (.a (.cons (.v _) (.cons (.v _) (.cons (.v _) (.cons (.s 0 V) .nil))))) (.cons (.c (.v _)) .nil)) (Z2m q4) V V nofun V fun σ H => (.mv (.tup [(.agg (vF x4.1)), (vi x4.2)]) V V (.xt (.agg (vF x4.1)) V V V (.xt (vi x4.2) V V V (.Z02 (cs := [(vi 0), (vi 0), .nils, .nils]) H (by omega) (by omega) V V fun σ H => (.ZV (cells' := (vF x4.1)) H 0 V V V V V V V V V nofun fun σ H => (.av (vi x4.2) V V (.nila H fun H => (.then ?_))))))))
 refine .Z0 7 V H fun b8 σ H => (.Zc (cs := (vF x2.1)) H 5 V V V V V V V nofun V ?_); obtain ⟨x5, q5, h⟩ := bind_some h; refine .call (ys := [(.agg (vF x2.1)), (vi 0)]) (r := (.tup [(vl Span.cs x5.1), (vi x5.2)])) V (Z1Q q5) V (.mv (.tup [(vl Span.cs x5.1), (vi x5.2)]) V V (.xt (vl Span.cs x5.1) V V V (.xt (vi x5.2) V V V (.av (vl Span.cs x5.1) V V (.av (vi x5.2) V V (.nila H fun H => (.then (.Z0 8 V H fun b9 σ H => ?_)))))))); refine .call (ys := []) (r := (.agg (vF ZQ))) V (Z1I V) V ?_; obtain ⟨x6, q6, h⟩ := bind_some h; refine .call (ys := [(.agg (vF ZQ)), (vi 0)]) (r := (.tup [(.agg (vF x6.1)), (vi x6.2)])) V (Z2m q6) V (.mv (.tup [(.agg (vF x6.1)), (vi x6.2)]) V V (.xt (.agg (vF x6.1)) V V V (.xt (vi x6.2) V V V (.Z02 (cs := [(vi 0), (vi 0), .nils, .nils]) H (by omega) (by omega) V V fun σ H => (.ZV (cells' := (vF x6.1)) H 0 V V V V V V V V V nofun fun σ H => (.av (vi x6.2) V V (.nila H fun H => (.then ?_)))))))); refine .Z0 8 V H fun b10 σ H => (.call (ys := []) (r := (.agg (vF ZQ))) V (Z1I V) V ?_); obtain ⟨x7, q7, h⟩ := bind_some h; refine .call (ys := [(.agg (vF ZQ)), (vi 2), (vi 1)]) (r := (.tup [(.agg (vF x7.1)), (vi x7.2)])) V (Z51 q7) V (.mv (.tup [(.agg (vF x7.1)), (vi x7.2)]) V V (.xt (.agg (vF x7.1)) V V V (.xt (vi x7.2) V V V (.Z02 (cs := [(vi 0), (vi 0), .nils, .nils]) H (by omega) (by omega) V V fun σ H => (.ZV (cells' := (vF x7.1)) H 0 V V V V V V V V V nofun fun σ H => (.av (vi x7.2) V V (.nila H fun H => (.then ?_))))))))
 refine .Z0 6 V H fun b11 σ H => (.Z0Q (cs := [(vi 0), (vi 0)]) V V (.Z2C (sz := 2) ([(Span.mk 0 0)].map Span.cs) H (by omega) (by omega) V V V V V V V V V fun σ H => (.Z7d (sz := 1) ([[(Span.mk 0 0)]].map (cL Span.cs)) H (by omega) (by omega) V V (.exp (.c (.s 0 V)) .nil) V V V V V V V nofun fun σ H => (.Z0Q (cs := [(vi 549755813888), (vi 1), (.buf (b11 + 2) 1 1), .nils]) V V (.Z02 (cs := [(vi 0), (vi 0), .nils, .nils]) H (by omega) (by omega) V V fun σ H => (.ZV (cells' := [(vi 549755813888), (vi 1), (.buf (b11 + 2) 1 1), .nils]) H 0 V V V V V V V V V nofun fun σ H => (.nila H fun H => (.then ?_)))))))); refine .Z0 8 V H fun b12 σ H => (.Zc (cs := [(vi 549755813888), (vi 1), (.buf (b11 + 2) 1 1), .nils]) H 0 V V V V V V V nofun V ?_); obtain ⟨x8, q8, h⟩ := bind_some h; refine .Z6R (xs := [(.agg [(vi 549755813888), (vi 1), (.buf (b11 + 2) 1 1), .nils]), (vi 4)]) (ys := [(.agg (vs (Form.cs (Form.mk 549755813888 1 [[(Span.mk 0 0)]] [])))), (vi 4)]) H V (.cons (.a (.cons (.v _) (.cons (.v _) (.cons (.s 1 V) (.cons (.n) .nil))))) (.cons (.c (.v _)) .nil)) (Z2m q8) V V nofun V fun σ H => (.mv (.tup [(.agg (vF x8.1)), (vi x8.2)]) V V (.xt (.agg (vF x8.1)) V V V (.xt (vi x8.2) V V V (.Z02 (cs := [(vi 0), (vi 0), .nils, .nils]) H (by omega) (by omega) V V fun σ H => (.ZV (cells' := (vF x8.1)) H 0 V V V V V V V V V nofun fun σ H => (.av (vi x8.2) V V (.nila H fun H => (.then ?_)))))))); refine .Z0 95 V H fun b13 σ H => (.mv (vi x1.2) V V (.it x1.2 0 (.bool (x1.2 == 0)) V V V V V (.mv (vb (x1.2 == 0)) V V ?_)))
 refine .mid 3 (K1 := fun e σ => Z5 e [(74, (vb ((x1.2 == 0) && (x2.2 == 0)))), (1, (.ptr (b2 + 5) 4 0)), (5, (.ptr (b4 + 5) 4 0)), (6, (vi x3.2)), (8, (.ptr (b7 + 5) 4 0)), (9, (vi x4.2)), (10, (vl Span.cs x5.1)), (11, (vi x5.2)), (13, (vi x6.2)), (15, (vi x7.2)), (18, (vi x8.2))] ∧ Has σ (b13 + 6) (b13 + 95) [.blk (b7 + 5) 25 (vF x4.1), .blk (b4 + 5) 25 (vF x3.1), .blk (b2 + 5) 25 (vF x1.1)]) V ?_ ?_
 ·refine .split V V ?_ ?_ <;> intro hc1
  ·skip
   refine .wt V V (.mv (vi x2.2) V V (.wt V V (.it x2.2 0 (.bool (x2.2 == 0)) V V V V V (.ZY (v := (vb (x2.2 == 0))) V V V (.nil ?_))))); exact ⟨⟨Z0s hc1, V, V, V, V, V, V, V, V, V, V, U⟩, ((((((((((H.erase 11).erase 9).erase 8).erase 7).erase 5).erase 4).erase 3).erase 2).erase 1).erase 0).wk (by omega)⟩
  ·skip
   refine .pass V V V (.pass V V V (.Za (v := (vb false)) V V V (.nil ?_))); exact ⟨⟨Z0r hc1, V, V, V, V, V, V, V, V, V, V, U⟩, ((((((((((H.erase 11).erase 9).erase 8).erase 7).erase 5).erase 4).erase 3).erase 2).erase 1).erase 0).wk (by omega)⟩
 ·rintro e σ ⟨he, H⟩; obtain ⟨e, rfl⟩ := he.ex; refine .mv (vb ((x1.2 == 0) && (x2.2 == 0))) V V ?_; refine .mid 3 (K1 := fun e σ => Z5 e [(78, (vb (((x1.2 == 0) && (x2.2 == 0)) && (x3.2 == 0)))), (1, (.ptr (b2 + 5) 4 0)), (5, (.ptr (b4 + 5) 4 0)), (8, (.ptr (b7 + 5) 4 0)), (9, (vi x4.2)), (10, (vl Span.cs x5.1)), (11, (vi x5.2)), (13, (vi x6.2)), (15, (vi x7.2)), (18, (vi x8.2))] ∧ Has σ (b13 + 10) (b13 + 95) [.blk (b7 + 5) 25 (vF x4.1), .blk (b4 + 5) 25 (vF x3.1), .blk (b2 + 5) 25 (vF x1.1)]) V ?_ ?_
  ·refine .split V V ?_ ?_ <;> intro hc2
   ·skip
    refine .wt V V (.mv (vi x3.2) V V (.wt V V (.it x3.2 0 (.bool (x3.2 == 0)) V V V V V (.ZY (v := (vb (x3.2 == 0))) V V V (.nil ?_))))); exact ⟨⟨Z0s hc2, V, V, V, V, V, V, V, V, V, U⟩, H.wk (by omega)⟩
   ·skip
    refine .pass V V V (.pass V V V (.Za (v := (vb false)) V V V (.nil ?_))); exact ⟨⟨Z0r hc2, V, V, V, V, V, V, V, V, V, U⟩, H.wk (by omega)⟩
  ·rintro e σ ⟨he, H⟩; obtain ⟨e, rfl⟩ := he.ex; refine .mv (vb (((x1.2 == 0) && (x2.2 == 0)) && (x3.2 == 0))) V V ?_; refine .mid 3 (K1 := fun e σ => Z5 e [(82, (vb ((((x1.2 == 0) && (x2.2 == 0)) && (x3.2 == 0)) && (x4.2 == 0)))), (1, (.ptr (b2 + 5) 4 0)), (5, (.ptr (b4 + 5) 4 0)), (8, (.ptr (b7 + 5) 4 0)), (10, (vl Span.cs x5.1)), (11, (vi x5.2)), (13, (vi x6.2)), (15, (vi x7.2)), (18, (vi x8.2))] ∧ Has σ (b13 + 14) (b13 + 95) [.blk (b7 + 5) 25 (vF x4.1), .blk (b4 + 5) 25 (vF x3.1), .blk (b2 + 5) 25 (vF x1.1)]) V ?_ ?_
   ·refine .split V V ?_ ?_ <;> intro hc3
    ·skip
     refine .wt V V (.mv (vi x4.2) V V (.wt V V (.it x4.2 0 (.bool (x4.2 == 0)) V V V V V (.ZY (v := (vb (x4.2 == 0))) V V V (.nil ?_))))); exact ⟨⟨Z0s hc3, V, V, V, V, V, V, V, V, U⟩, H.wk (by omega)⟩
    ·skip
     refine .pass V V V (.pass V V V (.Za (v := (vb false)) V V V (.nil ?_))); exact ⟨⟨Z0r hc3, V, V, V, V, V, V, V, V, U⟩, H.wk (by omega)⟩
   ·rintro e σ ⟨he, H⟩; obtain ⟨e, rfl⟩ := he.ex; refine .mv (vb ((((x1.2 == 0) && (x2.2 == 0)) && (x3.2 == 0)) && (x4.2 == 0))) V V ?_; refine .mid 3 (K1 := fun e σ => Z5 e [(86, (vb (((((x1.2 == 0) && (x2.2 == 0)) && (x3.2 == 0)) && (x4.2 == 0)) && (x5.2 == 0)))), (1, (.ptr (b2 + 5) 4 0)), (5, (.ptr (b4 + 5) 4 0)), (8, (.ptr (b7 + 5) 4 0)), (10, (vl Span.cs x5.1)), (13, (vi x6.2)), (15, (vi x7.2)), (18, (vi x8.2))] ∧ Has σ (b13 + 18) (b13 + 95) [.blk (b7 + 5) 25 (vF x4.1), .blk (b4 + 5) 25 (vF x3.1), .blk (b2 + 5) 25 (vF x1.1)]) V ?_ ?_
    ·refine .split V V ?_ ?_ <;> intro hc4
     ·skip
      refine .wt V V (.mv (vi x5.2) V V (.wt V V (.it x5.2 0 (.bool (x5.2 == 0)) V V V V V (.ZY (v := (vb (x5.2 == 0))) V V V (.nil ?_))))); exact ⟨⟨Z0s hc4, V, V, V, V, V, V, V, U⟩, H.wk (by omega)⟩
     ·skip
      refine .pass V V V (.pass V V V (.Za (v := (vb false)) V V V (.nil ?_))); exact ⟨⟨Z0r hc4, V, V, V, V, V, V, V, U⟩, H.wk (by omega)⟩
    ·rintro e σ ⟨he, H⟩; obtain ⟨e, rfl⟩ := he.ex; refine .mv (vb (((((x1.2 == 0) && (x2.2 == 0)) && (x3.2 == 0)) && (x4.2 == 0)) && (x5.2 == 0))) V V ?_; refine .mid 3 (K1 := fun e σ => Z5 e [(90, (vb ((((((x1.2 == 0) && (x2.2 == 0)) && (x3.2 == 0)) && (x4.2 == 0)) && (x5.2 == 0)) && (x6.2 == 2)))), (1, (.ptr (b2 + 5) 4 0)), (5, (.ptr (b4 + 5) 4 0)), (8, (.ptr (b7 + 5) 4 0)), (10, (vl Span.cs x5.1)), (15, (vi x7.2)), (18, (vi x8.2))] ∧ Has σ (b13 + 22) (b13 + 95) [.blk (b7 + 5) 25 (vF x4.1), .blk (b4 + 5) 25 (vF x3.1), .blk (b2 + 5) 25 (vF x1.1)]) V ?_ ?_
     ·refine .split V V ?_ ?_ <;> intro hc5
      ·skip
       refine .wt V V (.mv (vi x6.2) V V (.wt V V (.it x6.2 2 (.bool (x6.2 == 2)) V V V V V (.ZY (v := (vb (x6.2 == 2))) V V V (.nil ?_))))); exact ⟨⟨Z0s hc5, V, V, V, V, V, V, U⟩, H.wk (by omega)⟩
      ·skip
       refine .pass V V V (.pass V V V (.Za (v := (vb false)) V V V (.nil ?_))); exact ⟨⟨Z0r hc5, V, V, V, V, V, V, U⟩, H.wk (by omega)⟩
     ·rintro e σ ⟨he, H⟩; obtain ⟨e, rfl⟩ := he.ex; refine .mv (vb ((((((x1.2 == 0) && (x2.2 == 0)) && (x3.2 == 0)) && (x4.2 == 0)) && (x5.2 == 0)) && (x6.2 == 2))) V V ?_; refine .mid 3 (K1 := fun e σ => Z5 e [(94, (vb (((((((x1.2 == 0) && (x2.2 == 0)) && (x3.2 == 0)) && (x4.2 == 0)) && (x5.2 == 0)) && (x6.2 == 2)) && (x7.2 == 2)))), (1, (.ptr (b2 + 5) 4 0)), (5, (.ptr (b4 + 5) 4 0)), (8, (.ptr (b7 + 5) 4 0)), (10, (vl Span.cs x5.1)), (18, (vi x8.2))] ∧ Has σ (b13 + 26) (b13 + 95) [.blk (b7 + 5) 25 (vF x4.1), .blk (b4 + 5) 25 (vF x3.1), .blk (b2 + 5) 25 (vF x1.1)]) V ?_ ?_
      ·refine .split V V ?_ ?_ <;> intro hc6
       ·skip
        refine .wt V V (.mv (vi x7.2) V V (.wt V V (.it x7.2 2 (.bool (x7.2 == 2)) V V V V V (.ZY (v := (vb (x7.2 == 2))) V V V (.nil ?_))))); exact ⟨⟨Z0s hc6, V, V, V, V, V, U⟩, H.wk (by omega)⟩
       ·skip
        refine .pass V V V (.pass V V V (.Za (v := (vb false)) V V V (.nil ?_))); exact ⟨⟨Z0r hc6, V, V, V, V, V, U⟩, H.wk (by omega)⟩
      ·rintro e σ ⟨he, H⟩; obtain ⟨e, rfl⟩ := he.ex; refine .mv (vb (((((((x1.2 == 0) && (x2.2 == 0)) && (x3.2 == 0)) && (x4.2 == 0)) && (x5.2 == 0)) && (x6.2 == 2)) && (x7.2 == 2))) V V ?_; refine .mid 3 (K1 := fun e σ => Z5 e [(98, (vb ((((((((x1.2 == 0) && (x2.2 == 0)) && (x3.2 == 0)) && (x4.2 == 0)) && (x5.2 == 0)) && (x6.2 == 2)) && (x7.2 == 2)) && (x8.2 == 20)))), (1, (.ptr (b2 + 5) 4 0)), (5, (.ptr (b4 + 5) 4 0)), (8, (.ptr (b7 + 5) 4 0)), (10, (vl Span.cs x5.1))] ∧ Has σ (b13 + 30) (b13 + 95) [.blk (b7 + 5) 25 (vF x4.1), .blk (b4 + 5) 25 (vF x3.1), .blk (b2 + 5) 25 (vF x1.1)]) V ?_ ?_
       ·refine .split V V ?_ ?_ <;> intro hc7
        ·skip
         refine .wt V V (.mv (vi x8.2) V V (.wt V V (.it x8.2 20 (.bool (x8.2 == 20)) V V V V V (.ZY (v := (vb (x8.2 == 20))) V V V (.nil ?_))))); exact ⟨⟨Z0s hc7, V, V, V, V, U⟩, H.wk (by omega)⟩
        ·skip
         refine .pass V V V (.pass V V V (.Za (v := (vb false)) V V V (.nil ?_))); exact ⟨⟨Z0r hc7, V, V, V, V, U⟩, H.wk (by omega)⟩
       ·rintro e σ ⟨he, H⟩; obtain ⟨e, rfl⟩ := he.ex; refine .mv (vb ((((((((x1.2 == 0) && (x2.2 == 0)) && (x3.2 == 0)) && (x4.2 == 0)) && (x5.2 == 0)) && (x6.2 == 2)) && (x7.2 == 2)) && (x8.2 == 20))) V V ?_; refine .mid 4 (K1 := fun e σ => Z5 e [(103, (vb (((((((((x1.2 == 0) && (x2.2 == 0)) && (x3.2 == 0)) && (x4.2 == 0)) && (x5.2 == 0)) && (x6.2 == 2)) && (x7.2 == 2)) && (x8.2 == 20)) && (x1.1.Period == 7)))), (1, (.ptr (b2 + 5) 4 0)), (5, (.ptr (b4 + 5) 4 0)), (8, (.ptr (b7 + 5) 4 0)), (10, (vl Span.cs x5.1))] ∧ Has σ (b13 + 35) (b13 + 95) [.blk (b7 + 5) 25 (vF x4.1), .blk (b4 + 5) 25 (vF x3.1), .blk (b2 + 5) 25 (vF x1.1)]) V ?_ ?_
        ·refine .split V V ?_ ?_ <;> intro hc8
         ·skip
          refine .wt V V (.Z1 H 2 V V V V V nofun V (.wt V V (.ld (vi x1.1.Period) H 2 V V V V V nofun V (.wt V V (.it x1.1.Period 7 (.bool (x1.1.Period == 7)) V V V V V (.ZY (v := (vb (x1.1.Period == 7))) V V V (.nil ?_))))))); exact ⟨⟨Z0s hc8, V, V, V, V, U⟩, H.wk (by omega)⟩
         ·skip
          refine .pass V V V (.pass V V V (.pass V V V (.Za (v := (vb false)) V V V (.nil ?_)))); exact ⟨⟨Z0r hc8, V, V, V, V, U⟩, H.wk (by omega)⟩
        ·rintro e σ ⟨he, H⟩; obtain ⟨e, rfl⟩ := he.ex; refine .mv (vb (((((((((x1.2 == 0) && (x2.2 == 0)) && (x3.2 == 0)) && (x4.2 == 0)) && (x5.2 == 0)) && (x6.2 == 2)) && (x7.2 == 2)) && (x8.2 == 20)) && (x1.1.Period == 7))) V V ?_; refine .mid 4 (K1 := fun e σ => Z5 e [(108, (vb ((((((((((x1.2 == 0) && (x2.2 == 0)) && (x3.2 == 0)) && (x4.2 == 0)) && (x5.2 == 0)) && (x6.2 == 2)) && (x7.2 == 2)) && (x8.2 == 20)) && (x1.1.Period == 7)) && (x1.1.Count == 1)))), (1, (.ptr (b2 + 5) 4 0)), (5, (.ptr (b4 + 5) 4 0)), (8, (.ptr (b7 + 5) 4 0)), (10, (vl Span.cs x5.1))] ∧ Has σ (b13 + 40) (b13 + 95) [.blk (b7 + 5) 25 (vF x4.1), .blk (b4 + 5) 25 (vF x3.1), .blk (b2 + 5) 25 (vF x1.1)]) V ?_ ?_
         ·refine .split V V ?_ ?_ <;> intro hc9
          ·skip
           refine .wt V V (.Z1 H 2 V V V V V nofun V (.wt V V (.ld (vi x1.1.Count) H 2 V V V V V nofun V (.wt V V (.it x1.1.Count 1 (.bool (x1.1.Count == 1)) V V V V V (.ZY (v := (vb (x1.1.Count == 1))) V V V (.nil ?_))))))); exact ⟨⟨Z0s hc9, V, V, V, V, U⟩, H.wk (by omega)⟩
          ·skip
           refine .pass V V V (.pass V V V (.pass V V V (.Za (v := (vb false)) V V V (.nil ?_)))); exact ⟨⟨Z0r hc9, V, V, V, V, U⟩, H.wk (by omega)⟩
         ·rintro e σ ⟨he, H⟩; obtain ⟨e, rfl⟩ := he.ex; refine .mv (vb ((((((((((x1.2 == 0) && (x2.2 == 0)) && (x3.2 == 0)) && (x4.2 == 0)) && (x5.2 == 0)) && (x6.2 == 2)) && (x7.2 == 2)) && (x8.2 == 20)) && (x1.1.Period == 7)) && (x1.1.Count == 1))) V V ?_; refine .mid 5 (K1 := fun e σ => Z5 e [(114, (vb (((((((((((x1.2 == 0) && (x2.2 == 0)) && (x3.2 == 0)) && (x4.2 == 0)) && (x5.2 == 0)) && (x6.2 == 2)) && (x7.2 == 2)) && (x8.2 == 20)) && (x1.1.Period == 7)) && (x1.1.Count == 1)) && ((x1.1.Core.length : Int) == 1)))), (1, (.ptr (b2 + 5) 4 0)), (5, (.ptr (b4 + 5) 4 0)), (8, (.ptr (b7 + 5) 4 0)), (10, (vl Span.cs x5.1))] ∧ Has σ (b13 + 46) (b13 + 95) [.blk (b7 + 5) 25 (vF x4.1), .blk (b4 + 5) 25 (vF x3.1), .blk (b2 + 5) 25 (vF x1.1)]) V ?_ ?_
          ·refine .split V V ?_ ?_ <;> intro hc10
           ·skip
            refine .wt V V (.Z1 H 2 V V V V V nofun V (.wt V V (.ld (vl (cL Span.cs) x1.1.Core) H 2 V V V V V nofun V (.wt V V (.Zv (c := (cL Span.cs)) (xs := x1.1.Core) V V V (.wt V V (.it (x1.1.Core.length : Int) 1 (.bool ((x1.1.Core.length : Int) == 1)) V V V V V (.ZY (v := (vb ((x1.1.Core.length : Int) == 1))) V V V ?_)))))))); refine .nil ?_; exact ⟨⟨Z0s hc10, V, V, V, V, U⟩, H.wk (by omega)⟩
           ·skip
            refine .pass V V V (.pass V V V (.pass V V V (.pass V V V (.Za (v := (vb false)) V V V (.nil ?_))))); exact ⟨⟨Z0r hc10, V, V, V, V, U⟩, H.wk (by omega)⟩
          ·rintro e σ ⟨he, H⟩; obtain ⟨e, rfl⟩ := he.ex; refine .mv (vb (((((((((((x1.2 == 0) && (x2.2 == 0)) && (x3.2 == 0)) && (x4.2 == 0)) && (x5.2 == 0)) && (x6.2 == 2)) && (x7.2 == 2)) && (x8.2 == 20)) && (x1.1.Period == 7)) && (x1.1.Count == 1)) && ((x1.1.Core.length : Int) == 1))) V V ?_; obtain ⟨y1, hj1, h⟩ := bind_some h; refine .mid 8 (K1 := fun e σ => Z5 e [(123, (vb y1)), (5, (.ptr (b4 + 5) 4 0)), (8, (.ptr (b7 + 5) 4 0)), (10, (vl Span.cs x5.1))] ∧ Has σ (b13 + 55) (b13 + 95) [.blk (b7 + 5) 25 (vF x4.1), .blk (b4 + 5) 25 (vF x3.1)]) V ?_ ?_
           ·refine .split V V ?_ ?_ <;> intro hc11
            ·replace h := Z8 hc11 hj1; refine .wt V V (.Z1 H 2 V V V V V nofun V (.wt V V (.ld (vl (cL Span.cs) x1.1.Core) H 2 V V V V V nofun V (.wt V V ?_)))); obtain ⟨x9, q9, h⟩ := bind_some h; refine .Zr (c := (cL Span.cs)) (u := x9) V V q9 V V V V (.wt V V (.Z1E (u := (.sl (x9.map Span.cs))) V V V V (.wt V V (.Z0Q (cs := [(vi 0), (vi 6)]) V V (.wt V V (.Z2C (sz := 2) ([(Span.mk 0 6)].map Span.cs) H (by omega) (by omega) V V V V V V V V V fun σ H => (.wt V V ?_))))))); obtain ⟨x10, q10, h⟩ := bind_some h; refine .Z6R (xs := [(vl Span.cs x9), (.buf (b13 + 52) 1 2)]) (ys := [(vl Span.cs x9), (vl Span.cs [(Span.mk 0 6)])]) H V (.cons (.c (.v _)) (.cons (.c (.s 0 V)) .nil)) (Z23 q10) V V nofun V fun σ H => (.ZY (v := (vb x10)) V V V (.nil ?_)); obtain rfl := sj h; exact ⟨⟨V, V, V, V, U⟩, ((H.erase 3).erase 0).wk (by omega)⟩
            ·replace h := Z7 hc11 hj1; refine .pass V V V (.pass V V V (.pass V V V (.pass V V V (.pass V V V (.pass V V V (.pass V V V (.Za (v := (vb false)) V V V (.nil ?_)))))))); obtain rfl := sj h; exact ⟨⟨V, V, V, V, U⟩, (H.erase 2).wk (by omega)⟩
           ·rintro e σ ⟨he, H⟩; obtain ⟨e, rfl⟩ := he.ex; refine .mv (vb y1) V V ?_; obtain ⟨y2, hj2, h⟩ := bind_some h; refine .mid 5 (K1 := fun e σ => Z5 e [(129, (vb y2)), (5, (.ptr (b4 + 5) 4 0)), (8, (.ptr (b7 + 5) 4 0))] ∧ Has σ (b13 + 61) (b13 + 95) [.blk (b7 + 5) 25 (vF x4.1), .blk (b4 + 5) 25 (vF x3.1)]) V ?_ ?_
            ·refine .split V V ?_ ?_ <;> intro hc12
             ·replace h := Z8 hc12 hj2; refine .wt V V (.mv (vl Span.cs x5.1) V V (.wt V V (.Z0Q (cs := [(vi (-3)), (vi (-3))]) V V (.wt V V (.Z2C (sz := 2) ([(Span.mk (-3) (-3))].map Span.cs) H (by omega) (by omega) V V V V V V V V V fun σ H => (.wt V V ?_)))))); obtain ⟨x11, q11, h⟩ := bind_some h; refine .Z6R (xs := [(vl Span.cs x5.1), (.buf (b13 + 58) 1 2)]) (ys := [(vl Span.cs x5.1), (vl Span.cs [(Span.mk (-3) (-3))])]) H V (.cons (.c (.v _)) (.cons (.c (.s 0 V)) .nil)) (Z23 q11) V V nofun V fun σ H => (.ZY (v := (vb x11)) V V V (.nil ?_)); obtain rfl := sj h; exact ⟨⟨V, V, V, U⟩, (H.erase 0).wk (by omega)⟩
             ·replace h := Z7 hc12 hj2; refine .pass V V V (.pass V V V (.pass V V V (.pass V V V (.Za (v := (vb false)) V V V (.nil ?_))))); obtain rfl := sj h; exact ⟨⟨V, V, V, U⟩, H.wk (by omega)⟩
            ·rintro e σ ⟨he, H⟩; obtain ⟨e, rfl⟩ := he.ex; refine .mv (vb y2) V V ?_; refine .mid 5 (K1 := fun e σ => Z5 e [(135, (vb (y2 && ((x3.1.Odd.length : Int) == 3)))), (5, (.ptr (b4 + 5) 4 0)), (8, (.ptr (b7 + 5) 4 0))] ∧ Has σ (b13 + 67) (b13 + 95) [.blk (b7 + 5) 25 (vF x4.1), .blk (b4 + 5) 25 (vF x3.1)]) V ?_ ?_
             ·refine .split V V ?_ ?_ <;> intro hc13
              ·skip
               refine .wt V V (.Z1 H 1 V V V V V nofun V (.wt V V (.ld (vl Granule.cs x3.1.Odd) H 1 V V V V V nofun V (.wt V V (.Zv (c := Granule.cs) (xs := x3.1.Odd) V V V (.wt V V (.it (x3.1.Odd.length : Int) 3 (.bool ((x3.1.Odd.length : Int) == 3)) V V V V V (.ZY (v := (vb ((x3.1.Odd.length : Int) == 3))) V V V ?_)))))))); refine .nil ?_; exact ⟨⟨Z0s hc13, V, V, U⟩, H.wk (by omega)⟩
              ·skip
               refine .pass V V V (.pass V V V (.pass V V V (.pass V V V (.Za (v := (vb false)) V V V (.nil ?_))))); exact ⟨⟨Z0r hc13, V, V, U⟩, H.wk (by omega)⟩
             ·rintro e σ ⟨he, H⟩; obtain ⟨e, rfl⟩ := he.ex; refine .mv (vb (y2 && ((x3.1.Odd.length : Int) == 3))) V V ?_; obtain ⟨y3, hj3, h⟩ := bind_some h; refine .mid 7 (K1 := fun e σ => Z5 e [(143, (vb y3)), (5, (.ptr (b4 + 5) 4 0)), (8, (.ptr (b7 + 5) 4 0))] ∧ Has σ (b13 + 75) (b13 + 95) [.blk (b7 + 5) 25 (vF x4.1), .blk (b4 + 5) 25 (vF x3.1)]) V ?_ ?_
              ·refine .split V V ?_ ?_ <;> intro hc14
               ·replace h := Z8 hc14 hj3; refine .wt V V (.Z1 H 1 V V V V V nofun V (.wt V V (.ld (vl Granule.cs x3.1.Odd) H 1 V V V V V nofun V (.wt V V ?_)))); obtain ⟨x12, q12, h⟩ := bind_some h; refine .Zr (c := Granule.cs) (u := x12) V V q12 V V V V (.wt V V (.Z0X V V V V (.wt V V (.Z1E (u := (.int .i64 x12.Index)) V V V V (.wt V V (.it x12.Index 2 (.bool (x12.Index == 2)) V V V V V (.ZY (v := (vb (x12.Index == 2))) V V V (.nil ?_)))))))); obtain rfl := sj h; exact ⟨⟨V, V, V, U⟩, H.wk (by omega)⟩
               ·replace h := Z7 hc14 hj3; refine .pass V V V (.pass V V V (.pass V V V (.pass V V V (.pass V V V (.pass V V V (.Za (v := (vb false)) V V V (.nil ?_))))))); obtain rfl := sj h; exact ⟨⟨V, V, V, U⟩, H.wk (by omega)⟩
              ·rintro e σ ⟨he, H⟩; obtain ⟨e, rfl⟩ := he.ex; refine .mv (vb y3) V V ?_; refine .mid 4 (K1 := fun e σ => Z5 e [(148, (vb (y3 && (x3.1.Count == 0)))), (8, (.ptr (b7 + 5) 4 0))] ∧ Has σ (b13 + 80) (b13 + 95) [.blk (b7 + 5) 25 (vF x4.1)]) V ?_ ?_
               ·refine .split V V ?_ ?_ <;> intro hc15
                ·skip
                 refine .wt V V (.Z1 H 1 V V V V V nofun V (.wt V V (.ld (vi x3.1.Count) H 1 V V V V V nofun V (.wt V V (.it x3.1.Count 0 (.bool (x3.1.Count == 0)) V V V V V (.ZY (v := (vb (x3.1.Count == 0))) V V V (.nil ?_))))))); exact ⟨⟨Z0s hc15, V, U⟩, (H.erase 1).wk (by omega)⟩
                ·skip
                 refine .pass V V V (.pass V V V (.pass V V V (.Za (v := (vb false)) V V V (.nil ?_)))); exact ⟨⟨Z0r hc15, V, U⟩, (H.erase 1).wk (by omega)⟩
               ·rintro e σ ⟨he, H⟩; obtain ⟨e, rfl⟩ := he.ex; refine .mv (vb (y3 && (x3.1.Count == 0))) V V ?_; refine .mid 5 (K1 := fun e σ => Z5 e [(154, (vb ((y3 && (x3.1.Count == 0)) && ((x4.1.Odd.length : Int) == 1)))), (8, (.ptr (b7 + 5) 4 0))] ∧ Has σ (b13 + 86) (b13 + 95) [.blk (b7 + 5) 25 (vF x4.1)]) V ?_ ?_
                ·refine .split V V ?_ ?_ <;> intro hc16
                 ·skip
                  refine .wt V V (.Z1 H 0 V V V V V nofun V (.wt V V (.ld (vl Granule.cs x4.1.Odd) H 0 V V V V V nofun V (.wt V V (.Zv (c := Granule.cs) (xs := x4.1.Odd) V V V (.wt V V (.it (x4.1.Odd.length : Int) 1 (.bool ((x4.1.Odd.length : Int) == 1)) V V V V V (.ZY (v := (vb ((x4.1.Odd.length : Int) == 1))) V V V ?_)))))))); refine .nil ?_; exact ⟨⟨Z0s hc16, V, U⟩, H.wk (by omega)⟩
                 ·skip
                  refine .pass V V V (.pass V V V (.pass V V V (.pass V V V (.Za (v := (vb false)) V V V (.nil ?_))))); exact ⟨⟨Z0r hc16, V, U⟩, H.wk (by omega)⟩
                ·rintro e σ ⟨he, H⟩; obtain ⟨e, rfl⟩ := he.ex; refine .mv (vb ((y3 && (x3.1.Count == 0)) && ((x4.1.Odd.length : Int) == 1))) V V ?_; obtain ⟨y4, hj4, h⟩ := bind_some h; refine .mid 7 (K1 := fun e σ => Z5 e [(162, (vb y4))] ∧ Has σ (b13 + 94) (b13 + 95) []) V ?_ ?_
                 ·refine .split V V ?_ ?_ <;> intro hc17
                  ·replace h := Z8 hc17 hj4; refine .wt V V (.Z1 H 0 V V V V V nofun V (.wt V V (.ld (vl Granule.cs x4.1.Odd) H 0 V V V V V nofun V (.wt V V ?_)))); obtain ⟨x13, q13, h⟩ := bind_some h; refine .Zr (c := Granule.cs) (u := x13) V V q13 V V V V (.wt V V (.Z0X V V V V (.wt V V (.Z1E (u := (.int .i64 x13.Index)) V V V V (.wt V V (.it x13.Index 0 (.bool (x13.Index == 0)) V V V V V (.ZY (v := (vb (x13.Index == 0))) V V V (.nil ?_)))))))); obtain rfl := sj h; exact ⟨⟨V, U⟩, (H.erase 0).wk (by omega)⟩
                  ·replace h := Z7 hc17 hj4; refine .pass V V V (.pass V V V (.pass V V V (.pass V V V (.pass V V V (.pass V V V (.Za (v := (vb false)) V V V (.nil ?_))))))); obtain rfl := sj h; exact ⟨⟨V, U⟩, (H.erase 0).wk (by omega)⟩
                 ·rintro e σ ⟨he, H⟩; obtain ⟨e, rfl⟩ := he.ex; refine .av (vb y4) V V (.nila H fun H => (.ret ?_)); obtain rfl := sj h; exact (Ends.H (xs := [(vb y4)]) (.inr V) H (.tmp (v := (vb y4)) V .nil) (.one (.c (.v _))))
theorem Z2X {r : Bool} (h : ZS = r) : Fn CX 10 [] (vb r) := by
 subst h; exact Z65 Z5O
theorem Z1c {s1' : (List (List Span))} {s2' : (List (List Span))} {eq : (List Span) → (List Span) → Option Bool} {C : List Res} {cv0 : PV} (hs0 : cv0.one = true) (hp0 : cv0.pure = true → C = []) (hf0 : ∀ z0 z1 y, eq z0 z1 = some y → CloH CX cv0 [(vl Span.cs z0), (vl Span.cs z1)] (vb y) C) {r : Bool} (h : ZH s1' s2' eq = some r) : FnH CX 70 [(vl (cL Span.cs) s1'), (vl (cL Span.cs) s2'), cv0] (vb r) C := by
 refine FnH.of Try.func70 V V V V (Z31 V (Z31 V (Z31 (Z3D hs0) all_nil))) V (fun h => hp0 (Z3V h 2 V)) ?_; intro σ L hC H; unfold ZH at h; refine .then (.Z0 1 V H fun b1 σ H => (.av (vb false) V V (.nila H fun H => (.then (.then (.Z0 5 V H fun b2 σ H => (.mv (vl (cL Span.cs) s1') V V (.Zv (c := (cL Span.cs)) (xs := s1') V V V ?_)))))))); refine .mv (vl (cL Span.cs) s2') V V (.Zv (c := (cL Span.cs)) (xs := s2') V V V (.it (s1'.length : Int) (s2'.length : Int) (.bool ((s1'.length : Int) != (s2'.length : Int))) V V V V V (.nila H fun H => ?_))); refine .whether (v := ((s1'.length : Int) != (s2'.length : Int))) V ?_ ?_ <;> intro hc1
 ·replace h := Z8 hc1 h; refine .then (.Z0 1 V H fun b3 σ H => (.av (vb false) V V (.nila H fun H => (.ret ?_)))); obtain rfl := sj h; exact (EndsH.H (xs := [(vb false)]) (.inr V) H (.tmp (v := (vb false)) V .nil) (.one (.c (.v _))) 0 V)
 ·replace h := Z7 hc1 h; refine .skip (.then (.then (.Z0 3 V H fun b4 σ H => (.mv (vl (cL Span.cs) s1') V V (.Zv (c := (cL Span.cs)) (xs := s1') V V V (.mv (vi 0) V V (.nila H fun H => (.inBlock ?_)))))))); obtain ⟨y1, hj1, h⟩ := bind_some h; obtain ⟨n1, hj1⟩ := ZW.1 hj1; refine .mono (Runs.ZN hj1 (fun s1 e σ => Z5 e [(1, (vl (cL Span.cs) s2')), (2, cv0), (15, (vl (cL Span.cs) s1')), (16, (vi (s1'.length : Int))), (17, (vi s1))] ∧ Hs σ (L)) (fun y1 x e σ => (∃ a1, y1 = (.go a1) ∧ x = .exit 0 ∧ Z5 e [] ∧ Hs σ (L)) ∨ (∃ r', y1 = (.ret r') ∧ x = .ret ∧ EndsH CX Try.f70.results.toList (vb r') L x e σ)) ⟨⟨V, V, V, V, V, U⟩, H⟩ ?_) ?_
  ·intro s1 e σ hI z h; obtain ⟨he, H⟩ := hI; obtain ⟨e, rfl⟩ := he.ex; unfold ZH.s0 at h; refine .then (.Z0 1 V H fun b5 σ H => (.it s1 (s1'.length : Int) (.bool (decide (s1 < (s1'.length : Int)))) V V V V V (.nila H fun H => (.then ?_)))); refine .whether (v := (decide (s1 < (s1'.length : Int)))) V ?_ ?_ <;> intro hc2
   ·replace h := Z8 hc2 h; refine .skip (.then (.inBlock (.then (.Z0 5 V H fun b6 σ H => (.mv (vi s1) V V ?_))))); obtain ⟨x1, q1, h⟩ := bind_some h; refine .Zr (c := (cL Span.cs)) (u := x1) V V q1 V V V V (.Z1E (u := (.sl (x1.map Span.cs))) V V V V (.av (vi s1) V V (.av (vl Span.cs x1) V V (.nila H fun H => (.then (.Z0 5 V H fun b7 σ H => (.mv (vl (cL Span.cs) s2') V V (.mv (vi s1) V V ?_)))))))); obtain ⟨x2, q2, h⟩ := bind_some h; refine .Zr (c := (cL Span.cs)) (u := x2) V V q2 V V V V (.Z1E (u := (.sl (x2.map Span.cs))) V V V V (.av (vl Span.cs x2) V V (.nila H fun H => (.then (.Z0 5 V H fun b8 σ H => (.mv cv0 V V (.mv (vl Span.cs x1) V V (.mv (vl Span.cs x2) V V ?_)))))))); obtain ⟨x3, q3, h⟩ := bind_some h; refine .callV (cv := cv0) (ys := [(vl Span.cs x1), (vl Span.cs x2)]) (r := (vb x3)) H V V (hf0 x1 x2 _ q3) hC nofun V fun σ H => (.not (b := x3) V V (.nila H fun H => ?_)); refine .whether (v := (!x3)) V ?_ ?_ <;> intro hc3
    ·replace h := Z8 hc3 h; refine .then (.Z0 1 V H fun b9 σ H => (.av (vb false) V V (.nila H fun H => (.ret ?_)))); obtain rfl := sj h; exact ⟨nofun, (.inr ⟨_, V, V, (EndsH.H (xs := [(vb false)]) (.inr V) H (.tmp (v := (vb false)) V .nil) (.one (.c (.v _))) 0 V)⟩)⟩
    ·replace h := Z7 hc3 h; refine .skip (.Z0 2 V H fun b10 σ H => (.it s1 1 (.int .i64 (w64 (s1 + 1))) V V V V V (.mv (vi (w64 (s1 + 1))) V V (.nila H fun H => ?_)))); obtain rfl := sj h; exact ⟨V, ⟨V, V, V, V, V, U⟩, H⟩
   ·replace h := Z7 hc2 h; refine .exit ?_; obtain rfl := sj h; exact ⟨nofun, (.inl ⟨_, V, V, U, H⟩)⟩
  ·rintro x e σ (⟨a2, rfl, rfl, he, H⟩ | ⟨r', rfl, rfl, hE⟩)
   ·skip
    replace h := jgo h; obtain ⟨e, rfl⟩ := he.ex; refine .then (.Z0 1 V H fun b11 σ H => (.av (vb true) V V (.nila H fun H => (.ret ?_)))); obtain rfl := sj h; exact (EndsH.H (xs := [(vb true)]) (.inr V) H (.tmp (v := (vb true)) V .nil) (.one (.c (.v _))) 0 V)
   ·skip
    replace h := jret h; obtain rfl := sj h; exact hE
theorem Z10 {s1' : (List Granule)} {s2' : (List Granule)} {eq : Granule → Granule → Option Bool} {C : List Res} {cv0 : PV} (hs0 : cv0.one = true) (hp0 : cv0.pure = true → C = []) (hf0 : ∀ z0 z1 y, eq z0 z1 = some y → CloH CX cv0 [(.agg (vs (Granule.cs z0))), (.agg (vs (Granule.cs z1)))] (vb y) C) {r : Bool} (h : Z9 s1' s2' eq = some r) : FnH CX 71 [(vl Granule.cs s1'), (vl Granule.cs s2'), cv0] (vb r) C := by
 refine FnH.of Try.func71 V V V V (Z31 V (Z31 V (Z31 (Z3D hs0) all_nil))) V (fun h => hp0 (Z3V h 2 V)) ?_; intro σ L hC H; unfold Z9 at h; refine .then (.Z0 1 V H fun b1 σ H => (.av (vb false) V V (.nila H fun H => (.then (.then (.Z0 5 V H fun b2 σ H => (.mv (vl Granule.cs s1') V V (.Zv (c := Granule.cs) (xs := s1') V V V ?_)))))))); refine .mv (vl Granule.cs s2') V V (.Zv (c := Granule.cs) (xs := s2') V V V (.it (s1'.length : Int) (s2'.length : Int) (.bool ((s1'.length : Int) != (s2'.length : Int))) V V V V V (.nila H fun H => ?_))); refine .whether (v := ((s1'.length : Int) != (s2'.length : Int))) V ?_ ?_ <;> intro hc1
 ·replace h := Z8 hc1 h; refine .then (.Z0 1 V H fun b3 σ H => (.av (vb false) V V (.nila H fun H => (.ret ?_)))); obtain rfl := sj h; exact (EndsH.H (xs := [(vb false)]) (.inr V) H (.tmp (v := (vb false)) V .nil) (.one (.c (.v _))) 0 V)
 ·replace h := Z7 hc1 h; refine .skip (.then (.then (.Z0 3 V H fun b4 σ H => (.mv (vl Granule.cs s1') V V (.Zv (c := Granule.cs) (xs := s1') V V V (.mv (vi 0) V V (.nila H fun H => (.inBlock ?_)))))))); obtain ⟨y1, hj1, h⟩ := bind_some h; obtain ⟨n1, hj1⟩ := ZW.1 hj1; refine .mono (Runs.ZN hj1 (fun s1 e σ => Z5 e [(1, (vl Granule.cs s2')), (2, cv0), (15, (vl Granule.cs s1')), (16, (vi (s1'.length : Int))), (17, (vi s1))] ∧ Hs σ (L)) (fun y1 x e σ => (∃ a1, y1 = (.go a1) ∧ x = .exit 0 ∧ Z5 e [] ∧ Hs σ (L)) ∨ (∃ r', y1 = (.ret r') ∧ x = .ret ∧ EndsH CX Try.f71.results.toList (vb r') L x e σ)) ⟨⟨V, V, V, V, V, U⟩, H⟩ ?_) ?_
  ·intro s1 e σ hI z h; obtain ⟨he, H⟩ := hI; obtain ⟨e, rfl⟩ := he.ex; unfold Z9.s0 at h; refine .then (.Z0 1 V H fun b5 σ H => (.it s1 (s1'.length : Int) (.bool (decide (s1 < (s1'.length : Int)))) V V V V V (.nila H fun H => (.then ?_)))); refine .whether (v := (decide (s1 < (s1'.length : Int)))) V ?_ ?_ <;> intro hc2
   ·replace h := Z8 hc2 h; refine .skip (.then (.inBlock (.then (.Z0 6 V H fun b6 σ H => (.mv (vi s1) V V ?_))))); obtain ⟨x1, q1, h⟩ := bind_some h; refine .Zr (c := Granule.cs) (u := x1) V V q1 V V V V (.Z1o (cs := [(.int .i64 x1.Index), (.sl (x1.Ticks.map Span.cs))]) V V V V V V (.Z02 (cs := [(vi 0), .nils]) H (by omega) (by omega) V V fun σ H => (.av (vi s1) V V (.ZV (cells' := [(vi x1.Index), (vl Span.cs x1.Ticks)]) H 0 V V V V V V V V V nofun fun σ H => (.nila H fun H => (.then (.Z0 6 V H fun b7 σ H => (.mv (vl Granule.cs s2') V V ?_)))))))); refine .mv (vi s1) V V ?_; obtain ⟨x2, q2, h⟩ := bind_some h; refine .Zr (c := Granule.cs) (u := x2) V V q2 V V V V (.Z1o (cs := [(.int .i64 x2.Index), (.sl (x2.Ticks.map Span.cs))]) V V V V V V (.Z02 (cs := [(vi 0), .nils]) H (by omega) (by omega) V V fun σ H => (.ZV (cells' := [(vi x2.Index), (vl Span.cs x2.Ticks)]) H 0 V V V V V V V V V nofun fun σ H => (.nila H fun H => (.then (.Z0 5 V H fun b8 σ H => (.mv cv0 V V (.Zc (cs := [(vi x1.Index), (vl Span.cs x1.Ticks)]) H 1 V V V V V V V nofun V ?_)))))))); refine .Zc (cs := [(vi x2.Index), (vl Span.cs x2.Ticks)]) H 0 V V V V V V V nofun V ?_; obtain ⟨x3, q3, h⟩ := bind_some h; refine .callV (cv := cv0) (ys := [(.agg (vs (Granule.cs x1))), (.agg (vs (Granule.cs x2)))]) (r := (vb x3)) H V V (hf0 x1 x2 _ q3) hC.push.push nofun V fun σ H => (.not (b := x3) V V (.nila H fun H => ?_)); refine .whether (v := (!x3)) V ?_ ?_ <;> intro hc3
    ·replace h := Z8 hc3 h; refine .then (.Z0 1 V H fun b9 σ H => (.av (vb false) V V (.nila H fun H => (.ret ?_)))); obtain rfl := sj h; exact ⟨nofun, (.inr ⟨_, V, V, (EndsH.H (xs := [(vb false)]) (.inr V) H (.tmp (v := (vb false)) V .nil) (.one (.c (.v _))) 2 V)⟩)⟩
    ·replace h := Z7 hc3 h; refine .skip (.Z0 2 V H fun b10 σ H => (.it s1 1 (.int .i64 (w64 (s1 + 1))) V V V V V (.mv (vi (w64 (s1 + 1))) V V (.nila H fun H => ?_)))); obtain rfl := sj h; exact ⟨V, ⟨V, V, V, V, V, U⟩, ((H.erase 1).erase 0)⟩
   ·replace h := Z7 hc2 h; refine .exit ?_; obtain rfl := sj h; exact ⟨nofun, (.inl ⟨_, V, V, U, H⟩)⟩
  ·rintro x e σ (⟨a2, rfl, rfl, he, H⟩ | ⟨r', rfl, rfl, hE⟩)
   ·skip
    replace h := jgo h; obtain ⟨e, rfl⟩ := he.ex; refine .then (.Z0 1 V H fun b11 σ H => (.av (vb true) V V (.nila H fun H => (.ret ?_)))); obtain rfl := sj h; exact (EndsH.H (xs := [(vb true)]) (.inr V) H (.tmp (v := (vb true)) V .nil) (.one (.c (.v _))) 0 V)
   ·skip
    replace h := jret h; obtain rfl := sj h; exact hE
theorem Z8I {x' : Granule} {y : Granule} {r : Bool} (h : Z16 x' y = some r) : Fn CX 72 [(.agg (vs (Granule.cs x'))), (.agg (vs (Granule.cs y)))] (vb r) := by
 refine Fn.ends Try.func72 V V V V V V ?_; have H : Hs (⟨0, fun _ => .none⟩ : Heap) [] := Has.nil (Nat.le_refl _)
 generalize (⟨0, fun _ => .none⟩ : Heap) = σ at H ⊢
 unfold Z16 at h; refine .then (.Z0 3 V H fun b1 σ H => (.boxH (cs := [(vi x'.Index), (vl Span.cs x'.Ticks)]) H (by omega) (by omega) V V V fun σ H => (.boxH (cs := [(vi y.Index), (vl Span.cs y.Ticks)]) H (by omega) (by omega) V V V fun σ H => (.av (vb false) V V (.nila H fun H => (.then (.Z0 13 V H fun b2 σ H => (.Z1 H 1 V V V V V nofun V ?_)))))))); refine .ld (vi x'.Index) H 1 V V V V V nofun V (.Z1 H 0 V V V V V nofun V (.ld (vi y.Index) H 0 V V V V V nofun V (.it x'.Index y.Index (.bool (x'.Index == y.Index)) V V V V V (.mv (vb (x'.Index == y.Index)) V V ?_)))); obtain ⟨y1, hj1, h⟩ := bind_some h; refine .mid 6 (K1 := fun e σ => Z5 e [(16, (vb y1))] ∧ Has σ (b2 + 12) (b2 + 13) []) V ?_ ?_
 ·refine .split V V ?_ ?_ <;> intro hc1
  ·replace h := Z8 hc1 hj1; refine .wt V V (.Z1 H 1 V V V V V nofun V (.wt V V (.ld (vl Span.cs x'.Ticks) H 1 V V V V V nofun V (.wt V V (.Z1 H 0 V V V V V nofun V (.wt V V (.ld (vl Span.cs y.Ticks) H 0 V V V V V nofun V (.wt V V ?_)))))))); obtain ⟨x1, q1, h⟩ := bind_some h; refine .call (ys := [(vl Span.cs x'.Ticks), (vl Span.cs y.Ticks)]) (r := (vb x1)) V (Z3O q1) V (.ZY (v := (vb x1)) V V V (.nil ?_)); obtain rfl := sj h; exact ⟨⟨V, U⟩, ((H.erase 1).erase 0).wk (by omega)⟩
  ·replace h := Z7 hc1 hj1; refine .pass V V V (.pass V V V (.pass V V V (.pass V V V (.pass V V V (.Za (v := (vb false)) V V V (.nil ?_)))))); obtain rfl := sj h; exact ⟨⟨V, U⟩, ((H.erase 1).erase 0).wk (by omega)⟩
 ·rintro e σ ⟨he, H⟩; obtain ⟨e, rfl⟩ := he.ex; refine .av (vb y1) V V (.nila H fun H => (.ret ?_)); obtain rfl := sj h; exact (Ends.H (xs := [(vb y1)]) (.inr V) H (.tmp (v := (vb y1)) V .nil) (.one (.c (.v _))))
theorem Z9M {a : Form} {b : Form} {r : Bool} (h : Z2t a b = some r) : Fn CX 45 [(.agg (vs (Form.cs a))), (.agg (vs (Form.cs b)))] (vb r) := by
 refine Fn.ends Try.func45 V V V V V V ?_; have H : Hs (⟨0, fun _ => .none⟩ : Heap) [] := Has.nil (Nat.le_refl _)
 generalize (⟨0, fun _ => .none⟩ : Heap) = σ at H ⊢
 unfold Z2t at h; refine .then (.Z0 3 V H fun b1 σ H => (.boxH (cs := (vF a)) H (by omega) (by omega) V V V fun σ H => (.boxH (cs := (vF b)) H (by omega) (by omega) V V V fun σ H => (.av (vb false) V V (.nila H fun H => (.then (.Z0 27 V H fun b2 σ H => (.Z1 H 1 V V V V V nofun V ?_)))))))); refine .ld (vi a.Period) H 1 V V V V V nofun V (.Z1 H 0 V V V V V nofun V (.ld (vi b.Period) H 0 V V V V V nofun V (.it a.Period b.Period (.bool (a.Period == b.Period)) V V V V V (.mv (vb (a.Period == b.Period)) V V ?_)))); refine .mid 6 (K1 := fun e σ => Z5 e [(16, (vb ((a.Period == b.Period) && (a.Count == b.Count)))), (2, (.ptr (b1 + 0) 4 0)), (3, (.ptr (b1 + 1) 4 0))] ∧ Has σ (b2 + 12) (b2 + 27) [.blk (b1 + 1) 25 (vF b), .blk (b1 + 0) 25 (vF a)]) V ?_ ?_
 ·refine .split V V ?_ ?_ <;> intro hc1
  ·skip
   refine .wt V V (.Z1 H 1 V V V V V nofun V (.wt V V (.ld (vi a.Count) H 1 V V V V V nofun V (.wt V V (.Z1 H 0 V V V V V nofun V (.wt V V (.ld (vi b.Count) H 0 V V V V V nofun V (.wt V V ?_)))))))); refine .it a.Count b.Count (.bool (a.Count == b.Count)) V V V V V (.ZY (v := (vb (a.Count == b.Count))) V V V (.nil ?_)); exact ⟨⟨Z0s hc1, V, V, U⟩, H.wk (by omega)⟩
  ·skip
   refine .pass V V V (.pass V V V (.pass V V V (.pass V V V (.pass V V V (.Za (v := (vb false)) V V V (.nil ?_)))))); exact ⟨⟨Z0r hc1, V, V, U⟩, H.wk (by omega)⟩
 ·rintro e σ ⟨he, H⟩; obtain ⟨e, rfl⟩ := he.ex; refine .mv (vb ((a.Period == b.Period) && (a.Count == b.Count))) V V ?_; obtain ⟨y1, hj1, h⟩ := bind_some h; refine .mid 6 (K1 := fun e σ => Z5 e [(23, (vb y1)), (2, (.ptr (b1 + 0) 4 0)), (3, (.ptr (b1 + 1) 4 0))] ∧ Has σ (b2 + 19) (b2 + 27) [.blk (b1 + 1) 25 (vF b), .blk (b1 + 0) 25 (vF a)]) V ?_ ?_
  ·refine .split V V ?_ ?_ <;> intro hc2
   ·replace h := Z8 hc2 hj1; refine .wt V V (.Z1 H 1 V V V V V nofun V (.wt V V (.ld (vl (cL Span.cs) a.Core) H 1 V V V V V nofun V (.wt V V (.Z1 H 0 V V V V V nofun V (.wt V V (.ld (vl (cL Span.cs) b.Core) H 0 V V V V V nofun V (.wt V V ?_)))))))); obtain ⟨x1, q1, h⟩ := bind_some h; refine .callH (ys := [(vl (cL Span.cs) a.Core), (vl (cL Span.cs) b.Core), (.v (.fn 16))]) (r := (vb x1)) H V (Z1c (C := []) V (fun _ => V) (fun z0 z1 y hz => (CloH.fn (Fn.toH (Z3O hz) _))) q1) .nil nofun V fun σ H => (.ZY (v := (vb x1)) V V V (.nil ?_)); obtain rfl := sj h; exact ⟨⟨V, V, V, U⟩, H.wk (by omega)⟩
   ·replace h := Z7 hc2 hj1; refine .pass V V V (.pass V V V (.pass V V V (.pass V V V (.pass V V V (.Za (v := (vb false)) V V V (.nil ?_)))))); obtain rfl := sj h; exact ⟨⟨V, V, V, U⟩, H.wk (by omega)⟩
  ·rintro e σ ⟨he, H⟩; obtain ⟨e, rfl⟩ := he.ex; refine .mv (vb y1) V V ?_; obtain ⟨y2, hj2, h⟩ := bind_some h; refine .mid 6 (K1 := fun e σ => Z5 e [(30, (vb y2))] ∧ Has σ (b2 + 26) (b2 + 27) []) V ?_ ?_
   ·refine .split V V ?_ ?_ <;> intro hc3
    ·replace h := Z8 hc3 hj2; refine .wt V V (.Z1 H 1 V V V V V nofun V (.wt V V (.ld (vl Granule.cs a.Odd) H 1 V V V V V nofun V (.wt V V (.Z1 H 0 V V V V V nofun V (.wt V V (.ld (vl Granule.cs b.Odd) H 0 V V V V V nofun V (.wt V V ?_)))))))); obtain ⟨x2, q2, h⟩ := bind_some h; refine .callH (ys := [(vl Granule.cs a.Odd), (vl Granule.cs b.Odd), (.v (.fn 72))]) (r := (vb x2)) H V (Z10 (C := []) V (fun _ => V) (fun z0 z1 y hz => (CloH.fn (Fn.toH (Z8I hz) _))) q2) .nil nofun V fun σ H => (.ZY (v := (vb x2)) V V V (.nil ?_)); obtain rfl := sj h; exact ⟨⟨V, U⟩, ((H.erase 1).erase 0).wk (by omega)⟩
    ·replace h := Z7 hc3 hj2; refine .pass V V V (.pass V V V (.pass V V V (.pass V V V (.pass V V V (.Za (v := (vb false)) V V V (.nil ?_)))))); obtain rfl := sj h; exact ⟨⟨V, U⟩, ((H.erase 1).erase 0).wk (by omega)⟩
   ·rintro e σ ⟨he, H⟩; obtain ⟨e, rfl⟩ := he.ex; refine .av (vb y2) V V (.nila H fun H => (.ret ?_)); obtain rfl := sj h; exact (Ends.H (xs := [(vb y2)]) (.inr V) H (.tmp (v := (vb y2)) V .nil) (.one (.c (.v _))))
theorem canon_Is_fn {f : Form} {r : Bool} (h : Z4y f = some r) : Fn CX 17 [(.agg (vs (Form.cs f)))] (vb r) := by
 refine Fn.ends Try.func17 V V V V V V ?_; have H : Hs (⟨0, fun _ => .none⟩ : Heap) [] := Has.nil (Nat.le_refl _)
 generalize (⟨0, fun _ => .none⟩ : Heap) = σ at H ⊢
 unfold Z4y at h; refine .then (.Z0 2 V H fun b1 σ H => (.boxH (cs := (vF f)) H (by omega) (by omega) V V V fun σ H => (.av (vb false) V V (.nila H fun H => (.then (.Z20 5 V (by kernel_rfl) H fun b2 σ H B2 => (.Zc (cs := (vF f)) H 0 V V V V V V V (fun _ => .inl ⟨B2 0 _ V _ V, nofun, (fun _ => by kernel_rfl)⟩) V (.Zc (cs := (vF f)) H 0 V V V V V V V (fun _ => .inl ⟨B2 0 _ V _ V, nofun, (fun _ => by kernel_rfl)⟩) V ?_)))))))); obtain ⟨x1, q1, h⟩ := bind_some h; refine .call (ys := [(.agg (vF f))]) (r := (.agg (vF x1))) V (Z4i q1) V ?_; obtain ⟨x2, q2, h⟩ := bind_some h; refine .call (ys := [(.agg (vF f)), (.agg (vF x1))]) (r := (vb x2)) V (Z9M q2) V (.av (vb x2) V V (.nila H fun H => (.ret ?_))); obtain rfl := sj h; exact (Ends.H (xs := [(vb x2)]) (.inr V) H (.tmp (v := (vb x2)) V .nil) (.one (.c (.v _))))
end Go.Dn

namespace Go.Dn
open Go Go.Proofs
set_option maxRecDepth 100000
set_option maxHeartbeats 4000000
theorem Z5G {a : Form} {b : Form} {r : Bool} (h : ZU a b = some r) : Fn CX 12 [(.agg (vs (Form.cs a))), (.agg (vs (Form.cs b)))] (vb r) := by
 refine Fn.ends Try.func12 V V V V V V ?_; have H : Hs (⟨0, fun _ => .none⟩ : Heap) [] := Has.nil (Nat.le_refl _)
 generalize (⟨0, fun _ => .none⟩ : Heap) = σ at H ⊢
 unfold ZU at h; refine .then (.Z0 3 V H fun b1 σ H => (.boxH (cs := (vF a)) H (by omega) (by omega) V V V fun σ H => (.boxH (cs := (vF b)) H (by omega) (by omega) V V V fun σ H => (.av (vb false) V V (.nila H fun H => (.then (.then (.Z0 30 V H fun b2 σ H => ?_)))))))); refine .Z1 H 1 V V V V V nofun V (.ld (vi a.Period) H 1 V V V V V nofun V (.Z1 H 0 V V V V V nofun V (.ld (vi b.Period) H 0 V V V V V nofun V (.it a.Period b.Period (.bool (a.Period != b.Period)) V V V V V (.mv (vb (a.Period != b.Period)) V V ?_))))); refine .mid 6 (K1 := fun e σ => Z5 e [(20, (vb ((a.Period != b.Period) || (a.Count != b.Count)))), (2, (.ptr (b1 + 0) 4 0)), (3, (.ptr (b1 + 1) 4 0))] ∧ Has σ (b2 + 12) (b2 + 30) [.blk (b1 + 1) 25 (vF b), .blk (b1 + 0) 25 (vF a)]) rfl ?_ ?_
 ·refine .split V V ?_ ?_ <;> intro hc1
  ·skip
   refine .pass V V V (.pass V V V (.pass V V V (.pass V V V (.pass V V V (.ZY (v := (vb true)) V V V (.nil ?_)))))); exact ⟨⟨or_T hc1, V, V, U⟩, H.wk (by omega)⟩
  ·skip
   refine .wt V V (.Z1 H 1 V V V V V nofun V (.wt V V (.ld (vi a.Count) H 1 V V V V V nofun V (.wt V V (.Z1 H 0 V V V V V nofun V (.wt V V (.ld (vi b.Count) H 0 V V V V V nofun V (.wt V V ?_)))))))); refine .it a.Count b.Count (.bool (a.Count != b.Count)) V V V V V (.Za (v := (vb (a.Count != b.Count))) V V V (.nil ?_)); exact ⟨⟨or_F hc1, V, V, U⟩, H.wk (by omega)⟩
 ·rintro e σ ⟨he, H⟩; obtain ⟨e, rfl⟩ := he.ex; refine .mv (vb ((a.Period != b.Period) || (a.Count != b.Count))) rfl rfl ?_; refine .mid 8 (K1 := fun e σ => Z5 e [(29, (vb (((a.Period != b.Period) || (a.Count != b.Count)) || ((a.Core.length : Int) != (b.Core.length : Int))))), (2, (.ptr (b1 + 0) 4 0)), (3, (.ptr (b1 + 1) 4 0))] ∧ Has σ (b2 + 21) (b2 + 30) [.blk (b1 + 1) 25 (vF b), .blk (b1 + 0) 25 (vF a)]) rfl ?_ ?_
  ·refine .split V V ?_ ?_ <;> intro hc2
   ·skip
    refine .pass V V V (.pass V V V (.pass V V V (.pass V V V (.pass V V V (.pass V V V (.pass V V V (.ZY (v := (vb true)) V V V (.nil ?_)))))))); exact ⟨⟨or_T hc2, V, V, U⟩, H.wk (by omega)⟩
   ·skip
    refine .wt V V (.Z1 H 1 V V V V V nofun V (.wt V V (.ld (vl (cL Span.cs) a.Core) H 1 V V V V V nofun V (.wt V V (.Zv (c := (cL Span.cs)) (xs := a.Core) V V V (.wt V V (.Z1 H 0 V V V V V nofun V (.wt V V ?_)))))))); refine .ld (vl (cL Span.cs) b.Core) H 0 V V V V V nofun V (.wt V V (.Zv (c := (cL Span.cs)) (xs := b.Core) V V V (.wt V V (.it (a.Core.length : Int) (b.Core.length : Int) (.bool ((a.Core.length : Int) != (b.Core.length : Int))) V V V V V (.Za (v := (vb ((a.Core.length : Int) != (b.Core.length : Int)))) V V V (.nil ?_)))))); exact ⟨⟨or_F hc2, V, V, U⟩, H.wk (by omega)⟩
  ·rintro e σ ⟨he, H⟩; obtain ⟨e, rfl⟩ := he.ex; refine .mv (vb (((a.Period != b.Period) || (a.Count != b.Count)) || ((a.Core.length : Int) != (b.Core.length : Int)))) rfl rfl ?_; refine .mid 8 (K1 := fun e σ => Z5 e [(38, (vb ((((a.Period != b.Period) || (a.Count != b.Count)) || ((a.Core.length : Int) != (b.Core.length : Int))) || ((a.Odd.length : Int) != (b.Odd.length : Int))))), (2, (.ptr (b1 + 0) 4 0)), (3, (.ptr (b1 + 1) 4 0))] ∧ Has σ (b2 + 30) (b2 + 30) [.blk (b1 + 1) 25 (vF b), .blk (b1 + 0) 25 (vF a)]) rfl ?_ ?_
   ·refine .split V V ?_ ?_ <;> intro hc3
    ·skip
     refine .pass V V V (.pass V V V (.pass V V V (.pass V V V (.pass V V V (.pass V V V (.pass V V V (.ZY (v := (vb true)) V V V (.nil ?_)))))))); exact ⟨⟨or_T hc3, V, V, U⟩, H.wk (by omega)⟩
    ·skip
     refine .wt V V (.Z1 H 1 V V V V V nofun V (.wt V V (.ld (vl Granule.cs a.Odd) H 1 V V V V V nofun V (.wt V V (.Zv (c := Granule.cs) (xs := a.Odd) V V V (.wt V V (.Z1 H 0 V V V V V nofun V (.wt V V ?_)))))))); refine .ld (vl Granule.cs b.Odd) H 0 V V V V V nofun V (.wt V V (.Zv (c := Granule.cs) (xs := b.Odd) V V V (.wt V V (.it (a.Odd.length : Int) (b.Odd.length : Int) (.bool ((a.Odd.length : Int) != (b.Odd.length : Int))) V V V V V (.Za (v := (vb ((a.Odd.length : Int) != (b.Odd.length : Int)))) V V V (.nil ?_)))))); exact ⟨⟨or_F hc3, V, V, U⟩, H.wk (by omega)⟩
   ·rintro e σ ⟨he, H⟩; obtain ⟨e, rfl⟩ := he.ex; refine .nila H fun H => ?_; refine .whether (v := ((((a.Period != b.Period) || (a.Count != b.Count)) || ((a.Core.length : Int) != (b.Core.length : Int))) || ((a.Odd.length : Int) != (b.Odd.length : Int)))) rfl ?_ ?_ <;> intro hc4
    ·replace h := Z8 hc4 h; refine .then (.Z0 1 V H fun b3 σ H => (.av (vb false) V V (.nila H fun H => (.ret ?_)))); obtain rfl := sj h; exact (Ends.H (xs := [(vb false)]) (.inr V) H (.tmp (v := (vb false)) V .nil) (.one (.c (.v _))))
    ·replace h := Z7 hc4 h; refine .skip (.then (.then (.Z0 4 V H fun b4 σ H => (.Z1 H 1 V V V V V nofun V (.ld (vl (cL Span.cs) a.Core) H 1 V V V V V nofun V (.Zv (c := (cL Span.cs)) (xs := a.Core) V V V (.mv (vi 0) V V (.nila H fun H => ?_)))))))); refine .inBlock ?_; obtain ⟨y1, hj1, h⟩ := bind_some h; obtain ⟨n1, hj1⟩ := ZW.1 hj1; refine .mono (Runs.ZN hj1 (fun s1 e σ => Z5 e [(2, (.ptr (b1 + 0) 4 0)), (3, (.ptr (b1 + 1) 4 0)), (40, (vl (cL Span.cs) a.Core)), (41, (vi (a.Core.length : Int))), (42, (vi s1))] ∧ Hs σ [.blk (b1 + 1) 25 (vF b), .blk (b1 + 0) 25 (vF a)]) (fun y1 x e σ => (∃ a1, y1 = (.go a1) ∧ x = .exit 0 ∧ Z5 e [(2, (.ptr (b1 + 0) 4 0)), (3, (.ptr (b1 + 1) 4 0))] ∧ Hs σ [.blk (b1 + 1) 25 (vF b), .blk (b1 + 0) 25 (vF a)]) ∨ (∃ r', y1 = (.ret r') ∧ x = .ret ∧ Ends CX Try.f12.results.toList (vb r') x e σ)) ⟨⟨V, V, V, V, V, U⟩, H⟩ ?_) ?_
     ·intro s1 e σ hI z h; obtain ⟨he, H⟩ := hI; obtain ⟨e, rfl⟩ := he.ex; unfold ZU.s0 at h; refine .then (.Z0 1 V H fun b5 σ H => (.it s1 (a.Core.length : Int) (.bool (decide (s1 < (a.Core.length : Int)))) V V V V V (.nila H fun H => (.then ?_)))); refine .whether (v := (decide (s1 < (a.Core.length : Int)))) V ?_ ?_ <;> intro hc5
      ·replace h := Z8 hc5 h; refine .skip (.then (.inBlock (.then (.Z0 5 V H fun b6 σ H => (.mv (vi s1) V V ?_))))); obtain ⟨x1, q1, h⟩ := bind_some h; refine .Zr (c := (cL Span.cs)) (u := x1) V V q1 V V V V (.Z1E (u := (.sl (x1.map Span.cs))) V V V V (.av (vi s1) V V (.av (vl Span.cs x1) V V (.nila H fun H => (.then (.Z0 8 V H fun b7 σ H => (.mv (vl Span.cs x1) V V (.Z1 H 0 V V V V V nofun V ?_)))))))); refine .ld (vl (cL Span.cs) b.Core) H 0 V V V V V nofun V (.mv (vi s1) V V ?_); obtain ⟨x2, q2, h⟩ := bind_some h; refine .Zr (c := (cL Span.cs)) (u := x2) V V q2 V V V V (.Z1E (u := (.sl (x2.map Span.cs))) V V V V ?_); obtain ⟨x3, q3, h⟩ := bind_some h; refine .call (ys := [(vl Span.cs x1), (vl Span.cs x2)]) (r := (vb x3)) V (Z23 q3) V (.not (b := x3) V V (.nila H fun H => ?_)); refine .whether (v := (!x3)) V ?_ ?_ <;> intro hc6
       ·replace h := Z8 hc6 h; refine .then (.Z0 1 V H fun b8 σ H => (.av (vb false) V V (.nila H fun H => (.ret ?_)))); obtain rfl := sj h; exact ⟨nofun, (.inr ⟨_, V, V, (Ends.H (xs := [(vb false)]) (.inr V) H (.tmp (v := (vb false)) V .nil) (.one (.c (.v _))))⟩)⟩
       ·replace h := Z7 hc6 h; refine .skip (.Z0 2 V H fun b9 σ H => (.it s1 1 (.int .i64 (w64 (s1 + 1))) V V V V V (.mv (vi (w64 (s1 + 1))) V V (.nila H fun H => ?_)))); obtain rfl := sj h; exact ⟨V, ⟨V, V, V, V, V, U⟩, H⟩
      ·replace h := Z7 hc5 h; refine .exit ?_; obtain rfl := sj h; exact ⟨nofun, (.inl ⟨_, V, V, ⟨V, V, U⟩, H⟩)⟩
     ·rintro x e σ (⟨a2, rfl, rfl, he, H⟩ | ⟨r', rfl, rfl, hE⟩)
      ·skip
       replace h := jgo h; obtain ⟨e, rfl⟩ := he.ex; refine .then (.then (.Z0 4 V H fun b10 σ H => (.Z1 H 1 V V V V V nofun V (.ld (vl Granule.cs a.Odd) H 1 V V V V V nofun V (.Zv (c := Granule.cs) (xs := a.Odd) V V V (.mv (vi 0) V V (.nila H fun H => (.inBlock ?_)))))))); obtain ⟨y2, hj2, h⟩ := bind_some h; obtain ⟨n2, hj2⟩ := ZW.1 hj2; refine .mono (Runs.ZN hj2 (fun s2 e σ => Z5 e [(3, (.ptr (b1 + 1) 4 0)), (57, (vl Granule.cs a.Odd)), (58, (vi (a.Odd.length : Int))), (59, (vi s2))] ∧ Hs σ [.blk (b1 + 1) 25 (vF b)]) (fun y2 x e σ => (∃ a3, y2 = (.go a3) ∧ x = .exit 2 ∧ Z5 e [] ∧ Hs σ []) ∨ (∃ r', y2 = (.ret r') ∧ x = .ret ∧ Ends CX Try.f12.results.toList (vb r') x e σ)) ⟨⟨V, V, V, V, U⟩, (H.erase 1)⟩ ?_) ?_
       ·intro s2 e σ hI z h; obtain ⟨he, H⟩ := hI; obtain ⟨e, rfl⟩ := he.ex; unfold ZU.s1 at h; refine .then (.Z0 1 V H fun b11 σ H => (.it s2 (a.Odd.length : Int) (.bool (decide (s2 < (a.Odd.length : Int)))) V V V V V (.nila H fun H => (.then ?_)))); refine .whether (v := (decide (s2 < (a.Odd.length : Int)))) V ?_ ?_ <;> intro hc7
        ·replace h := Z8 hc7 h; refine .skip (.then (.inBlock (.then (.Z0 6 V H fun b12 σ H => (.mv (vi s2) V V ?_))))); obtain ⟨x4, q4, h⟩ := bind_some h; refine .Zr (c := Granule.cs) (u := x4) V V q4 V V V V (.Z1o (cs := [(.int .i64 x4.Index), (.sl (x4.Ticks.map Span.cs))]) V V V V V V (.Z02 (cs := [(vi 0), .nils]) H (by omega) (by omega) V V fun σ H => (.av (vi s2) V V (.ZV (cells' := [(vi x4.Index), (vl Span.cs x4.Ticks)]) H 0 V V V V V V V V V nofun fun σ H => (.nila H fun H => (.then (.Z20 21 V (by kernel_rfl) H fun b13 σ H B13 => (.Z1 H 0 V V V V V (fun _ => .inl ⟨B13 0 _ V _ V, nofun, (fun _ => by kernel_rfl)⟩) V ?_)))))))); refine .ld (vi x4.Index) H 0 V V V V V (fun _ => .inl ⟨B13 0 _ V _ V, nofun, (fun _ => by kernel_rfl)⟩) V (.Z1 H 1 V V V V V (fun _ => .inl ⟨B13 1 _ V _ V, nofun, (fun _ => by kernel_rfl)⟩) V (.ld (vl Granule.cs b.Odd) H 1 V V V V V (fun _ => .inl ⟨B13 1 _ V _ V, nofun, (fun _ => by kernel_rfl)⟩) V (.mv (vi s2) V V ?_))); obtain ⟨x5, q5, h⟩ := bind_some h; refine .Zr (c := Granule.cs) (u := x5) V V q5 V V V V (.Z0X V V V V (.Z1E (u := (.int .i64 x5.Index)) V V V V (.it x4.Index x5.Index (.bool (x4.Index != x5.Index)) V V V V V (.mv (vb (x4.Index != x5.Index)) V V ?_)))); obtain ⟨y3, hj3, h⟩ := bind_some h; refine .mid 11 (K1 := fun e σ => Z5 e [(84, (vb y3)), (3, (.ptr (b1 + 1) 4 0)), (57, (vl Granule.cs a.Odd)), (58, (vi (a.Odd.length : Int))), (59, (vi s2))] ∧ Has σ (b13 + 21) (b13 + 21) [.blk (b1 + 1) 25 (vF b)]) V ?_ ?_
         ·refine .split V V ?_ ?_ <;> intro hc8
          ·replace h := Z8 hc8 hj3; refine .pass V V V (.pass V V V (.pass V V V (.pass V V V (.pass V V V (.pass V V V (.pass V V V (.pass V V V (.pass V V V ?_)))))))); refine .pass V V V (.ZY (v := (vb true)) V V V (.nil ?_)); obtain rfl := sj h; exact ⟨⟨V, V, V, V, V, U⟩, (H.erase 0).wk (by omega)⟩
          ·replace h := Z7 hc8 hj3; refine .wt V V (.Z1 H 0 V V V V V (fun _ => .inl ⟨B13 0 _ V _ V, nofun, (fun _ => by kernel_rfl)⟩) V (.wt V V (.ld (vl Span.cs x4.Ticks) H 0 V V V V V (fun _ => .inl ⟨B13 0 _ V _ V, nofun, (fun _ => by kernel_rfl)⟩) V (.wt V V (.Z1 H 1 V V V V V (fun _ => .inl ⟨B13 1 _ V _ V, nofun, (fun _ => by kernel_rfl)⟩) V (.wt V V (.ld (vl Granule.cs b.Odd) H 1 V V V V V (fun _ => .inl ⟨B13 1 _ V _ V, nofun, (fun _ => by kernel_rfl)⟩) V (.wt V V ?_)))))))); refine .mv (vi s2) V V (.wt V V ?_); obtain ⟨x6, q6, h⟩ := bind_some h; refine .Zr (c := Granule.cs) (u := x6) V V q6 V V V V (.wt V V (.Z0X V V V V (.wt V V (.Z1E (u := (.sl (x6.Ticks.map Span.cs))) V V V V (.wt V V ?_))))); obtain ⟨x7, q7, h⟩ := bind_some h; refine .call (ys := [(vl Span.cs x4.Ticks), (vl Span.cs x6.Ticks)]) (r := (vb x7)) V (Z23 q7) V (.wt V V (.not (b := x7) V V (.Za (v := (vb (!x7))) V V V (.nil ?_)))); obtain rfl := sj h; exact ⟨⟨V, V, V, V, V, U⟩, (H.erase 0).wk (by omega)⟩
         ·rintro e σ ⟨he, H⟩; obtain ⟨e, rfl⟩ := he.ex; refine .nila H fun H => ?_; refine .whether (v := y3) V ?_ ?_ <;> intro hc9
          ·replace h := Z8 hc9 h; refine .then (.Z0 1 V H fun b14 σ H => (.av (vb false) V V (.nila H fun H => (.ret ?_)))); obtain rfl := sj h; exact ⟨nofun, (.inr ⟨_, V, V, (Ends.H (xs := [(vb false)]) (.inr V) H (.tmp (v := (vb false)) V .nil) (.one (.c (.v _))))⟩)⟩
          ·replace h := Z7 hc9 h; refine .skip (.Z0 2 V H fun b15 σ H => (.it s2 1 (.int .i64 (w64 (s2 + 1))) V V V V V (.mv (vi (w64 (s2 + 1))) V V (.nila H fun H => ?_)))); obtain rfl := sj h; exact ⟨V, ⟨V, V, V, V, U⟩, H⟩
        ·replace h := Z7 hc7 h; refine .exit ?_; obtain rfl := sj h; exact ⟨nofun, (.inl ⟨_, V, V, U, (H.erase 0)⟩)⟩
       ·rintro x e σ (⟨a4, rfl, rfl, he, H⟩ | ⟨r', rfl, rfl, hE⟩)
        ·skip
         replace h := jgo h; obtain ⟨e, rfl⟩ := he.ex; refine .then (.Z0 1 V H fun b16 σ H => (.av (vb true) V V (.nila H fun H => (.ret ?_)))); obtain rfl := sj h; exact (Ends.H (xs := [(vb true)]) (.inr V) H (.tmp (v := (vb true)) V .nil) (.one (.c (.v _))))
        ·skip
         replace h := jret h; obtain rfl := sj h; exact hE
      ·skip
       replace h := jret h; obtain rfl := sj h; exact hE
theorem Z4J {f : Form} {m : Int} {at' : Int} {r : Bool} (h : Zk f m at' = some r) : Fn CX 4 [(.agg (vs (Form.cs f))), (vi m), (.v (.int .i32 at'))] (vb r) := by
 refine Fn.ends Try.func4 V V V V V V ?_; have H : Hs (⟨0, fun _ => .none⟩ : Heap) [] := Has.nil (Nat.le_refl _)
 generalize (⟨0, fun _ => .none⟩ : Heap) = σ at H ⊢
 unfold Zk at h; refine .then (.Z0 2 V H fun b1 σ H => (.boxH (cs := (vF f)) H (by omega) (by omega) V V V fun σ H => (.av (vb false) V V (.nila H fun H => (.then (.then (.Z0 3 V H fun b2 σ H => (.Zc (cs := (vF f)) H 0 V V V V V V V nofun V ?_)))))))); obtain ⟨x1, q1, h⟩ := bind_some h; refine .call (ys := [(.agg (vF f))]) (r := (vb x1)) V (Z6K q1) V (.not (b := x1) V V (.nila H fun H => ?_)); refine .whether (v := (!x1)) V ?_ ?_ <;> intro hc1
 ·replace h := Z8 hc1 h; refine .then (.Z0 2 V H fun b3 σ H => (.call (ys := []) (r := (vb ZS)) V (Z2X V) V (.av (vb ZS) V V (.nila H fun H => (.ret ?_))))); obtain rfl := sj h; exact (Ends.H (xs := [(vb ZS)]) (.inr V) H (.tmp (v := (vb ZS)) V .nil) (.one (.c (.v _))))
 ·replace h := Z7 hc1 h; refine .skip (.then (.Z0 4 V H fun b4 σ H => (.mv (.v (.int .i32 at')) V V (.conv (m := at') V V V V (.shr (m := (w64 at')) (m' := 1) V V (by decide) V (.av (vi ((w64 at').fdiv (2 ^ 1))) V V (.nila H fun H => (.then ?_)))))))); refine .Z0 9 V H fun b5 σ H => (.Zc (cs := (vF f)) H 0 V V V V V V V nofun V (.mv (vi m) V V ?_)); obtain ⟨x2, q2, h⟩ := bind_some h; refine .call (ys := [(.agg (vF f)), (vi m)]) (r := (.tup [(.agg (vF x2.1)), (vi x2.2)])) V (Z3k q2) V (.mv (.tup [(.agg (vF x2.1)), (vi x2.2)]) V V (.xt (.agg (vF x2.1)) V V V (.xt (vi x2.2) V V V (.Z02 (cs := [(vi 0), (vi 0), .nils, .nils]) H (by omega) (by omega) V V fun σ H => (.ZV (cells' := (vF x2.1)) H 0 V V V V V V V V V nofun fun σ H => (.av (vi x2.2) V V (.nila H fun H => (.then ?_)))))))); refine .then (.Z0 2 V H fun b6 σ H => (.mv (vi x2.2) V V (.it x2.2 0 (.bool (x2.2 != 0)) V V V V V (.nila H fun H => ?_)))); refine .whether (v := (x2.2 != 0)) V ?_ ?_ <;> intro hc2
  ·replace h := Z8 hc2 h; refine .then (.Z0 21 V H fun b7 σ H => (.mv (vi x2.2) V V (.it x2.2 2 (.bool (x2.2 == 2)) V V V V V (.mv (vi m) V V (.it m (-1099511627776) (.bool (decide (m < (-1099511627776)))) V V V V V (.mv (vb (decide (m < (-1099511627776)))) V V ?_)))))); refine .mid 3 (K1 := fun e σ => Z5 e [(40, (vb ((decide (m < (-1099511627776))) || (decide (m > 1099511627776))))), (9, (vi x2.2)), (34, (vb (x2.2 == 2)))] ∧ Has σ (b7 + 8) (b7 + 21) []) rfl ?_ ?_
   ·refine .split V V ?_ ?_ <;> intro hc3
    ·skip
     refine .pass V V V (.pass V V V (.ZY (v := (vb true)) V V V (.nil ?_))); exact ⟨⟨or_T hc3, V, V, U⟩, ((H.erase 1).erase 0).wk (by omega)⟩
    ·skip
     refine .wt V V (.mv (vi m) V V (.wt V V (.it m 1099511627776 (.bool (decide (m > 1099511627776))) V V V V V (.Za (v := (vb (decide (m > 1099511627776)))) V V V (.nil ?_))))); exact ⟨⟨or_F hc3, V, V, U⟩, ((H.erase 1).erase 0).wk (by omega)⟩
   ·rintro e σ ⟨he, H⟩; obtain ⟨e, rfl⟩ := he.ex; refine .eqB (b := (x2.2 == 2)) (b' := ((decide (m < (-1099511627776))) || (decide (m > 1099511627776)))) rfl rfl rfl rfl (.mv (vb ((x2.2 == 2) == ((decide (m < (-1099511627776))) || (decide (m > 1099511627776))))) rfl rfl ?_); refine .mid 7 (K1 := fun e σ => Z5 e [(49, (vb (((x2.2 == 2) == ((decide (m < (-1099511627776))) || (decide (m > 1099511627776)))) && ((x2.2 == 2) || (x2.2 == 20)))))] ∧ Has σ (b7 + 17) (b7 + 21) []) rfl ?_ ?_
    ·refine .split V V ?_ ?_ <;> intro hc4
     ·skip
      refine .wt V V (.mv (vi x2.2) V V (.wt V V (.it x2.2 2 (.bool (x2.2 == 2)) V V V V V (.wt V V (.mv (vb (x2.2 == 2)) V V ?_))))); refine .mid 3 (K1 := fun e σ => Z5 e [(48, (vb ((x2.2 == 2) || (x2.2 == 20)))), (42, (vb true))] ∧ Has σ (b7 + 16) (b7 + 21) []) rfl ?_ ?_
      ·refine .split V V ?_ ?_ <;> intro hc5
       ·skip
        refine .pass V V V (.pass V V V (.wt V V (.ZY (v := (vb true)) V V V (.nil ?_)))); exact ⟨⟨or_T hc5, V, U⟩, H.wk (by omega)⟩
       ·skip
        refine .wt V V (.mv (vi x2.2) V V (.wt V V (.it x2.2 20 (.bool (x2.2 == 20)) V V V V V (.wt V V (.Za (v := (vb (x2.2 == 20))) V V V (.nil ?_)))))); exact ⟨⟨or_F hc5, V, U⟩, H.wk (by omega)⟩
      ·rintro e σ ⟨he, H⟩; obtain ⟨e, rfl⟩ := he.ex; refine .ZY (v := (vb ((x2.2 == 2) || (x2.2 == 20)))) rfl rfl rfl (.nil ?_); exact ⟨⟨Z0s hc4, U⟩, H.wk (by omega)⟩
     ·skip
      refine .pass V V V (.pass V V V (.pass V V V (.Z0j V V V (.Z0j V V V (.pass V V V (.Za (v := (vb false)) V V V (.nil ?_))))))); exact ⟨⟨Z0r hc4, U⟩, H.wk (by omega)⟩
    ·rintro e σ ⟨he, H⟩; obtain ⟨e, rfl⟩ := he.ex; refine .mv (vb (((x2.2 == 2) == ((decide (m < (-1099511627776))) || (decide (m > 1099511627776)))) && ((x2.2 == 2) || (x2.2 == 20)))) rfl rfl ?_; refine .mid 2 (K1 := fun e σ => Z5 e [(52, (vb ((((x2.2 == 2) == ((decide (m < (-1099511627776))) || (decide (m > 1099511627776)))) && ((x2.2 == 2) || (x2.2 == 20))) && ZS)))] ∧ Has σ (b7 + 20) (b7 + 21) []) rfl ?_ ?_
     ·refine .split V V ?_ ?_ <;> intro hc6
      ·skip
       refine .wt V V (.call (ys := []) (r := (vb ZS)) V (Z2X V) V (.ZY (v := (vb ZS)) V V V (.nil ?_))); exact ⟨⟨Z0s hc6, U⟩, H.wk (by omega)⟩
      ·skip
       refine .pass V V V (.Za (v := (vb false)) V V V (.nil ?_)); exact ⟨⟨Z0r hc6, U⟩, H.wk (by omega)⟩
     ·rintro e σ ⟨he, H⟩; obtain ⟨e, rfl⟩ := he.ex; refine .av (vb ((((x2.2 == 2) == ((decide (m < (-1099511627776))) || (decide (m > 1099511627776)))) && ((x2.2 == 2) || (x2.2 == 20))) && ZS)) rfl rfl (.nila H fun H => (.ret ?_)); obtain rfl := sj h; exact (Ends.H (xs := [(vb ((((x2.2 == 2) == ((decide (m < (-1099511627776))) || (decide (m > 1099511627776)))) && ((x2.2 == 2) || (x2.2 == 20))) && ZS))]) (.inr rfl) H (.tmp (v := (vb ((((x2.2 == 2) == ((decide (m < (-1099511627776))) || (decide (m > 1099511627776)))) && ((x2.2 == 2) || (x2.2 == 20))) && ZS))) rfl .nil) (.one (.c (.v _))))
  ·replace h := Z7 hc2 h; refine .skip (.then (.then (.Z0 7 V H fun b8 σ H => (.mv (vi ((w64 at').fdiv (2 ^ 1))) V V (.mv (vi m) V V (.mv (vi m) V V (.it m 1 (.int .i64 (w64 (m + 1))) V V V V V (.Z2C (sz := 1) ([((w64 at').fdiv (2 ^ 1)), m, (w64 (m + 1)), 0].map (cI .i64)) H (by omega) (by omega) V V V V V V V V V fun σ H => ?_)))))))); refine .Z6g (c := (cI .i64)) (xs := [((w64 at').fdiv (2 ^ 1)), m, (w64 (m + 1)), 0]) H 0 V V V nofun V (.mv (vi 0) V V (.nila H fun H => (.inBlock ?_))); obtain ⟨y1, hj1, h⟩ := bind_some h; obtain ⟨n1, hj1⟩ := ZW.1 hj1; refine .mono (Runs.ZN hj1 (fun s1 e σ => Z5 e [(1, (vi m)), (3, (.ptr (b1 + 0) 4 0)), (8, (.ptr (b5 + 6) 4 0)), (57, (.buf (b8 + 4) 4 1)), (58, (vi ([((w64 at').fdiv (2 ^ 1)), m, (w64 (m + 1)), 0].length : Int))), (59, (vi s1))] ∧ Hs σ [.sl (.buf (b8 + 4) 4 1) 3 1 ([((w64 at').fdiv (2 ^ 1)), m, (w64 (m + 1)), 0].map (cI .i64)) true, .blk (b5 + 6) 25 (vF x2.1), .blk (b1 + 0) 25 (vF f)]) (fun y1 x e σ => (∃ a1, y1 = (.go a1) ∧ x = .exit 0 ∧ Z5 e [(1, (vi m)), (3, (.ptr (b1 + 0) 4 0)), (8, (.ptr (b5 + 6) 4 0))] ∧ Hs σ [.blk (b5 + 6) 25 (vF x2.1), .blk (b1 + 0) 25 (vF f)]) ∨ (∃ r', y1 = (.ret r') ∧ x = .ret ∧ Ends CX Try.f4.results.toList (vb r') x e σ)) ⟨⟨V, V, V, V, V, V, U⟩, H⟩ ?_) ?_
   ·intro s1 e σ hI z h; obtain ⟨he, H⟩ := hI; obtain ⟨e, rfl⟩ := he.ex; unfold Zk.s0 at h; refine .then (.Z0 1 V H fun b9 σ H => (.it s1 ([((w64 at').fdiv (2 ^ 1)), m, (w64 (m + 1)), 0].length : Int) (.bool (decide (s1 < ([((w64 at').fdiv (2 ^ 1)), m, (w64 (m + 1)), 0].length : Int)))) V V V V V (.nila H fun H => (.then ?_)))); refine .whether (v := (decide (s1 < ([((w64 at').fdiv (2 ^ 1)), m, (w64 (m + 1)), 0].length : Int)))) V ?_ ?_ <;> intro hc7
    ·replace h := Z8 hc7 h; refine .skip (.then (.inBlock (.then (.Z0 3 V H fun b10 σ H => ?_)))); obtain ⟨x3, q3, h⟩ := bind_some h; refine .Z74 H 0 V V V (at?_map q3) V V nofun V ?_; intro id1 hv1; refine .loadS (id := id1) (j := 0) (w := (.int .i64 x3)) H 0 V hv1 (by simp) (at?_map q3) V (by simp) V V V nofun V ?_; refine .av (vi x3) V V (.nila H fun H => (.then (.Z0 10 V H fun b11 σ H => (.Zc (cs := (vF f)) H 2 V V V V V V V nofun V (.mv (vi x3) V V (.mv (vi m) V V (.it x3 m (.int .i64 (w64 (x3 - m))) V V V V V ?_))))))); obtain ⟨x4, q4, h⟩ := bind_some h; refine .call (ys := [(.agg (vF f)), (vi (w64 (x3 - m)))]) (r := (.tup [(vl Span.cs x4.1), (vi x4.2)])) V (Z1Q q4) V (.mv (.tup [(vl Span.cs x4.1), (vi x4.2)]) V V (.xt (vl Span.cs x4.1) V V V (.xt (vi x4.2) V V V (.av (vl Span.cs x4.1) V V (.av (vi x4.2) V V (.nila H fun H => (.then (.Z0 8 V H fun b12 σ H => ?_)))))))); refine .Zc (cs := (vF x2.1)) H 1 V V V V V V V nofun V (.mv (vi x3) V V ?_); obtain ⟨x5, q5, h⟩ := bind_some h; refine .call (ys := [(.agg (vF x2.1)), (vi x3)]) (r := (.tup [(vl Span.cs x5.1), (vi x5.2)])) V (Z1Q q5) V (.mv (.tup [(vl Span.cs x5.1), (vi x5.2)]) V V (.xt (vl Span.cs x5.1) V V V (.xt (vi x5.2) V V V (.av (vl Span.cs x5.1) V V (.av (vi x5.2) V V (.nila H fun H => (.then (.Z0 28 V H fun b13 σ H => ?_)))))))); refine .mv (vi x4.2) V V (.it x4.2 0 (.bool (x4.2 == 0)) V V V V V (.mv (vb (x4.2 == 0)) V V ?_)); refine .mid 3 (K1 := fun e σ => Z5 e [(82, (vb ((x4.2 == 0) && (x5.2 == 0)))), (1, (vi m)), (3, (.ptr (b1 + 0) 4 0)), (8, (.ptr (b5 + 6) 4 0)), (11, (vi x3)), (12, (vl Span.cs x4.1)), (13, (vi x4.2)), (14, (vl Span.cs x5.1)), (15, (vi x5.2)), (57, (.buf (b8 + 4) 4 1)), (58, (vi ([((w64 at').fdiv (2 ^ 1)), m, (w64 (m + 1)), 0].length : Int))), (59, (vi s1))] ∧ Has σ (b13 + 6) (b13 + 28) [.sl (.buf (b8 + 4) 4 1) 3 1 ([((w64 at').fdiv (2 ^ 1)), m, (w64 (m + 1)), 0].map (cI .i64)) true, .blk (b5 + 6) 25 (vF x2.1), .blk (b1 + 0) 25 (vF f)]) V ?_ ?_
     ·refine .split V V ?_ ?_ <;> intro hc8
      ·skip
       refine .wt V V (.mv (vi x5.2) V V (.wt V V (.it x5.2 0 (.bool (x5.2 == 0)) V V V V V (.ZY (v := (vb (x5.2 == 0))) V V V (.nil ?_))))); exact ⟨⟨Z0s hc8, V, V, V, V, V, V, V, V, V, V, V, U⟩, H.wk (by omega)⟩
      ·skip
       refine .pass V V V (.pass V V V (.Za (v := (vb false)) V V V (.nil ?_))); exact ⟨⟨Z0r hc8, V, V, V, V, V, V, V, V, V, V, V, U⟩, H.wk (by omega)⟩
     ·rintro e σ ⟨he, H⟩; obtain ⟨e, rfl⟩ := he.ex; refine .mv (vb ((x4.2 == 0) && (x5.2 == 0))) V V ?_; obtain ⟨y2, hj2, h⟩ := bind_some h; refine .mid 5 (K1 := fun e σ => Z5 e [(88, (vb y2)), (1, (vi m)), (3, (.ptr (b1 + 0) 4 0)), (8, (.ptr (b5 + 6) 4 0)), (11, (vi x3)), (13, (vi x4.2)), (15, (vi x5.2)), (57, (.buf (b8 + 4) 4 1)), (58, (vi ([((w64 at').fdiv (2 ^ 1)), m, (w64 (m + 1)), 0].length : Int))), (59, (vi s1))] ∧ Has σ (b13 + 12) (b13 + 28) [.sl (.buf (b8 + 4) 4 1) 3 1 ([((w64 at').fdiv (2 ^ 1)), m, (w64 (m + 1)), 0].map (cI .i64)) true, .blk (b5 + 6) 25 (vF x2.1), .blk (b1 + 0) 25 (vF f)]) V ?_ ?_
      ·refine .split V V ?_ ?_ <;> intro hc9
       ·replace h := Z8 hc9 hj2; refine .wt V V (.mv (vl Span.cs x5.1) V V (.wt V V (.mv (vl Span.cs x4.1) V V (.wt V V ?_)))); obtain ⟨x6, q6, h⟩ := bind_some h; refine .call (ys := [(vl Span.cs x5.1), (vl Span.cs x4.1)]) (r := (vb x6)) V (Z3O q6) V (.wt V V (.not (b := x6) V V (.ZY (v := (vb (!x6))) V V V (.nil ?_)))); obtain rfl := sj h; exact ⟨⟨V, V, V, V, V, V, V, V, V, V, U⟩, H.wk (by omega)⟩
       ·replace h := Z7 hc9 hj2; refine .pass V V V (.pass V V V (.pass V V V (.pass V V V (.Za (v := (vb false)) V V V (.nil ?_))))); obtain rfl := sj h; exact ⟨⟨V, V, V, V, V, V, V, V, V, V, U⟩, H.wk (by omega)⟩
      ·rintro e σ ⟨he, H⟩; obtain ⟨e, rfl⟩ := he.ex; refine .mv (vb y2) V V ?_; refine .mid 15 (K1 := fun e σ => Z5 e [(104, (vb (y2 || ((((x4.2 == 0) && (x5.2 != 0)) && (decide (x3 ≥ (-1099511627776)))) && (decide (x3 ≤ 1099511627776)))))), (1, (vi m)), (3, (.ptr (b1 + 0) 4 0)), (8, (.ptr (b5 + 6) 4 0)), (57, (.buf (b8 + 4) 4 1)), (58, (vi ([((w64 at').fdiv (2 ^ 1)), m, (w64 (m + 1)), 0].length : Int))), (59, (vi s1))] ∧ Has σ (b13 + 28) (b13 + 28) [.sl (.buf (b8 + 4) 4 1) 3 1 ([((w64 at').fdiv (2 ^ 1)), m, (w64 (m + 1)), 0].map (cI .i64)) true, .blk (b5 + 6) 25 (vF x2.1), .blk (b1 + 0) 25 (vF f)]) rfl ?_ ?_
       ·refine .split V V ?_ ?_ <;> intro hc10
        ·skip
         refine .pass V V V (.pass V V V (.pass V V V (.Z0j V V V (.Z0j V V V (.pass V V V (.pass V V V (.Z0j V V V (.Z0j V V V ?_)))))))); refine .pass V V V (.pass V V V (.Z0j V V V (.Z0j V V V (.pass V V V (.ZY (v := (vb true)) V V V (.nil ?_)))))); exact ⟨⟨or_T hc10, V, V, V, V, V, V, U⟩, H.wk (by omega)⟩
        ·skip
         refine .wt V V (.mv (vi x4.2) V V (.wt V V (.it x4.2 0 (.bool (x4.2 == 0)) V V V V V (.wt V V (.mv (vb (x4.2 == 0)) V V ?_))))); refine .mid 3 (K1 := fun e σ => Z5 e [(95, (vb ((x4.2 == 0) && (x5.2 != 0)))), (1, (vi m)), (3, (.ptr (b1 + 0) 4 0)), (8, (.ptr (b5 + 6) 4 0)), (11, (vi x3)), (57, (.buf (b8 + 4) 4 1)), (58, (vi ([((w64 at').fdiv (2 ^ 1)), m, (w64 (m + 1)), 0].length : Int))), (59, (vi s1)), (89, (vb false))] ∧ Has σ (b13 + 19) (b13 + 28) [.sl (.buf (b8 + 4) 4 1) 3 1 ([((w64 at').fdiv (2 ^ 1)), m, (w64 (m + 1)), 0].map (cI .i64)) true, .blk (b5 + 6) 25 (vF x2.1), .blk (b1 + 0) 25 (vF f)]) V ?_ ?_
         ·refine .split V V ?_ ?_ <;> intro hc11
          ·skip
           refine .wt V V (.mv (vi x5.2) V V (.wt V V (.it x5.2 0 (.bool (x5.2 != 0)) V V V V V (.wt V V (.ZY (v := (vb (x5.2 != 0))) V V V (.nil ?_)))))); exact ⟨⟨Z0s hc11, V, V, V, V, V, V, V, V, U⟩, H.wk (by omega)⟩
          ·skip
           refine .pass V V V (.pass V V V (.wt V V (.Za (v := (vb false)) V V V (.nil ?_)))); exact ⟨⟨Z0r hc11, V, V, V, V, V, V, V, V, U⟩, H.wk (by omega)⟩
         ·rintro e σ ⟨he, H⟩; obtain ⟨e, rfl⟩ := he.ex; refine .wt V V (.mv (vb ((x4.2 == 0) && (x5.2 != 0))) V V ?_); refine .mid 3 (K1 := fun e σ => Z5 e [(99, (vb (((x4.2 == 0) && (x5.2 != 0)) && (decide (x3 ≥ (-1099511627776)))))), (1, (vi m)), (3, (.ptr (b1 + 0) 4 0)), (8, (.ptr (b5 + 6) 4 0)), (11, (vi x3)), (57, (.buf (b8 + 4) 4 1)), (58, (vi ([((w64 at').fdiv (2 ^ 1)), m, (w64 (m + 1)), 0].length : Int))), (59, (vi s1)), (89, (vb false))] ∧ Has σ (b13 + 23) (b13 + 28) [.sl (.buf (b8 + 4) 4 1) 3 1 ([((w64 at').fdiv (2 ^ 1)), m, (w64 (m + 1)), 0].map (cI .i64)) true, .blk (b5 + 6) 25 (vF x2.1), .blk (b1 + 0) 25 (vF f)]) V ?_ ?_
          ·refine .split V V ?_ ?_ <;> intro hc12
           ·skip
            refine .wt V V (.mv (vi x3) V V (.wt V V (.it x3 (-1099511627776) (.bool (decide (x3 ≥ (-1099511627776)))) V V V V V (.wt V V (.ZY (v := (vb (decide (x3 ≥ (-1099511627776))))) V V V (.nil ?_)))))); exact ⟨⟨Z0s hc12, V, V, V, V, V, V, V, V, U⟩, H.wk (by omega)⟩
           ·skip
            refine .pass V V V (.pass V V V (.wt V V (.Za (v := (vb false)) V V V (.nil ?_)))); exact ⟨⟨Z0r hc12, V, V, V, V, V, V, V, V, U⟩, H.wk (by omega)⟩
          ·rintro e σ ⟨he, H⟩; obtain ⟨e, rfl⟩ := he.ex; refine .wt V V (.mv (vb (((x4.2 == 0) && (x5.2 != 0)) && (decide (x3 ≥ (-1099511627776))))) V V ?_); refine .mid 3 (K1 := fun e σ => Z5 e [(103, (vb ((((x4.2 == 0) && (x5.2 != 0)) && (decide (x3 ≥ (-1099511627776)))) && (decide (x3 ≤ 1099511627776))))), (1, (vi m)), (3, (.ptr (b1 + 0) 4 0)), (8, (.ptr (b5 + 6) 4 0)), (57, (.buf (b8 + 4) 4 1)), (58, (vi ([((w64 at').fdiv (2 ^ 1)), m, (w64 (m + 1)), 0].length : Int))), (59, (vi s1)), (89, (vb false))] ∧ Has σ (b13 + 27) (b13 + 28) [.sl (.buf (b8 + 4) 4 1) 3 1 ([((w64 at').fdiv (2 ^ 1)), m, (w64 (m + 1)), 0].map (cI .i64)) true, .blk (b5 + 6) 25 (vF x2.1), .blk (b1 + 0) 25 (vF f)]) V ?_ ?_
           ·refine .split V V ?_ ?_ <;> intro hc13
            ·skip
             refine .wt V V (.mv (vi x3) V V (.wt V V (.it x3 1099511627776 (.bool (decide (x3 ≤ 1099511627776))) V V V V V (.wt V V (.ZY (v := (vb (decide (x3 ≤ 1099511627776)))) V V V (.nil ?_)))))); exact ⟨⟨Z0s hc13, V, V, V, V, V, V, V, U⟩, H.wk (by omega)⟩
            ·skip
             refine .pass V V V (.pass V V V (.wt V V (.Za (v := (vb false)) V V V (.nil ?_)))); exact ⟨⟨Z0r hc13, V, V, V, V, V, V, V, U⟩, H.wk (by omega)⟩
           ·rintro e σ ⟨he, H⟩; obtain ⟨e, rfl⟩ := he.ex; refine .Za (v := (vb ((((x4.2 == 0) && (x5.2 != 0)) && (decide (x3 ≥ (-1099511627776)))) && (decide (x3 ≤ 1099511627776))))) V V V (.nil ?_); exact ⟨⟨or_F hc10, V, V, V, V, V, V, U⟩, H.wk (by omega)⟩
       ·rintro e σ ⟨he, H⟩; obtain ⟨e, rfl⟩ := he.ex; refine .nila H fun H => ?_; refine .whether (v := (y2 || ((((x4.2 == 0) && (x5.2 != 0)) && (decide (x3 ≥ (-1099511627776)))) && (decide (x3 ≤ 1099511627776))))) rfl ?_ ?_ <;> intro hc14
        ·replace h := Z8 hc14 h; refine .then (.Z0 1 V H fun b14 σ H => (.av (vb false) V V (.nila H fun H => (.ret ?_)))); obtain rfl := sj h; exact ⟨nofun, (.inr ⟨_, V, V, (Ends.H (xs := [(vb false)]) (.inr V) H (.tmp (v := (vb false)) V .nil) (.one (.c (.v _))))⟩)⟩
        ·replace h := Z7 hc14 h; refine .skip (.Z0 2 V H fun b15 σ H => (.it s1 1 (.int .i64 (w64 (s1 + 1))) V V V V V (.mv (vi (w64 (s1 + 1))) V V (.nila H fun H => ?_)))); obtain rfl := sj h; exact ⟨V, ⟨V, V, V, V, V, V, U⟩, H⟩
    ·replace h := Z7 hc7 h; refine .exit ?_; obtain rfl := sj h; exact ⟨nofun, (.inl ⟨_, V, V, ⟨V, V, V, U⟩, (H.erase 0)⟩)⟩
   ·rintro x e σ (⟨a2, rfl, rfl, he, H⟩ | ⟨r', rfl, rfl, hE⟩)
    ·skip
     replace h := jgo h; obtain ⟨e, rfl⟩ := he.ex; refine .then (.Z0 10 V H fun b16 σ H => (.Zc (cs := (vF x2.1)) H 0 V V V V V V V nofun V (.mv (vi m) V V (.neg (m := m) V V ?_)))); obtain ⟨x7, q7, h⟩ := bind_some h; refine .call (ys := [(.agg (vF x2.1)), (vi (w64 (0 - m)))]) (r := (.tup [(.agg (vF x7.1)), (vi x7.2)])) V (Z3k q7) V (.mv (.tup [(.agg (vF x7.1)), (vi x7.2)]) V V (.xt (.agg (vF x7.1)) V V V (.xt (vi x7.2) V V V (.Z02 (cs := [(vi 0), (vi 0), .nils, .nils]) H (by omega) (by omega) V V fun σ H => (.ZV (cells' := (vF x7.1)) H 0 V V V V V V V V V nofun fun σ H => (.av (vi x7.2) V V (.nila H fun H => (.then ?_)))))))); refine .Z20 16 V (by kernel_rfl) H fun b17 σ H B17 => (.Zc (cs := (vF x2.1)) H 1 V V V V V V V (fun _ => .inl ⟨B17 1 _ V _ V, nofun, (fun _ => by kernel_rfl)⟩) V ?_); obtain ⟨x8, q8, h⟩ := bind_some h; refine .call (ys := [(.agg (vF x2.1))]) (r := (vb x8)) V (canon_Is_fn q8) V (.mv (vb x8) V V ?_); obtain ⟨y3, hj3, h⟩ := bind_some h; refine .mid 9 (K1 := fun e σ => Z5 e [(124, (vb y3))] ∧ Has σ (b17 + 12) (b17 + 16) []) V ?_ ?_
     ·refine .split V V ?_ ?_ <;> intro hc15
      ·replace h := Z8 hc15 hj3; refine .wt V V (.mv (vi x7.2) V V (.wt V V (.it x7.2 0 (.bool (x7.2 != 0)) V V V V V (.wt V V (.mv (vb (x7.2 != 0)) V V ?_))))); obtain ⟨y4, hj4, h⟩ := bind_some h; refine .mid 5 (K1 := fun e σ => Z5 e [(123, (vb y4)), (115, (vb true))] ∧ Has σ (b17 + 11) (b17 + 16) []) V ?_ ?_
       ·refine .split V V ?_ ?_ <;> intro hc16
        ·replace h := Z8 hc16 hj4; refine .pass V V V (.pass V V V (.pass V V V (.pass V V V (.wt V V (.ZY (v := (vb true)) V V V (.nil ?_)))))); obtain rfl := sj h; exact ⟨⟨V, V, U⟩, (((H.erase 2).erase 1).erase 0).wk (by omega)⟩
        ·replace h := Z7 hc16 hj4; refine .wt V V (.Zc (cs := (vF x7.1)) H 0 V V V V V V V (fun _ => .inl ⟨B17 0 _ V _ V, nofun, (fun _ => by kernel_rfl)⟩) V (.wt V V (.Zc (cs := (vF f)) H 2 V V V V V V V (fun _ => .inl ⟨B17 2 _ V _ V, nofun, (fun _ => by kernel_rfl)⟩) V (.wt V V ?_)))); obtain ⟨x9, q9, h⟩ := bind_some h; refine .call (ys := [(.agg (vF f))]) (r := (.agg (vF x9))) V (Z4i q9) V (.wt V V ?_); obtain ⟨x10, q10, h⟩ := bind_some h; refine .call (ys := [(.agg (vF x7.1)), (.agg (vF x9))]) (r := (vb x10)) V (Z5G q10) V (.wt V V (.Za (v := (vb x10)) V V V (.nil ?_))); obtain rfl := sj h; exact ⟨⟨V, V, U⟩, (((H.erase 2).erase 1).erase 0).wk (by omega)⟩
       ·rintro e σ ⟨he, H⟩; obtain ⟨e, rfl⟩ := he.ex; refine .ZY (v := (vb y4)) V V V (.nil ?_); obtain rfl := sj h; exact ⟨⟨V, U⟩, H.wk (by omega)⟩
      ·replace h := Z7 hc15 hj3; refine .pass V V V (.pass V V V (.pass V V V (.Z0j V V V (.Z0j V V V (.Z0j V V V (.Z0j V V V (.pass V V V (.Za (v := (vb false)) V V V ?_)))))))); refine .nil ?_; obtain rfl := sj h; exact ⟨⟨V, U⟩, (((H.erase 2).erase 1).erase 0).wk (by omega)⟩
     ·rintro e σ ⟨he, H⟩; obtain ⟨e, rfl⟩ := he.ex; refine .mv (vb y3) V V ?_; refine .mid 2 (K1 := fun e σ => Z5 e [(127, (vb (y3 && ZS)))] ∧ Has σ (b17 + 15) (b17 + 16) []) V ?_ ?_
      ·refine .split V V ?_ ?_ <;> intro hc17
       ·skip
        refine .wt V V (.call (ys := []) (r := (vb ZS)) V (Z2X V) V (.ZY (v := (vb ZS)) V V V (.nil ?_))); exact ⟨⟨Z0s hc17, U⟩, H.wk (by omega)⟩
       ·skip
        refine .pass V V V (.Za (v := (vb false)) V V V (.nil ?_)); exact ⟨⟨Z0r hc17, U⟩, H.wk (by omega)⟩
      ·rintro e σ ⟨he, H⟩; obtain ⟨e, rfl⟩ := he.ex; refine .av (vb (y3 && ZS)) V V (.nila H fun H => (.ret ?_)); obtain rfl := sj h; exact (Ends.H (xs := [(vb (y3 && ZS))]) (.inr V) H (.tmp (v := (vb (y3 && ZS))) V .nil) (.one (.c (.v _))))
    ·skip
     replace h := jret h; obtain rfl := sj h; exact hE
end Go.Dn

namespace Go.Dn
open Go
theorem Z1z {S R : Type} {step : S → Option (S ⊕ R)} (I : S → Prop) (m : S → Nat) (post : R → Prop)
  (h : ∀ s, I s → (∃ s', step s = some (.inl s') ∧ I s' ∧ m s' < m s) ∨ (∃ r, step s = some (.inr r) ∧ post r)) : ∀ s, I s → ∃ r, ZN step s = some r ∧ post r := by
 have key : ∀ n s, m s = n → I s → ∃ r, ZN step s = some r ∧ post r := by
  intro n
  induction n using Nat.strongRecOn with
  | _ n ih =>
   intro s hm hI
   rcases h s hI with ⟨s', h1, h2, h3⟩ | ⟨r, h1, h2⟩
   ·obtain ⟨r, q1, q2⟩ := ih (m s') (by omega) s' rfl h2
    exact ⟨r, by rw [loopO_eq, h1]; exact q1, q2⟩
   ·exact ⟨r, by rw [loopO_eq, h1], h2⟩
 exact fun s hI => key _ s rfl hI
theorem Z1y {S R : Type} {step : S → Option (S ⊕ R)} (I : S → R → Prop) (m : S → Nat)
  (h : ∀ s r, I s r → (∃ s', step s = some (.inl s') ∧ I s' r ∧ m s' < m s) ∨ step s = some (.inr r)) {s : S} {r : R} (hI : I s r) : ZN step s = some r := by
 obtain ⟨r', h1, h2⟩ := Z1z (I := fun s => I s r) m (fun r' => r' = r) (fun s hs => by
  rcases h s r hs with ⟨s', h1, h2, h3⟩ | h1
  ·exact .inl ⟨s', h1, h2, h3⟩
  ·exact .inr ⟨r, h1, rfl⟩) s hI
 rw [h1, h2]
theorem Z4u (a : Int) : IntKind.i64.wrap a = (a + 9223372036854775808) % 18446744073709551616 - 9223372036854775808 := by
 simp [IntKind.wrap, IntKind.bits, IntKind.signed]
 split <;> omega
theorem Z60 (a : Int) : IntKind.u64.wrap a = a % 18446744073709551616 := by
 simp [IntKind.wrap, IntKind.bits, IntKind.signed]
theorem Zm {x : Int} (h : -9223372036854775808 ≤ x ∧ x ≤ 9223372036854775807) : w64 x = x := by
 unfold w64; rw [Z4u]; omega
theorem Z87 : maxLen = 9223372036854775807 := rfl
theorem Z5L : room = 140737488355328 := rfl
theorem at?_lt {α : Type} {l : List α} {i : Int} (h0 : 0 ≤ i) (h : i < l.length) : at? l i = some (l[i.toNat]'(by omega)) := by
 unfold at?; rw [if_pos h0, List.getElem?_eq_getElem]
theorem at?_nat {α : Type} {l : List α} {k : Nat} (h : k < l.length) : at? l (k : Int) = some l[k] := by
 rw [at?_lt (by omega) (by omega)]; rfl
theorem app?_ok {α : Type} {b : Nat} {l m : List α} (h : (l.length + m.length) * b ≤ room) : app? b l m = some (l ++ m) := if_pos h
theorem nz?_ok {b : Int} (h : b ≠ 0) : nz? b = some () := if_neg h
theorem beq_t {a b : Int} (h : a = b) : (a == b) = true := by simp [h]
theorem Z5x {a b : Int} (h : a ≠ b) : (a == b) = false := by simp [h]
theorem bne_t {a b : Int} (h : a ≠ b) : (a != b) = true := by simp [h]
theorem Z5Y {a b : Int} (h : a = b) : (a != b) = false := by simp [h]
theorem ibeq (a b : Int) : (a == b) = decide (a = b) := by by_cases h : a = b <;> simp [h]
theorem Zz {p : Prop} [Decidable p] (h : p) : decide p = true := by simp [h]
theorem Z0D {p : Prop} [Decidable p] (h : ¬ p) : decide p = false := by simp [h]
theorem pickB {α : Type} (c : Bool) (a b : α) : (bif c then a else b) = if c = true then a else b := by cases c <;> rfl
theorem Z8D {α : Type} {l : List α} {good : Nat → α → Prop} (h : ¬ ∀ k x, l[k]? = some x → good k x) : ∃ (k : Nat) (x : α), l[k]? = some x ∧ ¬ good k x ∧ ∀ j y, j < k → l[j]? = some y → good j y := by
 have hex : ∃ k : Nat, ∃ x, l[k]? = some x ∧ ¬ good k x := by
  apply Classical.byContradiction;intro hn;exact h fun k x hk => Classical.byContradiction fun hg => hn ⟨k, x, hk, hg⟩
 obtain ⟨k, hk⟩ := hex
 induction k using Nat.strongRecOn with
 | _ k ih =>
  by_cases h : ∃ j, j < k ∧ ∃ x, l[j]? = some x ∧ ¬ good j x
  ·obtain ⟨j, hj, hx⟩ := h
   exact ih j hj hx
  ·obtain ⟨x, hx, hb⟩ := hk
   exact ⟨k, x, hx, hb, fun j y hj hy => Classical.byContradiction fun hg => h ⟨j, hj, y, hy, hg⟩⟩
theorem Z3e {α R : Type} {l : List α} {step : Int → Option (Int ⊕ R)} (good : Nat → α → Prop) {no yes : R}
  (hstep : ∀ (k : Nat) (x : α), l[k]? = some x → (∀ j y, j < k → l[j]? = some y → good j y) → (step (k : Int) = some (.inl ((k : Int) + 1)) ∧ good k x) ∨ (step (k : Int) = some (.inr no) ∧ ¬ good k x))
  (hend : step (l.length : Int) = some (.inr yes)) : (ZN step 0 = some yes ∧ ∀ k x, l[k]? = some x → good k x) ∨ (ZN step 0 = some no ∧ ¬ ∀ k x, l[k]? = some x → good k x) := by
 by_cases hall : ∀ k x, l[k]? = some x → good k x
 ·refine .inl ⟨?_, hall⟩;refine Z1y (I := fun (s : Int) r => r = yes ∧ ∃ k : Nat, s = k ∧ k ≤ l.length) (fun s => (l.length - s.toNat)) ?_ ⟨rfl, 0, rfl, Nat.zero_le _⟩
  rintro s r ⟨rfl, k, rfl, hk⟩
  by_cases hlt : k < l.length
  ·rcases hstep k l[k] (List.getElem?_eq_getElem hlt) (fun j y _ hy => hall j y hy) with ⟨h1, _⟩ | ⟨_, h2⟩
   ·exact .inl ⟨_, h1, ⟨rfl, k + 1, by push_cast; rfl, hlt⟩, by simp; omega⟩
   ·exact absurd (hall k _ (List.getElem?_eq_getElem hlt)) h2
  ·have : k = l.length := by omega
   subst this;exact .inr hend
 ·refine .inr ⟨?_, hall⟩;obtain ⟨k0, x0, hx0, hb0, hgood⟩ := Z8D hall
  have hlt0 := (List.getElem?_eq_some_iff.1 hx0).1
  refine Z1y (I := fun (s : Int) r => r = no ∧ ∃ k : Nat, s = k ∧ k ≤ k0) (fun s => (l.length - s.toNat)) ?_ ⟨rfl, 0, rfl, Nat.zero_le _⟩
  rintro s r ⟨rfl, k, rfl, hk⟩
  by_cases hlt : k < k0
  ·have hkl : k < l.length := by omega
   rcases hstep k l[k] (List.getElem?_eq_getElem hkl) (fun j y hj hy => hgood j y (by omega) hy) with ⟨h1, _⟩ | ⟨_, h2⟩
   ·exact .inl ⟨_, h1, ⟨rfl, k + 1, by push_cast; rfl, hlt⟩, by simp; omega⟩
   ·exact absurd (hgood k _ hlt (List.getElem?_eq_getElem hkl)) h2
  ·have : k = k0 := by omega
   subst this
   rcases hstep k x0 hx0 hgood with ⟨_, h2⟩ | ⟨h1, _⟩
   ·exact absurd h2 hb0
   ·exact .inr h1
theorem fold_loop {α A R : Type} {l : List α} {step : A × Int → Option ((A × Int) ⊕ R)} (f : A → Nat → α → A) (fin : A → R) (I : Nat → A → Prop) {a0 : A} (h0 : I 0 a0)
  (hgo : ∀ (k : Nat) (x : α) (a : A), l[k]? = some x → I k a → step (a, (k : Int)) = some (.inl (f a k x, (k : Int) + 1)) ∧ I (k + 1) (f a k x))
  (hend : ∀ a, I l.length a → step (a, (l.length : Int)) = some (.inr (fin a))) : ∃ a, ZN step (a0, 0) = some (fin a) ∧ I l.length a := by
 obtain ⟨r, h1, a, rfl, h2⟩ := Z1z (step := step) (I := fun s => ∃ (k : Nat) (a : A), s = (a, (k : Int)) ∧ k ≤ l.length ∧ I k a) (fun s => l.length - s.2.toNat) (fun r => ∃ a, r = fin a ∧ I l.length a) (by
  rintro s ⟨k, a, rfl, hk, hI⟩
  by_cases hlt : k < l.length
  ·obtain ⟨q1, q2⟩ := hgo k l[k] a (List.getElem?_eq_getElem hlt) hI
   exact .inl ⟨_, q1, ⟨k + 1, _, by push_cast; rfl, hlt, q2⟩, by simp; omega⟩
  ·have : k = l.length := by omega
   subst this;exact .inr ⟨_, hend a hI, a, rfl, hI⟩) (a0, 0) ⟨0, a0, rfl, Nat.zero_le _, h0⟩
 exact ⟨a, h1, h2⟩
end Go.Dn

namespace Go.Dn
open Go
def In64 (a : Int) : Prop := -9223372036854775808 ≤ a ∧ a ≤ 9223372036854775807
def Z6a (a : Int) : Prop := 0 ≤ a ∧ a ≤ 18446744073709551615
def fitS (a : Int) : Int × Int := if -9223372036854775808 ≤ a ∧ a ≤ 9223372036854775807 then (a, 0) else (0, 10)
theorem fitS_of {a : Int} (h : In64 a) : fitS a = (a, 0) := if_pos h
theorem fitS_not {a : Int} (h : ¬ In64 a) : fitS a = (0, 10) := if_neg h
theorem fit_or (x : Int) : (In64 x ∧ fitS x = (x, 0)) ∨ (¬ In64 x ∧ fitS x = (0, 10)) := by
 by_cases h : In64 x
 ·exact .inl ⟨h, fitS_of h⟩
 ·exact .inr ⟨h, fitS_not h⟩
theorem and32 (x : Int) (h : Z6a x) : (((BitVec.ofInt 64 x &&& BitVec.ofInt 64 4294967295).toNat : Nat) : Int) = x % 4294967296 := by
 obtain ⟨n, rfl⟩ := Int.eq_ofNat_of_zero_le h.1
 have hn : n < 2 ^ 64 := by have := h.2; omega
 have h1 : (BitVec.ofInt 64 (n : Int)).toNat = n := by simp [BitVec.toNat_ofInt]; omega
 have h2 : (BitVec.ofInt 64 4294967295).toNat = 2 ^ 32 - 1 := by decide
 rw [BitVec.toNat_and, h1, h2, Nat.and_two_pow_sub_one_eq_mod]
 omega
theorem mul64_fact {x y : Int} (hx : Z6a x) (hy : Z6a y) :
  (x / 4294967296 * (y / 4294967296) + (x / 4294967296 * (y % 4294967296) + x % 4294967296 * (y % 4294967296) / 4294967296) / 4294967296 +
   ((x / 4294967296 * (y % 4294967296) + x % 4294967296 * (y % 4294967296) / 4294967296) % 4294967296 + x % 4294967296 * (y / 4294967296)) / 4294967296) = x * y / 18446744073709551616 ∧
  0 ≤ x % 4294967296 * (y % 4294967296) ∧ x % 4294967296 * (y % 4294967296) ≤ 18446744065119617025 ∧
  0 ≤ x / 4294967296 * (y % 4294967296) ∧ x / 4294967296 * (y % 4294967296) ≤ 18446744065119617025 ∧
  0 ≤ x % 4294967296 * (y / 4294967296) ∧ x % 4294967296 * (y / 4294967296) ≤ 18446744065119617025 ∧
  0 ≤ x / 4294967296 * (y / 4294967296) ∧ x / 4294967296 * (y / 4294967296) ≤ 18446744065119617025 := by
 have b : ∀ {u v : Int}, 0 ≤ u → u ≤ 4294967295 → 0 ≤ v → v ≤ 4294967295 → 0 ≤ u * v ∧ u * v ≤ 18446744065119617025 := by
  intro u v h1 h2 h3 h4;exact ⟨Int.mul_nonneg h1 h3, Int.le_trans (Int.mul_le_mul h2 h4 h3 (by omega)) (by decide)⟩
 obtain ⟨hx1, hx2⟩ := hx
 obtain ⟨hy1, hy2⟩ := hy
 obtain ⟨a1, a2⟩ := b (u := x % 4294967296) (v := y % 4294967296) (by omega) (by omega) (by omega) (by omega)
 obtain ⟨b1, b2⟩ := b (u := x / 4294967296) (v := y % 4294967296) (by omega) (by omega) (by omega) (by omega)
 obtain ⟨c1, c2⟩ := b (u := x % 4294967296) (v := y / 4294967296) (by omega) (by omega) (by omega) (by omega)
 obtain ⟨d1, d2⟩ := b (u := x / 4294967296) (v := y / 4294967296) (by omega) (by omega) (by omega) (by omega)
 refine ⟨?_, a1, a2, b1, b2, c1, c2, d1, d2⟩
 have e : x * y = x / 4294967296 * (y / 4294967296) * 18446744073709551616 + (x / 4294967296 * (y % 4294967296) + x % 4294967296 * (y / 4294967296)) * 4294967296 + x % 4294967296 * (y % 4294967296) := by
  have ex : x = x / 4294967296 * 4294967296 + x % 4294967296 := by omega
  have ey : y = y / 4294967296 * 4294967296 + y % 4294967296 := by omega
  clear a1 a2 b1 b2 c1 c2 d1 d2 b hx1 hx2 hy1 hy2
  generalize x / 4294967296 = x1 at *
  generalize x % 4294967296 = x0 at *
  generalize y / 4294967296 = y1 at *
  generalize y % 4294967296 = y0 at *
  subst ex ey;simp only [Int.add_mul, Int.mul_add];have h1 : x1 * 4294967296 * (y1 * 4294967296) = x1 * y1 * 18446744073709551616 := by
   rw [Int.mul_assoc, Int.mul_comm 4294967296, Int.mul_assoc y1, ← Int.mul_assoc]
   rfl
  have h2 : x1 * 4294967296 * y0 = x1 * y0 * 4294967296 := by rw [Int.mul_assoc, Int.mul_comm 4294967296, ← Int.mul_assoc]
  have h3 : x0 * (y1 * 4294967296) = x0 * y1 * 4294967296 := by rw [← Int.mul_assoc]
  rw [h1, h2, h3];omega
 rw [e]
 generalize x / 4294967296 * (y / 4294967296) = d at *
 generalize x / 4294967296 * (y % 4294967296) = b' at *
 generalize x % 4294967296 * (y / 4294967296) = c at *
 generalize x % 4294967296 * (y % 4294967296) = a at *
 omega
theorem Z8i {a b : Int} (ha : In64 a) (hb : In64 b) : ZC a b = fitS (a + b) := by
 unfold In64 at ha hb
 unfold ZC fitS w64
 rw [Z4u]
 cases h : ((decide ((a + b + 9223372036854775808) % 18446744073709551616 - 9223372036854775808 > a) != decide (b > 0)) && b != 0)
 ·rw [cond_false];simp only [Bool.and_eq_false_iff, bne_eq_false_iff_eq, decide_eq_decide] at h
  split <;> simp only [Prod.mk.injEq, and_true] <;> omega
 ·rw [cond_true];simp only [Bool.and_eq_true, bne_iff_ne, ne_eq, decide_eq_decide] at h
  split <;> simp only [Prod.mk.injEq] <;> omega
theorem Z7c {a : Int} (h : In64 a) : Z3 a = a.natAbs := by
 unfold In64 at h
 unfold Z3
 rw [pickB]
 simp only [decide_eq_true_eq, Z60]
 split <;> omega
theorem inU_abs {a : Int} (h : In64 a) : Z6a a.natAbs := by unfold In64 at h; unfold Z6a; omega
theorem natAbs_prod (a b : Int) : (a.natAbs : Int) * b.natAbs = (a * b).natAbs := by rw [Int.natAbs_mul]; simp
theorem mul64_eq {x y : Int} (hx : Z6a x) (hy : Z6a y) : Z4 x y = (x * y / 18446744073709551616, x * y % 18446744073709551616) := by
 unfold Z4
 have hb : ∀ z : Int, z.fdiv (2 ^ 32) = z / 4294967296 := fun z => Int.fdiv_eq_ediv_of_nonneg z (by decide)
 have hm : (IntKind.u64.bits) = 64 := rfl
 obtain ⟨h1, h2, h3, h4, h5, h6, h7, h8, h9⟩ := mul64_fact hx hy
 have hw : ∀ z : Int, 0 ≤ z → z ≤ 18446744073709551615 → IntKind.u64.wrap z = z := fun z q1 q2 => by rw [Z60]; omega
 simp only [hb, iAnd]
 rw [hm, and32 x hx, and32 y hy]
 have x0 : 0 ≤ x % 4294967296 ∧ x % 4294967296 < 4294967296 := by omega
 have y0 : 0 ≤ y % 4294967296 ∧ y % 4294967296 < 4294967296 := by omega
 rw [hw (x % 4294967296) (by omega) (by omega), hw (y % 4294967296) (by omega) (by omega), hw _ h2 (by omega), hw _ h4 (by omega), hw _ h6 (by omega), hw _ h8 (by omega)]
 rw [hw (x / 4294967296 * (y % 4294967296) + x % 4294967296 * (y % 4294967296) / 4294967296) (by omega) (by omega)]
 rw [and32 _ ⟨by omega, by omega⟩]
 have t0 : 0 ≤ (x / 4294967296 * (y % 4294967296) + x % 4294967296 * (y % 4294967296) / 4294967296) % 4294967296 ∧ (x / 4294967296 * (y % 4294967296) + x % 4294967296 * (y % 4294967296) / 4294967296) % 4294967296 < 4294967296 := by omega
 rw [hw ((x / 4294967296 * (y % 4294967296) + x % 4294967296 * (y % 4294967296) / 4294967296) % 4294967296) (by omega) (by omega)]
 rw [hw ((x / 4294967296 * (y % 4294967296) + x % 4294967296 * (y % 4294967296) / 4294967296) % 4294967296 + x % 4294967296 * (y / 4294967296)) (by omega) (by omega)]
 rw [hw (x / 4294967296 * (y / 4294967296) + (x / 4294967296 * (y % 4294967296) + x % 4294967296 * (y % 4294967296) / 4294967296) / 4294967296) (by omega) (by omega)]
 rw [hw _ (by omega) (by omega), h1, Z60]
theorem Z9R {n : Int} (m : Bool) (h : Z6a n) : Zb n m = fitS (if m then -n else n) := by
 unfold Z6a at h
 unfold Zb fitS w64
 rw [pickB, pickB, Z60, Z4u, Z4u]
 cases m <;> simp only [Bool.true_and, Bool.false_and, Bool.not_true, Bool.not_false, decide_eq_true_eq, Bool.false_eq_true, if_false, if_true]
 ·split
  ·rw [if_pos (by omega)]; simp only [Prod.mk.injEq, and_true]; omega
  ·rw [if_neg (by omega)]
 ·split
  ·rw [if_pos (by omega)]; simp only [Prod.mk.injEq, and_true]; omega
  ·rw [if_neg (by omega)]
theorem Z8v {a b : Int} (ha : In64 a) (hb : In64 b) : ZB a b = fitS (a * b) := by
 unfold ZB
 rw [Z7c ha, Z7c hb, mul64_eq (inU_abs ha) (inU_abs hb), pickB]
 simp only [natAbs_prod]
 rw [Z9R _ (by unfold Z6a; omega)]
 by_cases h : ((a * b).natAbs : Int) / 18446744073709551616 = 0
 ·rw [if_neg (by simp [h])]
  have e : ((a * b).natAbs : Int) % 18446744073709551616 = (a * b).natAbs := by omega
  rw [e]
  show fitS _ = _
  refine congrArg fitS ?_
  by_cases h1 : a < 0 <;> by_cases h2 : b < 0 <;> simp only [h1, h2, decide_true, decide_false]
  ·have := Int.mul_nonneg_of_nonpos_of_nonpos (Int.le_of_lt h1) (Int.le_of_lt h2)
   simp; omega
  ·have := Int.mul_nonpos_of_nonpos_of_nonneg (Int.le_of_lt h1) (Int.not_lt.1 h2)
   simp; omega
  ·have := Int.mul_nonpos_of_nonneg_of_nonpos (Int.not_lt.1 h1) (Int.le_of_lt h2)
   simp; omega
  ·have := Int.mul_nonneg (Int.not_lt.1 h1) (Int.not_lt.1 h2)
   simp; omega
 ·rw [if_pos (by simp [h])]
  unfold fitS;rw [if_neg];omega
def Z7H (a b : Int) : Int × Int × Int := if b = 0 then (0, 0, 11) else if b = -1 ∧ a = -9223372036854775808 then (0, 0, 10) else (a.fdiv b, a.fmod b, 0)
theorem floor_up {a b : Int} (hb : b ≠ 0) (h1 : a.tmod b ≠ 0) (h2 : ¬(a.tmod b < 0 ↔ b < 0)) : a.fdiv b = a.tdiv b - 1 ∧ a.fmod b = a.tmod b + b := by
 have q1 := Int.emod_nonneg a hb
 have q2 := Int.emod_lt a hb
 have hd : b ∣ a ↔ a % b = 0 := Int.dvd_iff_emod_eq_zero
 rw [Int.fdiv_eq_ediv, Int.fmod_eq_emod, Int.tdiv_eq_ediv]
 rw [Int.tmod_eq_emod] at h1 h2 ⊢
 simp only [hd] at h1 h2 ⊢
 rcases Int.lt_or_gt_of_ne hb with h | h
 ·rw [Int.sign_eq_neg_one_of_neg h]
  split at h1 <;> split <;> simp_all <;> omega
 ·rw [Int.sign_eq_one_of_pos h]
  split at h1 <;> split <;> simp_all <;> omega
theorem floor_same {a b : Int} (hb : b ≠ 0) (h : a.tmod b = 0 ∨ (a.tmod b < 0 ↔ b < 0)) : a.fdiv b = a.tdiv b ∧ a.fmod b = a.tmod b := by
 have q1 := Int.emod_nonneg a hb
 have q2 := Int.emod_lt a hb
 have hd : b ∣ a ↔ a % b = 0 := Int.dvd_iff_emod_eq_zero
 rw [Int.fdiv_eq_ediv, Int.fmod_eq_emod, Int.tdiv_eq_ediv]
 rw [Int.tmod_eq_emod] at h ⊢
 simp only [hd] at h ⊢
 rcases Int.lt_or_gt_of_ne hb with hh | hh
 ·rw [Int.sign_eq_neg_one_of_neg hh]
  split at h <;> split <;> simp_all <;> omega
 ·rw [Int.sign_eq_one_of_pos hh]
  split at h <;> split <;> simp_all <;> omega
theorem tdiv_in {a b : Int} (ha : In64 a) (hb : b ≠ 0) (hn : ¬(b = -1 ∧ a = -9223372036854775808)) : In64 (a.tdiv b) := by
 have h : (a.tdiv b).natAbs = a.natAbs / b.natAbs := Int.natAbs_tdiv a b
 obtain ⟨h1, h2⟩ := ha
 by_cases hb1 : b = 1
 ·subst hb1; rw [Int.tdiv_one]; exact ⟨h1, h2⟩
 ·by_cases hb2 : b = -1
  ·have ha' : a ≠ -9223372036854775808 := fun e => hn ⟨hb2, e⟩
   have : a.natAbs / b.natAbs ≤ a.natAbs := Nat.div_le_self _ _
   unfold In64; omega
  ·have h3 : a.natAbs / b.natAbs ≤ a.natAbs / 2 := Nat.div_le_div_left (by omega) (by omega)
   unfold In64; omega
theorem tdiv_in1 {a b : Int} (ha : In64 a) (hb : b ≠ 0) (h1 : a.tmod b ≠ 0) : In64 (a.tdiv b - 1) := by
 have h : (a.tdiv b).natAbs = a.natAbs / b.natAbs := Int.natAbs_tdiv a b
 obtain ⟨h2, h3⟩ := ha
 by_cases hb1 : b = 1
 ·subst hb1; simp at h1
 ·by_cases hb2 : b = -1
  ·subst hb2; simp at h1
  ·have h3 : a.natAbs / b.natAbs ≤ a.natAbs / 2 := Nat.div_le_div_left (by omega) (by omega)
   unfold In64; omega
theorem wrap_in {a : Int} (h : In64 a) : IntKind.i64.wrap a = a := by rw [Z4u]; unfold In64 at h; omega
theorem fmod_in {a b : Int} (hb : In64 b) (hb0 : b ≠ 0) : In64 (a.fmod b) := by
 have q1 := Int.emod_nonneg a hb0
 have q2 := Int.emod_lt a hb0
 rw [Int.fmod_eq_emod]
 unfold In64 at *
 split <;> omega
theorem floor_leaf1 {a b : Int} (ha : In64 a) (hb : In64 b) (h0 : b ≠ 0) (hn : ¬(b = -1 ∧ a = -9223372036854775808)) (h1 : a.tmod b ≠ 0) (h2 : ¬(a.tmod b < 0 ↔ b < 0)) :
  (IntKind.i64.wrap (IntKind.i64.wrap (a.tdiv b) - 1), IntKind.i64.wrap (a.tmod b + b), (0 : Int)) = Z7H a b := by
 obtain ⟨e1, e2⟩ := floor_up h0 h1 h2
 rw [Z7H, if_neg h0, if_neg hn, e1, e2, wrap_in (tdiv_in ha h0 hn), wrap_in (tdiv_in1 ha h0 h1), wrap_in (by rw [← e2]; exact fmod_in hb h0)]
theorem floor_leaf2 {a b : Int} (ha : In64 a) (hb : In64 b) (h0 : b ≠ 0) (hn : ¬(b = -1 ∧ a = -9223372036854775808)) (h : a.tmod b = 0 ∨ (a.tmod b < 0 ↔ b < 0)) :
  (IntKind.i64.wrap (a.tdiv b), a.tmod b, (0 : Int)) = Z7H a b := by
 obtain ⟨e1, e2⟩ := floor_same h0 h
 rw [Z7H, if_neg h0, if_neg hn, e1, e2, wrap_in (tdiv_in ha h0 hn)]
theorem Z4X {a b : Int} (ha : In64 a) (hb : In64 b) : Z0l a b = some (Z7H a b) := by
 unfold Z0l
 by_cases h0 : b = 0
 ·subst h0; rfl
 rw [Z5x h0, cond_false]
 by_cases hn : b = -1 ∧ a = -9223372036854775808
 ·obtain ⟨rfl, rfl⟩ := hn
  rfl
 have : (b == -1 && a == -9223372036854775808) = false := by
  simp only [Bool.and_eq_false_iff, beq_eq_false_iff_ne]
  by_cases h : b = -1
  ·exact .inr fun e => hn ⟨h, e⟩
  ·exact .inl h
 rw [this, cond_false, nz?_ok h0]
 simp only [Option.bind_some, pickB, Bool.and_eq_true, bne_iff_ne, ne_eq, decide_eq_decide]
 split
 ·rename_i h;simp only [Option.bind_some];exact congrArg some (floor_leaf1 ha hb h0 hn h.1 h.2)
 ·rename_i h;simp only [Option.bind_some];refine congrArg some (floor_leaf2 ha hb h0 hn ?_)
  by_cases h1 : a.tmod b = 0
  ·exact .inl h1
  ·exact .inr (Classical.byContradiction fun h2 => h ⟨h1, h2⟩)
theorem Z5h {a b : Int} (hb : 0 < b) : a.fdiv b = a / b ∧ a.fmod b = a % b := ⟨Int.fdiv_eq_ediv_of_nonneg a (Int.le_of_lt hb), Int.fmod_eq_emod_of_nonneg a (Int.le_of_lt hb)⟩
theorem Z72 {a b : Int} (hb : 0 < b) : Z7H a b = (a / b, a % b, 0) := by
 unfold Z7H
 rw [if_neg (by omega), if_neg (by omega), (Z5h hb).1, (Z5h hb).2]
end Go.Dn

namespace Go.Dn
open Go
theorem Z1G : reachBytes = 140737488351232 := rfl
def ZK (t : Int) : Prop := -1099511627776 ≤ t ∧ t ≤ 1099511627776
instance (t : Int) : Decidable (ZK t) := by unfold ZK; infer_instance
theorem Z4d (t : Int) : ZX t = decide (ZK t) := by
 rw [Bool.eq_iff_iff, decide_eq_true_iff]; simp [ZX, ZK]
theorem Z5B (t : Int) : Zn t = decide (ZK t) := by
 rw [Bool.eq_iff_iff, decide_eq_true_iff]; simp [Zn, ZK]
theorem Z26 {t : Int} (h : ZK t) : In64 t := by unfold ZK at h; unfold In64; omega
structure RightL (l : List Span) : Prop where
 ok : ∀ (k : Nat) (s : Span), l[k]? = some s → ZK s.From ∧ ZK s.To ∧ s.From ≤ s.To
 gap : ∀ (k : Nat) (s t : Span), l[k]? = some s → l[k + 1]? = some t → s.To + 2 ≤ t.From
abbrev Len (l : List Span) : Prop := l.length * 16 ≤ reachBytes
abbrev Sp64 (l : List Span) : Prop := ∀ s ∈ l, In64 s.From ∧ In64 s.To
theorem Span.ok64 {s : Span} (h : s.ok) : In64 s.From ∧ In64 s.To := h
theorem okSpans {l : List Span} (h : okL 16 Span.ok l) : Len l ∧ Sp64 l := ⟨h.1, fun s hs => Span.ok64 (h.2 s hs)⟩
theorem RightL.sp64 {l : List Span} (h : RightL l) : Sp64 l := fun s hs => by
 obtain ⟨k, hk⟩ := List.getElem?_of_mem hs
 have := h.ok k s hk
 exact ⟨Z26 this.1, Z26 this.2.1⟩
def Z3g (l : List Span) (k : Nat) (s : Span) : Prop := ZK s.From ∧ ZK s.To ∧ s.From ≤ s.To ∧ ∀ p, k ≠ 0 → l[k - 1]? = some p → p.To + 2 ≤ s.From
theorem Z55 {l : List Span} : RightL l ↔ ∀ k s, l[k]? = some s → Z3g l k s := by
 constructor
 ·intro h k s hk;obtain ⟨h1, h2, h3⟩ := h.ok k s hk
  refine ⟨h1, h2, h3, fun p h0 hp => ?_⟩
  have : k - 1 + 1 = k := by omega
  exact h.gap (k - 1) p s hp (by rw [this]; exact hk)
 ·intro h;refine ⟨fun k s hk => ⟨(h k s hk).1, (h k s hk).2.1, (h k s hk).2.2.1⟩, fun k s t hs ht => (h (k + 1) t ht).2.2.2 s (by omega) (by simpa using hs)⟩
theorem Z62 {l : List Span} (hl : Len l) (h64 : Sp64 l) : ∃ b, Z07 l = some b ∧ (b = true ↔ RightL l) := by
 have hlen : l.length ≤ maxLen := by rw [Z87]; have := Z1G; unfold Len at hl; omega
 have step : ∀ (k : Nat) (s : Span), l[k]? = some s → (∀ j y, j < k → l[j]? = some y → Z3g l j y) → ∃ b, Z07.s0 l (k : Int) = (if b = true then some (.inl ((k : Int) + 1)) else some (.inr (.ret false))) ∧ (b = true ↔ Z3g l k s) := by
  intro k s hk hprev;have hlt := (List.getElem?_eq_some_iff.1 hk).1
  have hat : at? l (k : Int) = some s := by rw [at?_nat hlt]; rw [List.getElem?_eq_getElem hlt] at hk; exact hk
  unfold Z07.s0;rw [Zz (show (k : Int) < l.length by omega), cond_true, hat]
  simp only [Option.bind_some, Z4d];have hk1 : w64 ((k : Int) + 1) = k + 1 := Zm (by rw [Z87] at hlen; omega)
  by_cases h1 : ZK s.From ∧ ZK s.To ∧ s.From ≤ s.To
  ·have : (!decide (ZK s.From) || !decide (ZK s.To) || decide (s.From > s.To)) = false := by
    rw [Zz h1.1, Zz h1.2.1, Z0D (by omega)]; rfl
   rw [this, cond_false]
   by_cases h0 : k = 0
   ·subst h0;refine ⟨true, by simp [w64]; rw [Z4u]; rfl, by simp [Z3g, h1]⟩
   ·have hk0 : (k : Int) > 0 := by omega
    have hpl : k - 1 < l.length := by omega
    have hp : at? l (w64 ((k : Int) - 1)) = some l[k - 1] := by
     rw [Zm (by rw [Z87] at hlen; omega), show ((k : Int) - 1) = ((k - 1 : Nat) : Int) by omega, at?_nat hpl]
    have hpg := hprev (k - 1) _ (by omega) (List.getElem?_eq_getElem hpl)
    have hpt : w64 (l[k - 1].To + 2) = l[k - 1].To + 2 := by
     have := hpg.2.1; unfold ZK at this; exact Zm (by omega)
    rw [Zz hk0, cond_true, hp];simp only [Option.bind_some, hpt];refine ⟨!decide (s.From < l[k - 1].To + 2), ?_, ?_⟩
    ·cases hd : decide (s.From < l[k - 1].To + 2) <;> simp [hk1]
    ·simp only [Bool.not_eq_true', decide_eq_false_iff_not, Z3g]
     constructor
     ·intro h; refine ⟨h1.1, h1.2.1, h1.2.2, fun p _ hp' => ?_⟩
      rw [List.getElem?_eq_getElem hpl] at hp'; cases hp'; omega
     ·intro h; have := h.2.2.2 _ h0 (List.getElem?_eq_getElem hpl); omega
  ·refine ⟨false, ?_, by simp only [Bool.false_eq_true, Z3g, false_iff]; intro h; exact h1 ⟨h.1, h.2.1, h.2.2.1⟩⟩
   have : (!decide (ZK s.From) || !decide (ZK s.To) || decide (s.From > s.To)) = true := by
    by_cases a1 : ZK s.From
    ·by_cases a2 : ZK s.To
     ·have a3 : s.From > s.To := by
       apply Classical.byContradiction;intro h;exact h1 ⟨a1, a2, by omega⟩
      rw [Zz a3]; simp
     ·rw [Z0D a2]; simp
    ·rw [Z0D a1]; simp
   rw [this]; rfl
 unfold Z07
 rcases Z3e (l := l) (step := Z07.s0 l) (Z3g l) (no := .ret false) (yes := .go ()) (fun k x hk hp => by
   obtain ⟨b, h1, h2⟩ := step k x hk hp
   cases b
   ·exact .inr ⟨h1, fun h => by have := h2.2 h; cases this⟩
   ·exact .inl ⟨h1, h2.1 rfl⟩) (by
   unfold Z07.s0; rw [Z0D (by omega)]; rfl) with ⟨h1, h2⟩ | ⟨h1, h2⟩
 ·rw [h1]; exact ⟨true, rfl, by simp [Z55.2 h2]⟩
 ·rw [h1]; exact ⟨false, rfl, by simp only [Bool.false_eq_true, false_iff]; exact fun h => h2 (Z55.1 h)⟩
def Zy (by_ : Int) (s : Span) : Span := ⟨s.From + by_, s.To + by_⟩
theorem Z4a {l : List Span} {b : Int} (hl : Len l) (h64 : Sp64 l) (hb : In64 b) :
  ((∀ s ∈ l, ZK (s.From + b) ∧ ZK (s.To + b)) ∧ Z0A l b = some (l.map (Zy b), 0)) ∨ ((¬ ∀ s ∈ l, ZK (s.From + b) ∧ ZK (s.To + b)) ∧ Z0A l b = some ([], 20)) := by
 have hlen : (l.length : Int) < 9223372036854775807 := by have := Z1G; unfold Len at hl; omega
 have step : ∀ (k : Nat) (s : Span) (acc : List Span), l[k]? = some s → acc.length = k → Z0A.s0 l b ((k : Int), acc) = if ZK (s.From + b) ∧ ZK (s.To + b) then some (.inl ((k : Int) + 1, acc ++ [Zy b s])) else some (.inr (.ret ([], 20))) := by
  intro k s acc hk hacc;have hlt := (List.getElem?_eq_some_iff.1 hk).1
  have hat : at? l (k : Int) = some s := by rw [at?_nat hlt]; rw [List.getElem?_eq_getElem hlt] at hk; exact hk
  obtain ⟨f64, t64⟩ := h64 s (List.mem_of_getElem? hk)
  unfold Z0A.s0;rw [Zz (show (k : Int) < l.length by omega), cond_true, hat]
  simp only [Option.bind_some];rw [Z8i f64 hb, Z8i t64 hb, Z4d, Z4d];have hk1 : w64 ((k : Int) + 1) = k + 1 := Zm (by omega)
  have happ : ∀ x : Span, app? 16 acc [x] = some (acc ++ [x]) := fun x => app?_ok (by
   have := Z1G; have := Z5L; unfold Len at hl; simp; omega)
  rcases fit_or (s.From + b) with ⟨q1, q2⟩ | ⟨q1, q2⟩ <;> rcases fit_or (s.To + b) with ⟨q3, q4⟩ | ⟨q3, q4⟩ <;> rw [q2, q4]
  ·by_cases h : ZK (s.From + b) ∧ ZK (s.To + b)
   ·rw [if_pos h, Zz h.1, Zz h.2];simp [happ, hk1, Zy]
   ·rw [if_neg h];have : (!decide (ZK (s.From + b)) || !decide (ZK (s.To + b))) = true := by
     by_cases h1 : ZK (s.From + b)
     ·rw [Z0D (fun h2 => h ⟨h1, h2⟩)]; simp
     ·rw [Z0D h1]; simp
    simp only [bne_self_eq_false, Bool.false_or, Bool.or_assoc] at this ⊢;rw [this]; rfl
  ·rw [if_neg (fun h => q3 (Z26 h.2))]; rfl
  ·rw [if_neg (fun h => q1 (Z26 h.1))]; rfl
  ·rw [if_neg (fun h => q1 (Z26 h.1))]; rfl
 have hend : ∀ acc, Z0A.s0 l b ((l.length : Int), acc) = some (.inr (.go acc)) := fun acc => by unfold Z0A.s0; rw [Z0D (by omega)]; rfl
 unfold Z0A
 by_cases hall : ∀ s ∈ l, ZK (s.From + b) ∧ ZK (s.To + b)
 ·refine .inl ⟨hall, ?_⟩;have : ZN (Z0A.s0 l b) (0, []) = some (.go (l.map (Zy b))) := by
   refine Z1y (I := fun (s : Int × List Span) r => r = .go (l.map (Zy b)) ∧ ∃ k : Nat, k ≤ l.length ∧ s = ((k : Int), (l.take k).map (Zy b))) (fun s => l.length - s.1.toNat) ?_ ⟨rfl, 0, Nat.zero_le _, by simp⟩
   rintro s r ⟨rfl, k, hk, rfl⟩
   by_cases hlt : k < l.length
   ·refine .inl ⟨_, by rw [step k l[k] _ (List.getElem?_eq_getElem hlt) (by simp; omega), if_pos (hall _ (List.getElem_mem hlt))], ⟨rfl, k + 1, hlt, ?_⟩, by simp; omega⟩
    rw [List.take_succ_eq_append_getElem hlt, List.map_append]; push_cast; rfl
   ·have : k = l.length := by omega
    subst this;rw [List.take_length];exact .inr (hend _)
  rw [this]; rfl
 ·refine .inr ⟨hall, ?_⟩;obtain ⟨k0, s0, hk0, hb0, hg⟩ := Z8D (l := l) (good := fun _ s => ZK (s.From + b) ∧ ZK (s.To + b)) (fun h => hall fun s hs => by
   obtain ⟨k, hk⟩ := List.getElem?_of_mem hs; exact h k s hk)
  have hlt0 := (List.getElem?_eq_some_iff.1 hk0).1
  have : ZN (Z0A.s0 l b) (0, []) = some (.ret ([], 20)) := by
   refine Z1y (I := fun (s : Int × List Span) r => r = .ret ([], 20) ∧ ∃ k : Nat, k ≤ k0 ∧ s.1 = (k : Int) ∧ s.2.length = k) (fun s => l.length - s.1.toNat) ?_ ⟨rfl, 0, Nat.zero_le _, rfl, rfl⟩
   rintro ⟨i, acc⟩ r ⟨rfl, k, hk, h1, h2⟩;simp only at h1 h2;subst h1
   by_cases hlt : k < k0
   ·have hkl : k < l.length := by omega
    exact .inl ⟨_, by rw [step k l[k] _ (List.getElem?_eq_getElem hkl) h2, if_pos (hg k _ hlt (List.getElem?_eq_getElem hkl))], ⟨rfl, k + 1, hlt, by push_cast; rfl, by simp; omega⟩, by simp; omega⟩
   ·have : k = k0 := by omega
    subst this;exact .inr (by rw [step k s0 _ hk0 h2, if_neg hb0])
  rw [this]; rfl
theorem RightL.shift {l : List Span} {b : Int} (h : RightL l) (ht : ∀ s ∈ l, ZK (s.From + b) ∧ ZK (s.To + b)) : RightL (l.map (Zy b)) := by
 constructor
 ·intro k s hk;rw [List.getElem?_map, Option.map_eq_some_iff] at hk;obtain ⟨s, hk, rfl⟩ := hk
  have h1 := h.ok k s hk
  have h2 := ht s (List.mem_of_getElem? hk)
  exact ⟨h2.1, h2.2, by simp only [Zy]; omega⟩
 ·intro k s t hk hk1;rw [List.getElem?_map, Option.map_eq_some_iff] at hk hk1;obtain ⟨s, hk, rfl⟩ := hk
  obtain ⟨t, hk1, rfl⟩ := hk1
  have := h.gap k s t hk hk1
  simp only [Zy]; omega
def Z2n (a b : List Span) : Prop := ∀ x, a.getLast? = some x → ∀ y, b.head? = some y → x.To < y.From
theorem Z45 {a b : List Span} (ha : Len a) : ∃ r, Z0R a b = some r ∧ (r = true ↔ Z2n a b) := by
 unfold Z0R
 cases a with
 | nil => exact ⟨true, by simp, by simp [Z2n]⟩
 | cons x a =>
  cases b with
  | nil => exact ⟨true, by simp, by simp [Z2n]⟩
  | cons y b =>
   have hl : ((x :: a).length : Int) < 9223372036854775807 := by have := Z1G; unfold Len at ha; omega
   have e1 : (((x :: a).length : Int) == 0 || ((y :: b).length : Int) == 0) = false := by simp; omega
   have hlt : (x :: a).length - 1 < (x :: a).length := by simp
   have e2 : at? (x :: a) (w64 (((x :: a).length : Int) - 1)) = some (x :: a)[(x :: a).length - 1] := by
    rw [Zm (by simp at hl ⊢; omega), show (((x :: a).length : Int) - 1) = (((x :: a).length - 1 : Nat) : Int) by simp, at?_nat hlt]
   have e3 : at? (y :: b) 0 = some y := rfl
   rw [e1, cond_false, e2, e3];refine ⟨decide ((x :: a)[(x :: a).length - 1].To < y.From), rfl, ?_⟩;have hlast : (x :: a).getLast? = some (x :: a)[(x :: a).length - 1] := by rw [List.getLast?_eq_getElem?, List.getElem?_eq_getElem hlt]
   simp only [decide_eq_true_eq, Z2n, hlast, List.head?_cons, Option.some.injEq];exact ⟨fun h x' hx y' hy => by rw [← hx, ← hy]; exact h, fun h => h _ rfl _ rfl⟩
theorem span_beq (x y : Span) : ((x.From == y.From) && ((x.To == y.To) && true)) = decide (x = y) := by
 obtain ⟨x1, x2⟩ := x
 obtain ⟨y1, y2⟩ := y
 by_cases h1 : x1 = y1 <;> by_cases h2 : x2 = y2 <;> simp [h1, h2]
theorem Z3U {a b : List Span} (ha : Len a) : ∃ r, Z0K a b = some r ∧ (r = true ↔ a = b) := by
 have hl : (a.length : Int) < 9223372036854775807 := by have := Z1G; unfold Len at ha; omega
 unfold Z0K ZT
 by_cases hlen : a.length = b.length
 ·have e1 : ((a.length : Int) != (b.length : Int)) = false := Z5Y (by omega)
  rw [e1, cond_false]
  rcases Z3e (l := a) (step := ZT.s0 a b) (fun k x => b[k]? = some x) (no := .ret false) (yes := .go ()) (fun k x hk hp => by
   have hlt := (List.getElem?_eq_some_iff.1 hk).1
   have hat : at? a (k : Int) = some x := by rw [at?_nat hlt]; rw [List.getElem?_eq_getElem hlt] at hk; exact hk
   have hbt : at? b (k : Int) = some (b[k]'(by omega)) := at?_nat (by omega)
   unfold ZT.s0;rw [Zz (show (k : Int) < a.length by omega), cond_true, hat, hbt, Zm (show _ by omega)]
   simp only [Option.bind_some, span_beq];rw [List.getElem?_eq_getElem (show k < b.length by omega)]
   by_cases h : x = b[k]'(by omega)
   ·rw [Zz h]; exact .inl ⟨rfl, congrArg some h.symm⟩
   ·rw [Z0D h]; exact .inr ⟨rfl, fun e => h (Option.some.inj e).symm⟩) (by
   unfold ZT.s0; rw [Z0D (by omega)]; rfl) with ⟨h1, h2⟩ | ⟨h1, h2⟩
  ·rw [h1];refine ⟨true, rfl, ⟨fun _ => List.ext_getElem? fun k => ?_, fun _ => rfl⟩⟩
   by_cases hk : k < a.length
   ·rw [List.getElem?_eq_getElem hk]; exact (h2 k _ (List.getElem?_eq_getElem hk)).symm
   ·rw [List.getElem?_eq_none (by omega), List.getElem?_eq_none (by omega)]
  ·rw [h1];refine ⟨false, rfl, by simp only [Bool.false_eq_true, false_iff]; rintro rfl; exact h2 fun k x hk => hk⟩
 ·have e1 : ((a.length : Int) != (b.length : Int)) = true := bne_t (by omega)
  rw [e1, cond_true];exact ⟨false, rfl, by simp only [Bool.false_eq_true, false_iff]; rintro rfl; exact hlen rfl⟩
end Go.Dn

namespace Go.Dn
open Go
theorem Z9b (x y : Int) : Z0V x y = if x < y then -1 else if y < x then 1 else 0 := by
 unfold Z0V Zw
 simp only [bne_self_eq_false, cond_false, pickB, decide_eq_true_eq, gt_iff_lt, Bool.false_eq_true, if_false]
def Inc (l : List Granule) : Prop := ∀ (j k : Nat) (a b : Granule), j < k → l[j]? = some a → l[k]? = some b → a.Index < b.Index
theorem bsearch_eq {l : List Granule} {t : Int} (hl : l.length * 32 ≤ reachBytes) (hs : Inc l) : ∃ p : Nat, p ≤ l.length ∧ (∀ (k : Nat) (g : Granule), l[k]? = some g → (k < p ↔ g.Index < t)) ∧
  Z6 l t (fun z0 z1 => some (Z2o z0 z1)) = some ((p : Int), decide (∃ g, l[p]? = some g ∧ g.Index = t)) := by
 have hlen : (l.length : Int) < 4398046511104 * 4 := by have := Z1G; omega
 have hcmp : ∀ g i, Z2o g i = if g.Index < i then -1 else if i < g.Index then 1 else 0 := fun g i => Z9b _ _
 obtain ⟨r, h1, p, rfl, hp, hlow, hhigh⟩ := Z1z (step := Z6.s0 l t (fun z0 z1 => some (Z2o z0 z1)))
  (I := fun s => ∃ i j : Nat, s = ((i : Int), (j : Int)) ∧ i ≤ j ∧ j ≤ l.length ∧ (∀ k g, l[k]? = some g → k < i → g.Index < t) ∧ (∀ k g, l[k]? = some g → j ≤ k → t ≤ g.Index))
  (fun s => (s.2 - s.1).toNat)
  (fun r => ∃ p : Nat, r = (p : Int) ∧ p ≤ l.length ∧ (∀ k g, l[k]? = some g → k < p → g.Index < t) ∧ (∀ k g, l[k]? = some g → p ≤ k → t ≤ g.Index)) (by
  rintro s ⟨i, j, rfl, hij, hj, hlow, hhigh⟩;unfold Z6.s0
  by_cases hlt : i < j
  ·have hm : w64 ((IntKind.u64.wrap (w64 ((i : Int) + j))).fdiv (2 ^ 1)) = ((i + j) / 2 : Nat) := by
    rw [Zm (x := (i : Int) + j) (by omega), Z60, Int.fdiv_eq_ediv_of_nonneg _ (by decide), Zm (by omega)]
    omega
   have hml : (i + j) / 2 < l.length := by omega
   simp only [hm];rw [Zz (show (i : Int) < j by omega), cond_true, at?_nat hml]
   simp only [Option.bind_some, hcmp];refine .inl ?_;have hget := List.getElem?_eq_getElem hml
   by_cases hc : l[(i + j) / 2].Index < t
   ·rw [if_pos hc];refine ⟨((((i + j) / 2 + 1 : Nat) : Int), (j : Int)), ?_, ⟨(i + j) / 2 + 1, j, rfl, by omega, hj, fun k g hk hki => ?_, hhigh⟩, by simp; omega⟩
    ·rw [Zm (by omega)]; simp
    ·rcases Nat.lt_or_ge k ((i + j) / 2) with h | h
     ·have := hs k _ g _ h hk hget; omega
     ·have : k = (i + j) / 2 := by omega
      subst this; rw [hget] at hk; cases hk; exact hc
   ·rw [if_neg hc];refine ⟨((i : Int), (((i + j) / 2 : Nat) : Int)), ?_, ⟨i, (i + j) / 2, rfl, by omega, by omega, hlow, fun k g hk hki => ?_⟩, by simp; omega⟩
    ·split <;> simp
    ·rcases Nat.lt_or_ge ((i + j) / 2) k with h | h
     ·have := hs _ k _ g h hget hk; omega
     ·have : k = (i + j) / 2 := by omega
      subst this; rw [hget] at hk; cases hk; omega
  ·refine .inr ⟨(i : Int), by rw [Z0D (show ¬ (i : Int) < j by omega)]; rfl, i, rfl, by omega, hlow, fun k g hk hki => hhigh k g hk (by omega)⟩) (0, (l.length : Int)) ⟨0, l.length, rfl, Nat.zero_le _, Nat.le_refl _, fun k g _ h => by omega, fun k g hk h => by
    rw [List.getElem?_eq_none h] at hk; cases hk⟩
 refine ⟨p, hp, fun k g hk => ⟨fun h => hlow k g hk h, fun h => ?_⟩, ?_⟩
 ·rcases Nat.lt_or_ge k p with h2 | h2
  ·exact h2
  ·have := hhigh k g hk h2; omega
 ·unfold Z6;rw [h1];simp only [Option.bind_some]
  by_cases hlt : p < l.length
  ·rw [Zz (show (p : Int) < l.length by omega), cond_true, at?_nat hlt]
   simp only [Option.bind_some, hcmp, Option.some.injEq, Prod.mk.injEq, true_and];have := hhigh p _ (List.getElem?_eq_getElem hlt) (Nat.le_refl _)
   rw [List.getElem?_eq_getElem hlt]
   by_cases he : l[p].Index = t
   ·rw [if_neg (by omega), if_neg (by omega)]; simp [he]
   ·rw [if_neg (by omega), if_pos (by omega)]; simp [he]
  ·rw [Z0D (show ¬ (p : Int) < l.length by omega), cond_false]
   simp only [Option.bind_some, Option.some.injEq, Prod.mk.injEq, true_and];rw [List.getElem?_eq_none (by omega)]
   simp
structure Shape (f : Form) : Prop where
 count : f.Count = f.Core.length
 zero : f.Count = 0 ↔ f.Period = 0
 per : 0 ≤ f.Period ∧ f.Period ≤ 1099511627776
 core : ∀ l ∈ f.Core, RightL l
 odd : ∀ g ∈ f.Odd, RightL g.Ticks ∧ ZK g.Index
 inc : Inc f.Odd
structure Lim (f : Form) : Prop where
 core : f.Core.length * 24 ≤ reachBytes
 sets : ∀ l ∈ f.Core, Len l ∧ Sp64 l
 odd : f.Odd.length * 32 ≤ reachBytes
 ticks : ∀ g ∈ f.Odd, In64 g.Index ∧ Len g.Ticks ∧ Sp64 g.Ticks
 count : In64 f.Count
 period : In64 f.Period
theorem Form.lim {f : Form} (h : f.ok) : Lim f := by
 obtain ⟨h1, h2, h3, h4⟩ := h
 exact ⟨h3.1, fun l hl => okSpans (h3.2 l hl), h4.1, fun g hg => ⟨(h4.2 g hg).1, okSpans (h4.2 g hg).2⟩, h2, h1⟩
theorem Z4K {f : Form} (hl : Lim f) (hs : Inc f.Odd) (i : Int) : ∃ p : Nat, p ≤ f.Odd.length ∧ (∀ (k : Nat) (g : Granule), f.Odd[k]? = some g → (k < p ↔ g.Index < i)) ∧ Z3b f i = some ((p : Int), decide (∃ g, f.Odd[p]? = some g ∧ g.Index = i)) := by
 obtain ⟨p, h1, h2, h3⟩ := bsearch_eq (t := i) hl.odd hs
 exact ⟨p, h1, h2, by unfold Z3b; rw [h3]; rfl⟩
def Z1j (f : Form) (i : Int) : Prop := ∃ g ∈ f.Odd, g.Index = i
def Z0f (f : Form) (i : Int) : List Span := f.Core.getD (i % f.Count).toNat []
def Z3d (f : Form) (i : Int) : Int := i / f.Count * f.Period
open Classical in
noncomputable def Zd (f : Form) (i : Int) : List Span := if h : Z1j f i then h.choose.Ticks else if f.Count = 0 then [] else (Z0f f i).map (Zy (Z3d f i))
theorem Inc.uniq {l : List Granule} (h : Inc l) {a b : Granule} (ha : a ∈ l) (hb : b ∈ l) (he : a.Index = b.Index) : a = b := by
 obtain ⟨j, hj⟩ := List.getElem?_of_mem ha
 obtain ⟨k, hk⟩ := List.getElem?_of_mem hb
 rcases Nat.lt_trichotomy j k with hjk | rfl | hjk
 ·have := h j k a b hjk hj hk; omega
 ·rw [hj] at hk; cases hk; rfl
 ·have := h k j b a hjk hk hj; omega
theorem Z0d {f : Form} (hs : Inc f.Odd) {g : Granule} (hg : g ∈ f.Odd) : Zd f g.Index = g.Ticks := by
 have h : Z1j f g.Index := ⟨g, hg, rfl⟩
 unfold Zd
 rw [dif_pos h]
 rw [hs.uniq h.choose_spec.1 hg h.choose_spec.2]
theorem Z2M {f : Form} {i : Int} (h : ¬ Z1j f i) (h0 : f.Count = 0) : Zd f i = [] := by unfold Zd; rw [dif_neg h, if_pos h0]
theorem Z2E {f : Form} {i : Int} (h : ¬ Z1j f i) (h0 : f.Count ≠ 0) : Zd f i = (Z0f f i).map (Zy (Z3d f i)) := by unfold Zd; rw [dif_neg h, if_neg h0]
theorem Z7T {f : Form} (hs : Shape f) (h0 : f.Count ≠ 0) : 0 < f.Count := by have := hs.count; omega
theorem Z1F {f : Form} (hs : Shape f) (h0 : f.Count ≠ 0) (i : Int) : at? f.Core (i % f.Count) = some (Z0f f i) ∧ Z0f f i ∈ f.Core := by
 have hp := Z7T hs h0
 have h1 := Int.emod_nonneg i h0
 have h2 := Int.emod_lt_of_pos i hp
 have h3 : (i % f.Count).toNat < f.Core.length := by have := hs.count; omega
 unfold Z0f
 rw [at?_lt h1 (by have := hs.count; omega), List.getD_eq_getElem?_getD, List.getElem?_eq_getElem h3]
 exact ⟨rfl, List.getElem_mem h3⟩
theorem Z6S {f : Form} (hl : Lim f) (hs : Shape f) {g : Granule} (hg : g ∈ f.Odd) : Z1x f g.Index = some (g.Ticks, 0, 0) := by
 obtain ⟨p, h1, h2, h3⟩ := Z4K hl hs.inc g.Index
 obtain ⟨k, hk⟩ := List.getElem?_of_mem hg
 have hkl := (List.getElem?_eq_some_iff.1 hk).1
 have hpk : p ≤ k := by
  rcases Nat.lt_or_ge k p with h | h
  ·have := (h2 k g hk).1 h; omega
  ·exact h
 have hpl : p < f.Odd.length := by omega
 have hpg := h2 p _ (List.getElem?_eq_getElem hpl)
 have : p = k := by
  rcases Nat.lt_or_ge p k with h | h
  ·have := hs.inc p k _ g h (List.getElem?_eq_getElem hpl) hk
   exact absurd (hpg.2 this) (Nat.lt_irrefl _)
  ·omega
 subst this
 unfold Z1x
 rw [h3]
 simp only [Option.bind_some]
 rw [Zz ⟨g, hk, rfl⟩, cond_true, at?_nat hpl]
 rw [List.getElem?_eq_getElem hpl] at hk
 cases hk; rfl
theorem Z64 {f : Form} (hl : Lim f) (hs : Shape f) {i : Int} (hi : In64 i) (ho : ¬ Z1j f i) : Z1x f i = if f.Count = 0 then some ([], 0, 0) else some (Z0f f i, (fitS (Z3d f i)).1, (fitS (Z3d f i)).2) := by
 obtain ⟨p, h1, h2, h3⟩ := Z4K hl hs.inc i
 unfold Z1x
 rw [h3]
 simp only [Option.bind_some]
 rw [Z0D (by rintro ⟨g, hg, he⟩; exact ho ⟨g, List.mem_of_getElem? hg, he⟩), cond_false]
 by_cases h0 : f.Count = 0
 ·rw [beq_t h0, cond_true, if_pos h0]
 ·rw [Z5x h0, cond_false, if_neg h0, Z4X hi hl.count, Z72 (Z7T hs h0)];simp only [Option.bind_some];rw [(Z1F hs h0 i).1];simp only [Option.bind_some];have hq : In64 (i / f.Count) := by
   have hp := Z7T hs h0
   unfold In64 at hi ⊢
   constructor
   ·have : -9223372036854775808 ≤ i / f.Count := by
     rw [Int.le_ediv_iff_mul_le hp];have : (-9223372036854775808) * f.Count ≤ -9223372036854775808 := by
      have : (-9223372036854775808) * f.Count ≤ (-9223372036854775808) * 1 := Int.mul_le_mul_of_nonpos_left (by omega) (by omega)
      omega
     omega
    exact this
   ·have : i / f.Count ≤ 9223372036854775807 := by
     rcases Int.lt_or_le i 0 with h | h
     ·have : i / f.Count < 0 := Int.ediv_neg_of_neg_of_pos h hp
      omega
     ·have := Int.ediv_le_self f.Count h
      omega
    exact this
  rw [Z8v hq hl.period]
  rfl
def fits (f : Form) (i : Int) : Prop := ∀ s ∈ Zd f i, ZK s.From ∧ ZK s.To
theorem Z73 (l : List Span) : l.map (Zy 0) = l := by
 have : Zy 0 = id := by funext s; simp [Zy]
 rw [this, List.map_id]
theorem Z1h {f : Form} {i : Int} (ho : ¬ Z1j f i) (h0 : f.Count ≠ 0) : Zd f i = [] ↔ Z0f f i = [] := by rw [Z2E ho h0, List.map_eq_nil_iff]
open Classical in
theorem Z3Z {f : Form} (hl : Lim f) (hs : Shape f) {i : Int} (hi : In64 i) : Z0B f i = some (if ZK i ∧ fits f i then (Zd f i, 0) else ([], 20)) := by
 unfold Z0B
 rw [Z5B]
 by_cases ht : ZK i
 ·rw [Zz ht, Bool.not_true, cond_false]
  by_cases ho : Z1j f i
  ·obtain ⟨g, hg, rfl⟩ := ho
   have hset := Z0d hs.inc hg
   have hr := (hs.odd g hg).1
   have hf : fits f g.Index := by
    intro s hsm;rw [hset] at hsm;obtain ⟨k, hk⟩ := List.getElem?_of_mem hsm
    exact ⟨(hr.ok k s hk).1, (hr.ok k s hk).2.1⟩
   rw [Z6S hl hs hg, if_pos ⟨ht, hf⟩, hset];simp only [Option.bind_some]
   by_cases hn : g.Ticks = []
   ·rw [hn]; rfl
   ·have : ((g.Ticks.length : Int) == 0) = false := Z5x (by have := List.length_pos_iff.2 hn; omega)
    rw [this, cond_false];simp only [bne_self_eq_false, cond_false]
    rcases Z4a (b := 0) (hl.ticks g hg).2.1 hr.sp64 ⟨by decide, by decide⟩ with ⟨_, h2⟩ | ⟨h1, _⟩
    ·rw [h2, Z73]; rfl
    ·refine absurd (fun s hsm => ?_) h1
     rw [← hset] at hsm
     simpa using hf s hsm
  ·rw [Z64 hl hs hi ho]
   by_cases h0 : f.Count = 0
   ·rw [if_pos h0, if_pos ⟨ht, by intro s hsm; rw [Z2M ho h0] at hsm; cases hsm⟩, Z2M ho h0]; rfl
   ·rw [if_neg h0];simp only [Option.bind_some]
    by_cases hn : Z0f f i = []
    ·rw [if_pos ⟨ht, by intro s hsm; rw [(Z1h ho h0).2 hn] at hsm; cases hsm⟩, (Z1h ho h0).2 hn, hn]; rfl
    ·have : (((Z0f f i).length : Int) == 0) = false := Z5x (by have := List.length_pos_iff.2 hn; omega)
     rw [this, cond_false];have hmem := (Z1F hs h0 i).2
     have hr := hs.core _ hmem
     have hfe : fits f i ↔ ∀ s ∈ Z0f f i, ZK (s.From + Z3d f i) ∧ ZK (s.To + Z3d f i) := by
      unfold fits; rw [Z2E ho h0]
      constructor
      ·intro h s hsm; exact h (Zy (Z3d f i) s) (List.mem_map.2 ⟨s, hsm, rfl⟩)
      ·intro h s hsm;obtain ⟨s, hsm', rfl⟩ := List.mem_map.1 hsm
       exact h s hsm'
     rcases fit_or (Z3d f i) with ⟨q1, q2⟩ | ⟨q1, q2⟩ <;> rw [q2]
     ·simp only [bne_self_eq_false, cond_false]
      rcases Z4a (b := Z3d f i) (hl.sets _ hmem).1 hr.sp64 q1 with ⟨h1, h2⟩ | ⟨h1, h2⟩
      ·rw [h2, if_pos ⟨ht, hfe.2 h1⟩, Z2E ho h0]; rfl
      ·rw [h2, if_neg (fun h => h1 (hfe.1 h.2))]; rfl
     ·rw [if_neg]
      ·rfl
      ·rintro ⟨_, h⟩;have h := hfe.1 h
       obtain ⟨s, hsm⟩ := List.exists_mem_of_ne_nil _ hn
       have h1 := (h s hsm).1
       obtain ⟨k, hk⟩ := List.getElem?_of_mem hsm
       have h2 := (hr.ok k s hk).1
       unfold ZK at h1 h2;exact q1 (by unfold In64; omega)
 ·rw [Z0D ht, if_neg (fun h => ht h.1)]; rfl
open Classical in
theorem Z7M {f : Form} (hl : Lim f) (hs : Shape f) {i : Int} (hi : In64 i) : Z3B f i = some (decide (Zd f i ≠ [])) := by
 unfold Z3B
 by_cases ho : Z1j f i
 ·obtain ⟨g, hg, rfl⟩ := ho
  rw [Z6S hl hs hg, Z0d hs.inc hg];simp only [Option.bind_some];cases g.Ticks <;> simp
 ·rw [Z64 hl hs hi ho]
  by_cases h0 : f.Count = 0
  ·rw [if_pos h0, Z2M ho h0]; rfl
  ·rw [if_neg h0];simp only [Option.bind_some, Ne, Z1h ho h0];cases Z0f f i <;> simp
end Go.Dn

namespace Go.Dn
open Go
theorem Z1u {α : Type} {l : List α} {b : Nat} (h : l.length * (b + 1) ≤ reachBytes) : (l.length : Int) < 4611686018427387904 := by
 have := Z1G
 have : l.length ≤ l.length * (b + 1) := Nat.le_mul_of_pos_right _ (by omega)
 omega
theorem Z8J {α : Type} {l : List α} {k : Nat} {x : α} (h : l[k]? = some x) : at? l (k : Int) = some x ∧ (k : Int) < l.length := by
 have hlt := (List.getElem?_eq_some_iff.1 h).1
 rw [List.getElem?_eq_getElem hlt] at h
 exact ⟨by rw [at?_nat hlt]; exact h, by omega⟩
theorem shape_core {f : Form} (hl : Lim f) : (ZN (Zj.s0 f) 0 = some (.go ()) ∧ ∀ l ∈ f.Core, RightL l) ∨ (ZN (Zj.s0 f) 0 = some (.ret false) ∧ ¬ ∀ l ∈ f.Core, RightL l) := by
 have hlen := Z1u (b := 23) hl.core
 rcases Z3e (l := f.Core) (step := Zj.s0 f) (fun _ x => RightL x) (no := .ret false) (yes := .go ()) (fun k x hk _ => by
   obtain ⟨h1, h2⟩ := Z8J hk
   obtain ⟨b, hb, hr⟩ := Z62 (hl.sets x (List.mem_of_getElem? hk)).1 (hl.sets x (List.mem_of_getElem? hk)).2
   unfold Zj.s0;rw [Zz h2, cond_true, h1];simp only [Option.bind_some, hb, Zm (show -9223372036854775808 ≤ (k : Int) + 1 ∧ (k : Int) + 1 ≤ 9223372036854775807 by omega)]
   cases b
   ·exact .inr ⟨rfl, fun h => by have := hr.2 h; cases this⟩
   ·exact .inl ⟨rfl, hr.1 rfl⟩) (by unfold Zj.s0; rw [Z0D (by omega)]; rfl) with ⟨h1, h2⟩ | ⟨h1, h2⟩
 ·exact .inl ⟨h1, fun l hm => by obtain ⟨k, hk⟩ := List.getElem?_of_mem hm; exact h2 k l hk⟩
 ·exact .inr ⟨h1, fun h => h2 fun k x hk => h x (List.mem_of_getElem? hk)⟩
def goodOdd (f : Form) (k : Nat) (g : Granule) : Prop := RightL g.Ticks ∧ ZK g.Index ∧ ∀ p, k ≠ 0 → f.Odd[k - 1]? = some p → p.Index < g.Index
theorem shape_odd {f : Form} (hl : Lim f) : (ZN (Zj.s1 f) 0 = some (.go ()) ∧ ∀ k g, f.Odd[k]? = some g → goodOdd f k g) ∨ (ZN (Zj.s1 f) 0 = some (.ret false) ∧ ¬ ∀ k g, f.Odd[k]? = some g → goodOdd f k g) := by
 have hlen := Z1u (b := 31) hl.odd
 refine Z3e (l := f.Odd) (step := Zj.s1 f) (goodOdd f) (no := .ret false) (yes := .go ()) (fun k x hk _ => ?_) (by unfold Zj.s1; rw [Z0D (by omega)]; rfl)
 obtain ⟨h1, h2⟩ := Z8J hk
 have hx := hl.ticks x (List.mem_of_getElem? hk)
 obtain ⟨b, hb, hr⟩ := Z62 hx.2.1 hx.2.2
 unfold Zj.s1
 rw [Zz h2, cond_true, h1]
 simp only [Option.bind_some, hb, Z5B, Zm (show -9223372036854775808 ≤ (k : Int) + 1 ∧ (k : Int) + 1 ≤ 9223372036854775807 by omega)]
 by_cases hbt : b = true ∧ ZK x.Index
 ·rw [hbt.1, Zz hbt.2];simp only [Bool.not_true, Bool.or_self, cond_false]
  by_cases h0 : k = 0
  ·subst h0;exact .inl ⟨by simp, hr.1 hbt.1, hbt.2, fun p h => absurd rfl h⟩
  ·have hpl : k - 1 < f.Odd.length := by omega
   rw [Zz (show (k : Int) > 0 by omega), cond_true, Zm (by omega), show (k : Int) - 1 = ((k - 1 : Nat) : Int) by omega, at?_nat hpl]
   simp only [Option.bind_some]
   by_cases hc : x.Index ≤ f.Odd[k - 1].Index
   ·rw [Zz hc];refine .inr ⟨rfl, fun h => ?_⟩
    have := h.2.2 _ h0 (List.getElem?_eq_getElem hpl); omega
   ·rw [Z0D hc];refine .inl ⟨rfl, hr.1 hbt.1, hbt.2, fun p _ hp => ?_⟩
    rw [List.getElem?_eq_getElem hpl] at hp; cases hp; omega
 ·have : (!b || !decide (ZK x.Index)) = true := by
   cases b
   ·rfl
   ·rw [Z0D (fun h => hbt ⟨rfl, h⟩)]; rfl
  rw [this, cond_true];exact .inr ⟨rfl, fun h => hbt ⟨hr.2 h.1, h.2.1⟩⟩
theorem inc_of {f : Form} (h : ∀ k g, f.Odd[k]? = some g → goodOdd f k g) : Inc f.Odd := by
 intro j k a b hjk ha hb
 induction k generalizing b with
 | zero => omega
 | succ k ih =>
  have hkl := (List.getElem?_eq_some_iff.1 hb).1
  have h1 := (h (k + 1) b hb).2.2 f.Odd[k] (by omega) (by simp [List.getElem?_eq_getElem (show k < f.Odd.length by omega)])
  rcases Nat.lt_or_ge j k with h2 | h2
  ·have := ih _ h2 (List.getElem?_eq_getElem (show k < f.Odd.length by omega)); omega
  ·have : j = k := by omega
   subst this;rw [List.getElem?_eq_getElem (show j < f.Odd.length by omega)] at ha; cases ha; exact h1
theorem gran_shape_eq {f : Form} (hl : Lim f) : ∃ b, Zj f = some b ∧ (b = true ↔ Shape f) := by
 unfold Zj
 by_cases h1 : f.Count = f.Core.length ∧ (f.Count = 0 ↔ f.Period = 0) ∧ 0 ≤ f.Period ∧ f.Period ≤ 1099511627776
 ·have e : (f.Count != (f.Core.length : Int) || (f.Count == 0) != (f.Period == 0) || decide (f.Period < 0) || decide (f.Period > 1099511627776)) = false := by
   rw [Z5Y h1.1, Z0D (show ¬ f.Period < 0 by omega), Z0D (show ¬ f.Period > 1099511627776 by omega)]
   simp only [Bool.false_or, Bool.or_false, bne_eq_false_iff_eq, ibeq, decide_eq_decide];exact h1.2.1
  rw [e, cond_false]
  rcases shape_core hl with ⟨h2, h3⟩ | ⟨h2, h3⟩
  ·rw [h2];simp only [Option.bind_some, Jx.elim]
   rcases shape_odd hl with ⟨h4, h5⟩ | ⟨h4, h5⟩
   ·rw [h4];exact ⟨true, rfl, fun _ => ⟨h1.1, h1.2.1, h1.2.2, h3, fun g hg => by obtain ⟨k, hk⟩ := List.getElem?_of_mem hg; exact ⟨(h5 k g hk).1, (h5 k g hk).2.1⟩, inc_of h5⟩, fun _ => rfl⟩
   ·rw [h4];refine ⟨false, rfl, fun h => (by cases h), fun h => absurd (fun k g hk => ⟨(h.odd g (List.mem_of_getElem? hk)).1, (h.odd g (List.mem_of_getElem? hk)).2, fun p h0 hp => h.inc (k - 1) k p g (by omega) hp hk⟩) h5⟩
  ·rw [h2];exact ⟨false, rfl, fun h => (by cases h), fun h => absurd h.core h3⟩
 ·have e : (f.Count != (f.Core.length : Int) || (f.Count == 0) != (f.Period == 0) || decide (f.Period < 0) || decide (f.Period > 1099511627776)) = true := by
   apply Classical.byContradiction;intro hn;simp only [Bool.not_eq_true, Bool.or_eq_false_iff, bne_eq_false_iff_eq, decide_eq_false_iff_not, ibeq, decide_eq_decide] at hn;exact h1 ⟨hn.1.1.1, hn.1.1.2, by omega, by omega⟩
  rw [e, cond_true];exact ⟨false, rfl, fun h => (by cases h), fun h => absurd ⟨h.count, h.zero, h.per⟩ h1⟩
def fstT (l : List Span) : Int := (l.head?.map Span.From).getD 0
def lstT (l : List Span) : Int := (l.getLast?.map Span.To).getD 0
theorem Z9e {a b : List Span} (ha : a ≠ []) (hb : b ≠ []) : Z2n a b ↔ lstT a < fstT b := by
 unfold Z2n lstT fstT
 rw [List.getLast?_eq_some_getLast ha, List.head?_eq_some_head hb]
 simp
theorem RightL.tail {s : Span} {l : List Span} (h : RightL (s :: l)) : RightL l :=
 ⟨fun k x hk => h.ok (k + 1) x hk, fun k x y hx hy => h.gap (k + 1) x y hx hy⟩
theorem Z53 {l : List Span} (h : RightL l) (hn : l ≠ []) : fstT l ≤ lstT l := by
 induction l with
 | nil => exact absurd rfl hn
 | cons s l ih =>
  have h0 := h.ok 0 s rfl
  cases l with
  | nil => simp [fstT, lstT]; exact h0.2.2
  | cons t l =>
   have h1 := h.gap 0 s t rfl rfl
   have h2 := ih h.tail (by simp)
   have e1 : lstT (s :: t :: l) = lstT (t :: l) := by simp [lstT]
   have e2 : fstT (t :: l) = t.From := rfl
   have e3 : fstT (s :: t :: l) = s.From := rfl
   rw [e1, e3]; rw [e2] at h2; omega
theorem lst_tick {l : List Span} (h : RightL l) (hn : l ≠ []) : ZK (lstT l) ∧ ZK (fstT l) := by
 have h1 : l.getLast? = some (l.getLast hn) := List.getLast?_eq_some_getLast hn
 have h2 : l.head? = some (l.head hn) := List.head?_eq_some_head hn
 obtain ⟨j, hj⟩ := List.getElem?_of_mem (List.getLast_mem hn)
 obtain ⟨k, hk⟩ := List.getElem?_of_mem (List.head_mem hn)
 unfold lstT fstT
 rw [h1, h2]
 exact ⟨(h.ok j _ hj).2.1, (h.ok k _ hk).1⟩
def full (f : Form) : List (List Span) := f.Core.filter (fun l => decide (l.length > 0))
def Turns (f : Form) : Prop := (∀ (k : Nat) (a b : List Span), (full f)[k]? = some a → (full f)[k + 1]? = some b → lstT a < fstT b) ∧ ∀ a b, (full f).getLast? = some a → (full f).head? = some b → lstT a < fstT b + f.Period
theorem full_loop {f : Form} (hl : Lim f) : ZN (Z08.s0 f) (0, []) = some (full f) := by
 have hlen := Z1u (b := 23) hl.core
 refine Z1y (I := fun s r => r = full f ∧ ∃ k : Nat, k ≤ f.Core.length ∧ s = ((k : Int), (f.Core.take k).filter (fun l => decide (l.length > 0)))) (fun s => f.Core.length - s.1.toNat) ?_ ⟨rfl, 0, Nat.zero_le _, by simp⟩
 rintro s r ⟨rfl, k, hk, rfl⟩
 unfold Z08.s0
 by_cases hlt : k < f.Core.length
 ·have htake : f.Core.take (k + 1) = f.Core.take k ++ [f.Core[k]] := List.take_succ_eq_append_getElem hlt
  simp only;rw [Zz (show (k : Int) < f.Core.length by omega), cond_true, at?_nat hlt, Zm (by omega)]
  simp only [Option.bind_some];refine .inl ?_;have hfl : ((f.Core.take k).filter (fun l => decide (l.length > 0))).length ≤ k := Nat.le_trans (List.length_filter_le _ _) (by rw [List.length_take]; exact Nat.min_le_left _ _)
  by_cases hc : f.Core[k].length > 0
  ·rw [Zz (show ((f.Core[k].length : Int) > 0) by omega), cond_true, app?_ok (by have h1 := hl.core; rw [Z1G] at h1; rw [Z5L]; simp only [List.length_singleton]; omega)]
   exact ⟨_, rfl, ⟨trivial, k + 1, hlt, by rw [htake, List.filter_append]; simp [hc]⟩, by simp; omega⟩
  ·rw [Z0D (show ¬ ((f.Core[k].length : Int) > 0) by omega), cond_false]
   exact ⟨_, rfl, ⟨trivial, k + 1, hlt, by rw [htake, List.filter_append]; simp [hc]⟩, by simp; omega⟩
 ·have : k = f.Core.length := by omega
  subst this;simp only;rw [Z0D (show ¬ ((f.Core.length : Int) < f.Core.length) by omega), cond_false, List.take_length]
  exact .inr rfl
theorem gran_turns_eq {f : Form} (hl : Lim f) (hs : Shape f) : ∃ b, Z08 f = some b ∧ (b = true ↔ Turns f) := by
 have hlen := Z1u (b := 23) hl.core
 have hfl : (full f).length ≤ f.Core.length := List.length_filter_le _ _
 have hmem : ∀ x ∈ full f, x ∈ f.Core ∧ x ≠ [] := fun x hx => by
  have := List.mem_filter.1 hx
  exact ⟨this.1, by rintro rfl; simp at this⟩
 unfold Z08
 rw [full_loop hl]
 simp only [Option.bind_some]
 rcases Z3e (l := full f) (step := Z08.s1 f (full f)) (fun k a => ∀ b, (full f)[(k + 1) % (full f).length]? = some b → lstT a < fstT b + (if k + 1 = (full f).length then f.Period else 0)) (no := .ret false) (yes := .go ()) (fun k a hk _ => by
   obtain ⟨h1, h2⟩ := Z8J hk
   have hkl : k < (full f).length := by omega
   have hmod : (k + 1) % (full f).length < (full f).length := Nat.mod_lt _ (by omega)
   have hnext : at? (full f) ((((k + 1) % (full f).length : Nat) : Int)) = some (full f)[(k + 1) % (full f).length] := at?_nat hmod
   obtain ⟨ha1, ha2⟩ := hmem a (List.mem_of_getElem? hk)
   obtain ⟨hb1, hb2⟩ := hmem _ (List.getElem_mem hmod)
   have hra := hs.core a ha1
   have hrb := hs.core _ hb1
   have hal : a.length - 1 < a.length := by have := List.length_pos_iff.2 ha2; omega
   have hlast : at? a (w64 ((a.length : Int) - 1)) = some a[a.length - 1] := by
    have := Z1u (b := 15) (hl.sets a ha1).1
    rw [Zm (by omega), show (a.length : Int) - 1 = ((a.length - 1 : Nat) : Int) by omega, at?_nat hal]
   have hlt : lstT a = a[a.length - 1].To := by unfold lstT; rw [List.getLast?_eq_getElem?, List.getElem?_eq_getElem hal]; rfl
   unfold Z08.s1;rw [Zz h2, cond_true, h1, nz?_ok (by omega), Zm (x := (k : Int) + 1) (by omega)]
   have htm : ((k : Int) + 1).tmod ((full f).length : Int) = (((k + 1) % (full f).length : Nat) : Int) := by
    rw [Int.tmod_eq_emod_of_nonneg (by omega)]; push_cast; rfl
   simp only [Option.bind_some, htm, hnext, hlast];rw [List.getElem?_eq_getElem hmod];generalize (full f)[(k + 1) % (full f).length] = b at *
   have hb0 : at? b 0 = some (b.head hb2) := by
    cases b with
    | nil => exact absurd rfl hb2
    | cons y b => rfl
   have hbf : fstT b = (b.head hb2).From := by unfold fstT; rw [List.head?_eq_some_head hb2]; rfl
   have htick := (lst_tick hrb hb2).2
   unfold ZK at htick;have hper := hs.per
   by_cases hl1 : k + 1 = (full f).length
   ·have e : ((k : Int) + 1 == ((full f).length : Int)) = true := beq_t (by omega)
    rw [e, cond_true];simp only [Option.bind_some, hb0, ← hbf, Zm (show -9223372036854775808 ≤ fstT b + f.Period ∧ fstT b + f.Period ≤ 9223372036854775807 by omega), ← hlt, if_pos hl1]
    by_cases hc : lstT a ≥ fstT b + f.Period
    ·rw [Zz hc]; exact .inr ⟨rfl, fun h => by have := h b rfl; omega⟩
    ·rw [Z0D hc]; exact .inl ⟨rfl, fun b' hb' => by cases hb'; omega⟩
   ·have e : ((k : Int) + 1 == ((full f).length : Int)) = false := Z5x (by omega)
    rw [e, cond_false];simp only [Option.bind_some, hb0, ← hbf, Zm (show -9223372036854775808 ≤ fstT b + 0 ∧ fstT b + 0 ≤ 9223372036854775807 by omega), ← hlt, if_neg hl1]
    by_cases hc : lstT a ≥ fstT b + 0
    ·rw [Zz hc]; exact .inr ⟨rfl, fun h => by have := h b rfl; omega⟩
    ·rw [Z0D hc]; exact .inl ⟨rfl, fun b' hb' => by cases hb'; omega⟩) (by unfold Z08.s1; rw [Z0D (by omega)]; rfl) with ⟨h1, h2⟩ | ⟨h1, h2⟩
 ·rw [h1];refine ⟨true, rfl, fun _ => ⟨fun k a b ha hb => ?_, fun a b ha hb => ?_⟩, fun _ => rfl⟩
  ·have hkl := (List.getElem?_eq_some_iff.1 hb).1
   have := h2 k a ha b (by rw [Nat.mod_eq_of_lt hkl]; exact hb)
   rw [if_neg (by omega)] at this; omega
  ·have hn : full f ≠ [] := by rintro e; rw [e] at ha; simp at ha
   have hpos := List.length_pos_iff.2 hn
   rw [List.getLast?_eq_getElem?] at ha;have e1 : (full f).length - 1 + 1 = (full f).length := by omega
   have := h2 _ a ha b (by rw [e1, Nat.mod_self, ← List.head?_eq_getElem?]; exact hb)
   rw [if_pos e1] at this; exact this
 ·rw [h1];refine ⟨false, rfl, fun h => (by cases h), fun h => absurd (fun k a hk b hb => ?_) h2⟩
  have hkl := (List.getElem?_eq_some_iff.1 hk).1
  by_cases hl1 : k + 1 = (full f).length
  ·rw [if_pos hl1];rw [hl1, Nat.mod_self, ← List.head?_eq_getElem?] at hb;exact h.2 a b (by rw [List.getLast?_eq_getElem?, ← hl1]; exact hk) hb
  ·rw [if_neg hl1];rw [Nat.mod_eq_of_lt (by omega)] at hb
   have := h.1 k a b hk hb; omega
end Go.Dn

namespace Go.Dn
open Go
theorem Z9C {l : List (List Span)} {p : List Span → Bool} (hl : l.length * 24 ≤ reachBytes) : ZZ l (fun z => some (p z)) = some (decide (∃ x ∈ l, p x = true)) := by
 have hlen := Z1u (b := 23) hl
 unfold ZZ ZF
 by_cases hall : ∀ (k : Nat) (x : List Span), l[k]? = some x → ¬ p x = true
 ·have : ZN (ZF.s0 l (fun z => some (p z))) 0 = some (.go ()) := by
   refine Z1y (I := fun (s : Int) r => r = .go () ∧ ∃ k : Nat, s = k ∧ k ≤ l.length) (fun s => l.length - s.toNat) ?_ ⟨rfl, 0, rfl, Nat.zero_le _⟩
   rintro s r ⟨rfl, k, rfl, hk⟩;unfold ZF.s0
   by_cases hlt : k < l.length
   ·rw [Zz (show (k : Int) < l.length by omega), cond_true, at?_nat hlt, Zm (by omega)]
    have := hall k _ (List.getElem?_eq_getElem hlt)
    simp only [Option.bind_some, Bool.not_eq_true] at this ⊢;rw [this];exact .inl ⟨_, rfl, ⟨trivial, k + 1, by push_cast; rfl, hlt⟩, by simp; omega⟩
   ·rw [Z0D (show ¬ (k : Int) < l.length by omega)]; exact .inr rfl
  rw [this, Z0D (by rintro ⟨x, hx, hp⟩; obtain ⟨k, hk⟩ := List.getElem?_of_mem hx; exact hall k x hk hp)]
  rfl
 ·obtain ⟨k0, x0, hx0, hb0, hg⟩ := Z8D (good := fun _ x => ¬ p x = true) hall
  have hb0 : p x0 = true := Classical.byContradiction hb0
  have hlt0 := (List.getElem?_eq_some_iff.1 hx0).1
  have : ZN (ZF.s0 l (fun z => some (p z))) 0 = some (.ret (k0 : Int)) := by
   refine Z1y (I := fun (s : Int) r => r = .ret (k0 : Int) ∧ ∃ k : Nat, s = k ∧ k ≤ k0) (fun s => l.length - s.toNat) ?_ ⟨rfl, 0, rfl, Nat.zero_le _⟩
   rintro s r ⟨rfl, k, rfl, hk⟩;unfold ZF.s0;have hkl : k < l.length := by omega
   rw [Zz (show (k : Int) < l.length by omega), cond_true, at?_nat hkl, Zm (by omega)]
   by_cases hlt : k < k0
   ·have := hg k _ hlt (List.getElem?_eq_getElem hkl)
    simp only [Option.bind_some, Bool.not_eq_true] at this ⊢;rw [this];exact .inl ⟨_, rfl, ⟨trivial, k + 1, by push_cast; rfl, hlt⟩, by simp; omega⟩
   ·have : k = k0 := by omega
    subst this;rw [List.getElem?_eq_getElem hkl] at hx0;cases hx0;simp only [Option.bind_some, hb0];exact .inr rfl
  rw [this, Zz ⟨x0, List.mem_of_getElem? hx0, hb0⟩];simp only [Option.bind_some, Jx.elim];rw [Zz (by omega)]
def Bare (f : Form) : Prop := ∀ l ∈ f.Core, l = []
theorem Z58 {f : Form} (hl : Lim f) : ∃ b, Z2V f = some b ∧ (b = true ↔ Bare f) := by
 unfold Z2V
 rw [Z9C hl.core]
 refine ⟨_, rfl, ?_⟩
 simp only [Z3Y, Bool.not_eq_true', decide_eq_false_iff_not, decide_eq_true_eq]
 constructor
 ·intro h l hm;apply Classical.byContradiction;intro hn;exact h ⟨l, hm, by have := List.length_pos_iff.2 hn; omega⟩
 ·rintro h ⟨l, hm, hp⟩;rw [h l hm] at hp; simp at hp
theorem Z52 {f : Form} (hs : Shape f) (hb : Bare f) {i : Int} (ho : ¬ Z1j f i) : Zd f i = [] := by
 by_cases h0 : f.Count = 0
 ·exact Z2M ho h0
 ·exact (Z1h ho h0).2 (hb _ (Z1F hs h0 i).2)
def UpTo (f : Form) (i : Int) (r : Int × Bool) : Prop := (r.2 = true ∧ i ≤ r.1 ∧ ZK r.1 ∧ Zd f r.1 ≠ [] ∧ ∀ k, i ≤ k → k < r.1 → Zd f k = []) ∨ (r.2 = false ∧ r.1 = 0 ∧ ∀ k, i ≤ k → ZK k → Zd f k = [])
def DownTo (f : Form) (i : Int) (r : Int × Bool) : Prop := (r.2 = true ∧ r.1 ≤ i ∧ ZK r.1 ∧ Zd f r.1 ≠ [] ∧ ∀ k, k ≤ i → r.1 < k → Zd f k = []) ∨ (r.2 = false ∧ r.1 = 0 ∧ ∀ k, k ≤ i → ZK k → Zd f k = [])
theorem odd_split {f : Form} (hs : Shape f) {p : Nat} {i : Int} (hp : ∀ (k : Nat) (g : Granule), f.Odd[k]? = some g → (k < p ↔ g.Index < i)) {j : Int} (hj : Z1j f j) : ∃ (k : Nat) (g : Granule), f.Odd[k]? = some g ∧ g.Index = j ∧ (k < p ↔ j < i) := by
 obtain ⟨g, hg, rfl⟩ := hj
 obtain ⟨k, hk⟩ := List.getElem?_of_mem hg
 exact ⟨k, g, hk, rfl, hp k g hk⟩
theorem gran_step_up {f : Form} (hl : Lim f) (hs : Shape f) {i : Int} (hi : -1099511627776 ≤ i ∧ i ≤ 1099511627776) : ∃ r, Zs f i 1 = some r ∧ UpTo f i r := by
 have hi64 : In64 i := by unfold In64; omega
 obtain ⟨b, hb, hbb⟩ := Z58 hl
 have holen := Z1u (b := 31) hl.odd
 unfold Zs
 rw [hb]
 simp only [Option.bind_some]
 cases b with
 | true =>
  have hbare := hbb.1 rfl
  rw [cond_true];obtain ⟨p, h1, h2, h3⟩ := Z4K hl hs.inc i
  rw [h3];simp only [Option.bind_some, Z0D (show ¬ (1 : Int) < 0 by omega), Bool.false_and, cond_false]
  obtain ⟨r, hr, hpost⟩ := Z1z (step := Zs.s0 f 1) (I := fun (s : Int) => ∃ k : Nat, s = k ∧ p ≤ k ∧ k ≤ f.Odd.length ∧ ∀ (j : Nat) (g : Granule), f.Odd[j]? = some g → p ≤ j → j < k → g.Ticks = []) (fun s => f.Odd.length - s.toNat)
   (fun r => (∃ (k : Nat) (g : Granule), r = .ret (g.Index, true) ∧ f.Odd[k]? = some g ∧ p ≤ k ∧ g.Ticks ≠ [] ∧ ∀ (j : Nat) (g' : Granule), f.Odd[j]? = some g' → p ≤ j → j < k → g'.Ticks = []) ∨ (r = .go () ∧ ∀ (j : Nat) (g' : Granule), f.Odd[j]? = some g' → p ≤ j → g'.Ticks = [])) (by
   rintro s ⟨k, rfl, hpk, hk, hn⟩;unfold Zs.s0
   by_cases hlt : k < f.Odd.length
   ·rw [Zz (show (k : Int) ≥ 0 by omega), Zz (show (k : Int) < f.Odd.length by omega), Bool.and_self, cond_true, at?_nat hlt, Zm (by omega)]
    simp only [Option.bind_some];have hget := List.getElem?_eq_getElem hlt
    by_cases hc : f.Odd[k].Ticks = []
    ·rw [hc];refine .inl ⟨(k : Int) + 1, rfl, ⟨k + 1, by push_cast; rfl, by omega, hlt, fun j g hj hpj hjk => ?_⟩, by simp; omega⟩
     rcases Nat.lt_or_ge j k with h | h
     ·exact hn j g hj hpj h
     ·have : j = k := by omega
      subst this; rw [hget] at hj; cases hj; exact hc
    ·rw [Zz (show ((f.Odd[k].Ticks.length : Int) > 0) by have := List.length_pos_iff.2 hc; omega), cond_true]
     exact .inr ⟨_, rfl, .inl ⟨k, _, rfl, hget, hpk, hc, hn⟩⟩
   ·rw [Z0D (show ¬ (k : Int) < f.Odd.length by omega), Bool.and_false, cond_false]
    refine .inr ⟨_, rfl, .inr ⟨rfl, fun j g hj hpj => hn j g hj hpj ?_⟩⟩
    have := (List.getElem?_eq_some_iff.1 hj).1; omega) (p : Int) ⟨p, rfl, Nat.le_refl _, h1, fun j g _ h h' => by omega⟩
  rw [hr];simp only [Option.bind_some]
  rcases hpost with ⟨k, g, rfl, hk, hpk, hne, hn⟩ | ⟨rfl, hn⟩
  ·have hset := Z0d hs.inc (List.mem_of_getElem? hk)
   have hgi : ¬ g.Index < i := fun h => by have := (h2 k g hk).2 h; omega
   refine ⟨_, rfl, .inl ⟨rfl, by simp only; omega, (hs.odd g (List.mem_of_getElem? hk)).2, by simp only; rw [hset]; exact hne, fun j hij hjg => ?_⟩⟩
   simp only at hjg
   by_cases ho : Z1j f j
   ·obtain ⟨k', g', hk', rfl, hiff⟩ := odd_split hs h2 ho
    rw [Z0d hs.inc (List.mem_of_getElem? hk')];refine hn k' g' hk' ?_ ?_
    ·rcases Nat.lt_or_ge k' p with h | h
     ·have := hiff.1 h; omega
     ·exact h
    ·rcases Nat.lt_or_ge k' k with h | h
     ·exact h
     ·rcases Nat.lt_or_ge k k' with h' | h'
      ·have := hs.inc k k' g g' h' hk hk'; omega
      ·have : k = k' := by omega
       subst this; rw [hk] at hk'; cases hk'; omega
   ·exact Z52 hs hbare ho
  ·refine ⟨_, rfl, .inr ⟨rfl, rfl, fun j hij _ => ?_⟩⟩
   by_cases ho : Z1j f j
   ·obtain ⟨k', g', hk', rfl, hiff⟩ := odd_split hs h2 ho
    rw [Z0d hs.inc (List.mem_of_getElem? hk')];refine hn k' g' hk' ?_
    rcases Nat.lt_or_ge k' p with h | h
    ·have := hiff.1 h; omega
    ·exact h
   ·exact Z52 hs hbare ho
 | false =>
  rw [cond_false];obtain ⟨r, hr, hpost⟩ := Z1z (step := Zs.s1 f 1) (I := fun (s : Int) => i ≤ s ∧ s ≤ 1099511627777 ∧ ∀ k, i ≤ k → k < s → Zd f k = []) (fun s => (1099511627777 - s).toNat)
   (fun r => (∃ j, r = .ret (j, true) ∧ i ≤ j ∧ ZK j ∧ Zd f j ≠ [] ∧ ∀ k, i ≤ k → k < j → Zd f k = []) ∨ (r = .go () ∧ ∀ k, i ≤ k → ZK k → Zd f k = [])) (by
   rintro s ⟨hs1, hs2, hn⟩;unfold Zs.s1;rw [Z5B]
   by_cases ht : ZK s
   ·rw [Zz ht, cond_true, Z7M hl hs (Z26 ht), Zm (by unfold ZK at ht; omega)]
    simp only [Option.bind_some]
    by_cases hc : Zd f s = []
    ·rw [hc];refine .inl ⟨s + 1, by simp, ⟨by omega, by unfold ZK at ht; omega, fun k hk hks => ?_⟩, by unfold ZK at ht; omega⟩
     by_cases h : k = s
     ·rw [h]; exact hc
     ·exact hn k hk (by omega)
    ·rw [Zz hc, cond_true];exact .inr ⟨_, rfl, .inl ⟨s, rfl, hs1, ht, hc, hn⟩⟩
   ·rw [Z0D ht, cond_false];exact .inr ⟨_, rfl, .inr ⟨rfl, fun k hk htk => hn k hk (by unfold ZK at ht htk; omega)⟩⟩) i ⟨Int.le_refl _, by omega, fun k h h' => by omega⟩
  rw [hr];simp only [Option.bind_some]
  rcases hpost with ⟨j, rfl, h1, h2, h3, h4⟩ | ⟨rfl, hn⟩
  ·exact ⟨_, rfl, .inl ⟨rfl, h1, h2, h3, h4⟩⟩
  ·exact ⟨_, rfl, .inr ⟨rfl, rfl, hn⟩⟩
theorem Z9F {f : Form} (hl : Lim f) (hs : Shape f) {i : Int} (hi : -1099511627776 ≤ i ∧ i ≤ 1099511627776) : ∃ r, Zs f i (-1) = some r ∧ DownTo f i r := by
 have hi64 : In64 i := by unfold In64; omega
 obtain ⟨b, hb, hbb⟩ := Z58 hl
 have holen := Z1u (b := 31) hl.odd
 unfold Zs
 rw [hb]
 simp only [Option.bind_some]
 cases b with
 | true =>
  have hbare := hbb.1 rfl
  rw [cond_true];obtain ⟨p, h1, h2, h3⟩ := Z4K hl hs.inc i
  rw [h3]
  -- the number of exceptions up to the index
  obtain ⟨q, hq1, hq2, hq3⟩ : ∃ q : Nat, q ≤ f.Odd.length ∧ (∀ (k : Nat) (g : Granule), f.Odd[k]? = some g → (k < q ↔ g.Index ≤ i)) ∧ ((bif (decide ((-1 : Int) < 0) && !decide (∃ g, f.Odd[p]? = some g ∧ g.Index = i)) then some (w64 ((p : Int) - 1)) else some (p : Int)) : Option Int) = some ((q : Int) - 1) := by
   by_cases he : ∃ g, f.Odd[p]? = some g ∧ g.Index = i
   ·obtain ⟨g, hg, hgi⟩ := he
    have hpl := (List.getElem?_eq_some_iff.1 hg).1
    refine ⟨p + 1, by omega, fun k g' hk => ?_, by rw [Zz (p := ∃ g, f.Odd[p]? = some g ∧ g.Index = i) ⟨g, hg, hgi⟩]; simp⟩
    have := h2 k g' hk
    constructor
    ·intro h
     rcases Nat.lt_or_ge k p with h' | h'
     ·have := this.1 h'; omega
     ·have : k = p := by omega
      subst this; rw [hg] at hk; cases hk; omega
    ·intro h
     rcases Nat.lt_or_ge p k with h' | h'
     ·have := hs.inc p k g g' h' hg hk; omega
     ·omega
   ·refine ⟨p, h1, fun k g' hk => ?_, by rw [Z0D (p := ∃ g, f.Odd[p]? = some g ∧ g.Index = i) he, Zm (by omega)]; simp⟩
    have := h2 k g' hk
    constructor
    ·intro h; have := this.1 h; omega
    ·intro h
     by_cases hgi : g'.Index = i
     ·exfalso
      have hkp : ¬ k < p := fun h' => by have := this.1 h'; omega
      rcases Nat.lt_or_ge p k with h' | h'
      ·have hpl : p < f.Odd.length := by have := (List.getElem?_eq_some_iff.1 hk).1; omega
       have h5 := hs.inc p k _ g' h' (List.getElem?_eq_getElem hpl) hk
       have h6 := (h2 p _ (List.getElem?_eq_getElem hpl)).2 (by omega)
       omega
      ·have : k = p := by omega
       subst this;exact he ⟨g', hk, hgi⟩
     ·exact this.2 (by omega)
  simp only [Option.bind_some];rw [hq3];simp only [Option.bind_some];obtain ⟨r, hr, hpost⟩ := Z1z (step := Zs.s0 f (-1)) (I := fun (s : Int) => ∃ k : Nat, s = (k : Int) - 1 ∧ k ≤ q ∧ ∀ (j : Nat) (g : Granule), f.Odd[j]? = some g → k ≤ j → j < q → g.Ticks = []) (fun s => (s + 1).toNat)
   (fun r => (∃ (k : Nat) (g : Granule), r = .ret (g.Index, true) ∧ f.Odd[k]? = some g ∧ k < q ∧ g.Ticks ≠ [] ∧ ∀ (j : Nat) (g' : Granule), f.Odd[j]? = some g' → k < j → j < q → g'.Ticks = []) ∨ (r = .go () ∧ ∀ (j : Nat) (g' : Granule), f.Odd[j]? = some g' → j < q → g'.Ticks = [])) (by
   rintro s ⟨k, rfl, hk, hn⟩;unfold Zs.s0
   by_cases h0 : 0 < k
   ·have hlt : k - 1 < f.Odd.length := by omega
    rw [Zz (show (k : Int) - 1 ≥ 0 by omega), Zz (show (k : Int) - 1 < f.Odd.length by omega), Bool.and_self, cond_true, show (k : Int) - 1 = ((k - 1 : Nat) : Int) by omega, at?_nat hlt, Zm (by omega)]
    simp only [Option.bind_some];have hget := List.getElem?_eq_getElem hlt
    by_cases hc : f.Odd[k - 1].Ticks = []
    ·rw [hc];refine .inl ⟨((k - 1 : Nat) : Int) + -1, rfl, ⟨k - 1, by omega, by omega, fun j g hj hpj hjk => ?_⟩, by simp; omega⟩
     rcases Nat.lt_or_ge j k with h | h
     ·have : j = k - 1 := by omega
      subst this; rw [hget] at hj; cases hj; exact hc
     ·exact hn j g hj h hjk
    ·rw [Zz (show ((f.Odd[k - 1].Ticks.length : Int) > 0) by have := List.length_pos_iff.2 hc; omega), cond_true]
     exact .inr ⟨_, rfl, .inl ⟨k - 1, _, rfl, hget, by omega, hc, fun j g hj h1 h2 => hn j g hj (by omega) h2⟩⟩
   ·rw [Z0D (show ¬ (k : Int) - 1 ≥ 0 by omega), Bool.false_and, cond_false]
    exact .inr ⟨_, rfl, .inr ⟨rfl, fun j g hj hjq => hn j g hj (by omega) hjq⟩⟩) ((q : Int) - 1) ⟨q, rfl, Nat.le_refl _, fun j g _ h h' => by omega⟩
  rw [hr];simp only [Option.bind_some]
  rcases hpost with ⟨k, g, rfl, hk, hkq, hne, hn⟩ | ⟨rfl, hn⟩
  ·have hset := Z0d hs.inc (List.mem_of_getElem? hk)
   have hgi := (hq2 k g hk).1 hkq
   refine ⟨_, rfl, .inl ⟨rfl, hgi, (hs.odd g (List.mem_of_getElem? hk)).2, by simp only; rw [hset]; exact hne, fun j hij hjg => ?_⟩⟩
   simp only at hjg
   by_cases ho : Z1j f j
   ·obtain ⟨g', hg', rfl⟩ := ho
    obtain ⟨k', hk'⟩ := List.getElem?_of_mem hg'
    rw [Z0d hs.inc hg'];refine hn k' g' hk' ?_ ((hq2 k' g' hk').2 hij)
    rcases Nat.lt_or_ge k k' with h | h
    ·exact h
    ·rcases Nat.lt_or_ge k' k with h' | h'
     ·have := hs.inc k' k g' g h' hk' hk; omega
     ·have : k = k' := by omega
      subst this; rw [hk] at hk'; cases hk'; omega
   ·exact Z52 hs hbare ho
  ·refine ⟨_, rfl, .inr ⟨rfl, rfl, fun j hij _ => ?_⟩⟩
   by_cases ho : Z1j f j
   ·obtain ⟨g', hg', rfl⟩ := ho
    obtain ⟨k', hk'⟩ := List.getElem?_of_mem hg'
    rw [Z0d hs.inc hg'];exact hn k' g' hk' ((hq2 k' g' hk').2 hij)
   ·exact Z52 hs hbare ho
 | false =>
  rw [cond_false];obtain ⟨r, hr, hpost⟩ := Z1z (step := Zs.s1 f (-1)) (I := fun (s : Int) => s ≤ i ∧ -1099511627777 ≤ s ∧ ∀ k, k ≤ i → s < k → Zd f k = []) (fun s => (s + 1099511627777).toNat)
   (fun r => (∃ j, r = .ret (j, true) ∧ j ≤ i ∧ ZK j ∧ Zd f j ≠ [] ∧ ∀ k, k ≤ i → j < k → Zd f k = []) ∨ (r = .go () ∧ ∀ k, k ≤ i → ZK k → Zd f k = [])) (by
   rintro s ⟨hs1, hs2, hn⟩;unfold Zs.s1;rw [Z5B]
   by_cases ht : ZK s
   ·rw [Zz ht, cond_true, Z7M hl hs (Z26 ht), Zm (by unfold ZK at ht; omega)]
    simp only [Option.bind_some]
    by_cases hc : Zd f s = []
    ·rw [hc];refine .inl ⟨s + -1, by simp, ⟨by omega, by unfold ZK at ht; omega, fun k hk hks => ?_⟩, by unfold ZK at ht; omega⟩
     by_cases h : k = s
     ·rw [h]; exact hc
     ·exact hn k hk (by omega)
    ·rw [Zz hc, cond_true];exact .inr ⟨_, rfl, .inl ⟨s, rfl, hs1, ht, hc, hn⟩⟩
   ·rw [Z0D ht, cond_false];exact .inr ⟨_, rfl, .inr ⟨rfl, fun k hk htk => hn k hk (by unfold ZK at ht htk; omega)⟩⟩) i ⟨Int.le_refl _, by omega, fun k h h' => by omega⟩
  rw [hr];simp only [Option.bind_some]
  rcases hpost with ⟨j, rfl, h1, h2, h3, h4⟩ | ⟨rfl, hn⟩
  ·exact ⟨_, rfl, .inl ⟨rfl, h1, h2, h3, h4⟩⟩
  ·exact ⟨_, rfl, .inr ⟨rfl, rfl, hn⟩⟩
def Above (f : Form) (i : Int) (r : Int × Bool) : Prop := (r.2 = true ∧ i < r.1 ∧ ZK r.1 ∧ Zd f r.1 ≠ [] ∧ ∀ k, i < k → k < r.1 → ZK k → Zd f k = []) ∨ (r.2 = false ∧ r.1 = 0 ∧ ∀ k, i < k → ZK k → Zd f k = [])
def Under (f : Form) (i : Int) (r : Int × Bool) : Prop := (r.2 = true ∧ r.1 < i ∧ ZK r.1 ∧ Zd f r.1 ≠ [] ∧ ∀ k, k < i → r.1 < k → ZK k → Zd f k = []) ∨ (r.2 = false ∧ r.1 = 0 ∧ ∀ k, k < i → ZK k → Zd f k = [])
theorem Z4E {f : Form} (hl : Lim f) (hs : Shape f) {i : Int} (hi : In64 i) : ∃ r, Z0t f i = some r ∧ Above f i r := by
 unfold Z0t
 by_cases h : i ≥ 1099511627776
 ·rw [Zz h, cond_true];exact ⟨_, rfl, .inr ⟨rfl, rfl, fun k hk ht => by unfold ZK at ht; omega⟩⟩
 ·rw [Z0D h, cond_false, Zm (by unfold In64 at hi; omega)]
  have hm : iMax (i + 1) (-1099511627776) = max (i + 1) (-1099511627776) := by unfold iMax; omega
  rw [hm];obtain ⟨r, h1, h2⟩ := gran_step_up hl hs (i := max (i + 1) (-1099511627776)) (by omega)
  rw [h1];refine ⟨r, rfl, ?_⟩
  rcases h2 with ⟨a, b, c, d, e⟩ | ⟨a, b, e⟩
  ·exact .inl ⟨a, by omega, c, d, fun k hk hkr ht => e k (by unfold ZK at ht; omega) hkr⟩
  ·exact .inr ⟨a, b, fun k hk ht => e k (by have := ht; unfold ZK at this; omega) ht⟩
theorem Z46 {f : Form} (hl : Lim f) (hs : Shape f) {i : Int} (hi : In64 i) : ∃ r, Z15 f i = some r ∧ Under f i r := by
 unfold Z15
 by_cases h : i ≤ -1099511627776
 ·rw [Zz h, cond_true];exact ⟨_, rfl, .inr ⟨rfl, rfl, fun k hk ht => by unfold ZK at ht; omega⟩⟩
 ·rw [Z0D h, cond_false, Zm (by unfold In64 at hi; omega)]
  have hm : iMin (i - 1) 1099511627776 = min (i - 1) 1099511627776 := by unfold iMin; omega
  rw [hm];obtain ⟨r, h1, h2⟩ := Z9F hl hs (i := min (i - 1) 1099511627776) (by omega)
  rw [h1];refine ⟨r, rfl, ?_⟩
  rcases h2 with ⟨a, b, c, d, e⟩ | ⟨a, b, e⟩
  ·exact .inl ⟨a, by omega, c, d, fun k hk hkr ht => e k (by unfold ZK at ht; omega) hkr⟩
  ·exact .inr ⟨a, b, fun k hk ht => e k (by have := ht; unfold ZK at this; omega) ht⟩
end Go.Dn

namespace Go.Dn
open Go
def BesideR (f : Form) (i : Int) (lo hi : Int × Bool) : Prop :=
 fits f i ∧ (lo.2 = true → fits f lo.1 ∧ Z2n (Zd f lo.1) (Zd f i)) ∧ (hi.2 = true → fits f hi.1 ∧ Z2n (Zd f i) (Zd f hi.1)) ∧ (lo.2 = true → hi.2 = true → Z2n (Zd f lo.1) (Zd f hi.1))
theorem aheadL_nil_l (b : List Span) : Z2n [] b := by intro x hx; cases hx
theorem aheadL_nil_r (a : List Span) : Z2n a [] := by intro x _ y hy; cases hy
theorem Z6B {f : Form} (hl : Lim f) (hs : Shape f) (i : Int) : Len (Zd f i) := by
 by_cases ho : Z1j f i
 ·obtain ⟨g, hg, rfl⟩ := ho
  rw [Z0d hs.inc hg]; exact (hl.ticks g hg).2.1
 ·by_cases h0 : f.Count = 0
  ·rw [Z2M ho h0]; unfold Len; simp
  ·rw [Z2E ho h0]; unfold Len; rw [List.length_map]; exact (hl.sets _ (Z1F hs h0 i).2).1
theorem Z8q {f : Form} (hs : Shape f) {i : Int} (hf : fits f i) : RightL (Zd f i) := by
 by_cases ho : Z1j f i
 ·obtain ⟨g, hg, rfl⟩ := ho
  rw [Z0d hs.inc hg]; exact (hs.odd g hg).1
 ·by_cases h0 : f.Count = 0
  ·rw [Z2M ho h0]; exact ⟨by simp, by simp⟩
  ·unfold fits at hf;rw [Z2E ho h0] at hf ⊢;exact (hs.core _ (Z1F hs h0 i).2).shift fun s hs' => hf (Zy (Z3d f i) s) (List.mem_map.2 ⟨s, hs', rfl⟩)
theorem near_l {c : Bool} {X S : List Span} : Z2n (if c = true then X else []) S ↔ (c = true → Z2n X S) := by
 cases c
 ·simp [aheadL_nil_l]
 ·simp
theorem near_r {c : Bool} {X S : List Span} : Z2n S (if c = true then X else []) ↔ (c = true → Z2n S X) := by
 cases c
 ·simp [aheadL_nil_r]
 ·simp
noncomputable def sideG (f : Form) (r : Int × Bool) : Option (Jx (List Span) Bool) :=
 (bif r.2 then (Z0B f r.1).bind fun x => (bif (x.2 != 0) then some (.ret false) else some (.go x.1)) else some (.go []))
open Classical in
theorem sideG_eq {f : Form} (hl : Lim f) (hs : Shape f) {r : Int × Bool} (ht : r.2 = true → ZK r.1) : (r.2 = true ∧ ¬ fits f r.1 ∧ sideG f r = some (.ret false)) ∨ ((r.2 = true → fits f r.1) ∧ sideG f r = some (.go (if r.2 = true then Zd f r.1 else []))) := by
 obtain ⟨j, c⟩ := r
 unfold sideG
 cases c with
 | false => exact .inr ⟨by simp, by simp⟩
 | true =>
  simp only [cond_true];rw [Z3Z hl hs (Z26 (ht rfl))]
  by_cases hfl : fits f j
  ·rw [if_pos ⟨ht rfl, hfl⟩]; exact .inr ⟨fun _ => hfl, by simp⟩
  ·rw [if_neg (fun h => hfl h.2)]; exact .inl ⟨trivial, hfl, rfl⟩
open Classical in
theorem Z9x {f : Form} (hl : Lim f) (hs : Shape f) {i : Int} (hi : ZK i) {lo hi' : Int × Bool} (hlo : Z15 f i = some lo) (hhi : Z0t f i = some hi') (tlo : lo.2 = true → ZK lo.1) (thi : hi'.2 = true → ZK hi'.1) :
  ∃ b, Z1S f i = some b ∧ (b = true ↔ BesideR f i lo hi') := by
 have e : Z1S f i = (Z0B f i).bind fun x1 => (bif (x1.2 != 0) then some false else (sideG f lo).bind fun y1 => y1.elim (fun r' => some r') fun a2 => (sideG f hi').bind fun y2 => y2.elim (fun r' => some r') fun a4 =>
   (Z0R a2 x1.1).bind fun x6 => ((bif x6 then (Z0R x1.1 a4).bind fun x7 => some x7 else some false)).bind fun y3 => ((bif y3 then (Z0R a2 a4).bind fun x8 => some x8 else some false)).bind fun y4 => some y4) := by
  unfold Z1S sideG;rw [hlo, hhi];simp only [Option.bind_some]
 rw [e, Z3Z hl hs (Z26 hi)]
 clear e
 by_cases hf : fits f i
 ·rw [if_pos ⟨hi, hf⟩];simp only [Option.bind_some, bne_self_eq_false, cond_false]
  rcases sideG_eq hl hs tlo with ⟨h1, h2, h0⟩ | ⟨h1, h0⟩
  ·rw [h0];exact ⟨false, rfl, fun h => (by cases h), fun h => absurd (h.2.1 h1).1 h2⟩
  ·rw [h0];simp only [Option.bind_some, Jx.elim]
   rcases sideG_eq hl hs thi with ⟨h3, h4, h0'⟩ | ⟨h3, h0'⟩
   ·rw [h0'];exact ⟨false, rfl, fun h => (by cases h), fun h => absurd (h.2.2.1 h3).1 h4⟩
   ·rw [h0'];simp only [Option.bind_some];have lenA : Len (if lo.2 = true then Zd f lo.1 else []) := by
     by_cases hc : lo.2 = true
     ·rw [if_pos hc]; exact Z6B hl hs _
     ·rw [if_neg hc]; unfold Len; simp
    generalize hA : (if lo.2 = true then Zd f lo.1 else []) = A at lenA
    generalize hB : (if hi'.2 = true then Zd f hi'.1 else []) = B
    obtain ⟨r1, q1, p1⟩ := Z45 (b := Zd f i) lenA
    obtain ⟨r2, q2, p2⟩ := Z45 (a := Zd f i) (b := B) (Z6B hl hs i)
    obtain ⟨r3, q3, p3⟩ := Z45 (b := B) lenA
    rw [q1, q2, q3];subst hA hB;rw [near_l] at p1;rw [near_r] at p2;rw [near_l, near_r] at p3;refine ⟨r1 && r2 && r3, by cases r1 <;> cases r2 <;> rfl, ?_⟩
    rw [Bool.and_eq_true, Bool.and_eq_true, p1, p2, p3]
    constructor
    ·rintro ⟨⟨a, b⟩, c⟩;exact ⟨hf, fun h => ⟨h1 h, a h⟩, fun h => ⟨h3 h, b h⟩, c⟩
    ·rintro ⟨_, a, b, c⟩;exact ⟨⟨fun h => (a h).2, fun h => (b h).2⟩, c⟩
 ·rw [if_neg (fun h => hf h.2)]
  exact ⟨false, rfl, fun h => (by cases h), fun h => absurd h.1 hf⟩
def Beside (f : Form) (i : Int) : Prop := ∀ lo hi, Under f i lo → Above f i hi → BesideR f i lo hi
theorem Under.uniq {f : Form} {i : Int} {r r' : Int × Bool} (h : Under f i r) (h' : Under f i r') : r = r' := by
 obtain ⟨a, b⟩ := r
 obtain ⟨a', b'⟩ := r'
 rcases h with ⟨rfl, h1, h2, h3, h4⟩ | ⟨rfl, rfl, h4⟩ <;> rcases h' with ⟨rfl, k1, k2, k3, k4⟩ | ⟨rfl, rfl, k4⟩
 ·simp only at *
  rcases Int.lt_trichotomy a a' with h | h | h
  ·exact absurd (h4 a' k1 h k2) k3
  ·rw [h]
  ·exact absurd (k4 a h1 h h2) h3
 ·exact absurd (k4 a h1 h2) h3
 ·exact absurd (h4 a' k1 k2) k3
 ·rfl
theorem Above.uniq {f : Form} {i : Int} {r r' : Int × Bool} (h : Above f i r) (h' : Above f i r') : r = r' := by
 obtain ⟨a, b⟩ := r
 obtain ⟨a', b'⟩ := r'
 rcases h with ⟨rfl, h1, h2, h3, h4⟩ | ⟨rfl, rfl, h4⟩ <;> rcases h' with ⟨rfl, k1, k2, k3, k4⟩ | ⟨rfl, rfl, k4⟩
 ·simp only at *
  rcases Int.lt_trichotomy a a' with h | h | h
  ·exact absurd (k4 a h1 h h2) h3
  ·rw [h]
  ·exact absurd (h4 a' k1 h k2) k3
 ·exact absurd (k4 a h1 h2) h3
 ·exact absurd (h4 a' k1 k2) k3
 ·rfl
theorem Z9A {f : Form} (hl : Lim f) (hs : Shape f) {i : Int} (hi : ZK i) : ∃ b, Z1S f i = some b ∧ (b = true ↔ Beside f i) := by
 obtain ⟨lo, h1, h2⟩ := Z46 hl hs (Z26 hi)
 obtain ⟨hi', h3, h4⟩ := Z4E hl hs (Z26 hi)
 obtain ⟨b, h5, h6⟩ := Z9x hl hs hi h1 h3 (fun h => by rcases h2 with ⟨_, _, h, _⟩ | ⟨h', _⟩ <;> simp_all) (fun h => by rcases h4 with ⟨_, _, h, _⟩ | ⟨h', _⟩ <;> simp_all)
 refine ⟨b, h5, h6.trans ⟨fun h lo' hi'' q1 q2 => ?_, fun h => h lo hi' h2 h4⟩⟩
 rw [q1.uniq h2, q2.uniq h4]; exact h
def Z4m (f : Form) : Nat := (f.Core.map List.length).sum + (f.Odd.map (·.Ticks.length)).sum
theorem sum_take {α : Type} (g : α → Nat) {l : List α} {k : Nat} (h : k < l.length) : ((l.take (k + 1)).map g).sum = ((l.take k).map g).sum + g l[k] := by
 rw [List.take_succ_eq_append_getElem h, List.map_append, List.sum_append]; simp
theorem Z7N {f : Form} (hl : Lim f) (hc : f.Core.length ≤ 6000) (ho : f.Odd.length ≤ 6000) : Z05 f = some (Z4m f : Int) := by
 have hr := Z1G
 have lenC : ∀ l ∈ f.Core, l.length ≤ 8796093022207 := fun l hm => by have := (hl.sets l hm).1; unfold Len at this; omega
 have lenO : ∀ g ∈ f.Odd, g.Ticks.length ≤ 8796093022207 := fun l hm => by have := (hl.ticks l hm).2.1; unfold Len at this; omega
 obtain ⟨a, h1, h2, h3⟩ := fold_loop (l := f.Core) (step := Z05.s0 f) (f := fun a _ x => a + (x.length : Int)) (fin := id) (a0 := (0 : Int)) (fun k a => a = ((((f.Core.take k).map List.length).sum : Nat) : Int) ∧ a ≤ k * 8796093022207) ⟨by simp, by simp⟩ (fun k x a hk ⟨ha, hb⟩ => by
   obtain ⟨q1, q2⟩ := Z8J hk
   have hx := lenC x (List.mem_of_getElem? hk)
   have hkl : k < f.Core.length := by omega
   have h0 : 0 ≤ a := by rw [ha]; omega
   unfold Z05.s0;simp only;rw [Zz q2, cond_true, q1, Zm (x := (k : Int) + 1) (by omega)]
   simp only [Option.bind_some];rw [Zm (x := a + (x.length : Int)) (by omega)]
   refine ⟨rfl, ?_, by push_cast; omega⟩
   rw [sum_take _ hkl];rw [List.getElem?_eq_getElem hkl] at hk;cases hk; rw [ha]; push_cast; rfl) (fun a _ => by unfold Z05.s0; simp only; rw [Z0D (by omega)]; rfl)
 rw [List.take_length] at h2
 obtain ⟨b, h4, h5, h6⟩ := fold_loop (l := f.Odd) (step := Z05.s1 f) (f := fun a _ x => a + (x.Ticks.length : Int)) (fin := id) (a0 := a) (fun k b => b = a + ((((f.Odd.take k).map (·.Ticks.length)).sum : Nat) : Int) ∧ b ≤ a + k * 8796093022207) ⟨by simp, by simp⟩ (fun k x b hk ⟨ha, hb⟩ => by
   obtain ⟨q1, q2⟩ := Z8J hk
   have hx := lenO x (List.mem_of_getElem? hk)
   have hkl : k < f.Odd.length := by omega
   have h0 : 0 ≤ b := by rw [ha, h2]; omega
   unfold Z05.s1;simp only;rw [Zz q2, cond_true, q1, Zm (x := (k : Int) + 1) (by omega)]
   simp only [Option.bind_some];rw [Zm (x := b + (x.Ticks.length : Int)) (by omega)]
   refine ⟨rfl, ?_, by push_cast; omega⟩
   rw [sum_take _ hkl];rw [List.getElem?_eq_getElem hkl] at hk;cases hk; rw [ha]; push_cast; omega) (fun a _ => by unfold Z05.s1; simp only; rw [Z0D (by omega)]; rfl)
 rw [List.take_length] at h5
 unfold Z05
 rw [h1]
 simp only [Option.bind_some, id]
 rw [h4]
 simp only [Option.bind_some, id, h5, h2, Z4m]
 push_cast; rfl
structure RightF (f : Form) : Prop where
 shape : Shape f
 turns : Turns f
 beside : ∀ g ∈ f.Odd, Beside f g.Index
def LongF (f : Form) : Prop := 6000 < f.Core.length ∨ 6000 < f.Odd.length ∨ 60000 < Z4m f
theorem Z6f {f : Form} (hl : Lim f) : (LongF f ∧ Z03 f = some 3) ∨ (¬ LongF f ∧ RightF f ∧ Z03 f = some 0) ∨ (¬ LongF f ∧ ¬ RightF f ∧ Z03 f = some 50) := by
 have holen := Z1u (b := 31) hl.odd
 unfold Z03
 by_cases h1 : 6000 < f.Core.length ∨ 6000 < f.Odd.length
 ·have e : (decide ((f.Core.length : Int) > 6000) || decide ((f.Odd.length : Int) > 6000)) = true := by
   rcases h1 with h | h
   ·rw [Zz (show (f.Core.length : Int) > 6000 by omega)]; rfl
   ·rw [Zz (show (f.Odd.length : Int) > 6000 by omega)]; simp
  rw [e];exact .inl ⟨h1.elim .inl (fun h => .inr (.inl h)), rfl⟩
 ·have e : (decide ((f.Core.length : Int) > 6000) || decide ((f.Odd.length : Int) > 6000)) = false := by
   rw [Z0D (show ¬ (f.Core.length : Int) > 6000 by omega), Z0D (show ¬ (f.Odd.length : Int) > 6000 by omega)]; rfl
  rw [e, cond_false, Z7N hl (by omega) (by omega)]
  simp only [Option.bind_some]
  by_cases h2 : 60000 < Z4m f
  ·rw [Zz (show (Z4m f : Int) > 60000 by omega)]
   exact .inl ⟨.inr (.inr h2), rfl⟩
  ·have hnl : ¬ LongF f := by unfold LongF; omega
   rw [Z0D (show ¬ (Z4m f : Int) > 60000 by omega), cond_false]
   obtain ⟨b, hb, hbs⟩ := gran_shape_eq hl
   rw [hb];simp only [Option.bind_some];refine .inr ?_;cases b with
   | false => exact .inr ⟨hnl, fun h => (by have := hbs.2 h.shape; cases this), rfl⟩
   | true =>
    have hs := hbs.1 rfl
    obtain ⟨c, hc, hct⟩ := gran_turns_eq hl hs
    rw [hc];simp only [Option.bind_some, Bool.not_true, cond_false];cases c with
    | false => exact .inr ⟨hnl, fun h => (by have := hct.2 h.turns; cases this), rfl⟩
    | true =>
     simp only [Bool.not_true, cond_false]
     rcases Z3e (l := f.Odd) (step := Z03.s0 f) (fun _ g => Beside f g.Index) (no := .ret 50) (yes := .go ()) (fun k g hk _ => by
       obtain ⟨q1, q2⟩ := Z8J hk
       obtain ⟨b, hb, hbb⟩ := Z9A hl hs (hs.odd g (List.mem_of_getElem? hk)).2
       unfold Z03.s0;rw [Zz q2, cond_true, q1, Zm (by omega)]
       simp only [Option.bind_some, hb];cases b
       ·exact .inr ⟨rfl, fun h => by have := hbb.2 h; cases this⟩
       ·exact .inl ⟨rfl, hbb.1 rfl⟩) (by unfold Z03.s0; rw [Z0D (by omega)]; rfl) with ⟨q1, q2⟩ | ⟨q1, q2⟩
     ·rw [q1];exact .inl ⟨hnl, ⟨hs, hct.1 rfl, fun g hg => by obtain ⟨k, hk⟩ := List.getElem?_of_mem hg; exact q2 k g hk⟩, rfl⟩
     ·rw [q1];exact .inr ⟨hnl, fun h => q2 fun k g hk => h.beside g (List.mem_of_getElem? hk), rfl⟩
def SmallF (f : Form) : Prop := f.Core.length ≤ 12 ∧ f.Odd.length ≤ 8 ∧ Z4m f ≤ 60
theorem Z6L {f : Form} (hl : Lim f) : ∃ b, Z0p f = some b ∧ (b = true ↔ SmallF f) := by
 unfold Z0p
 by_cases h : f.Core.length ≤ 12 ∧ f.Odd.length ≤ 8
 ·rw [Zz (show (f.Core.length : Int) ≤ 12 by omega), Zz (show (f.Odd.length : Int) ≤ 8 by omega), Z7N hl (by omega) (by omega)]
  refine ⟨decide ((Z4m f : Int) ≤ 60), rfl, ?_⟩;rw [decide_eq_true_iff];exact ⟨fun h' => ⟨h.1, h.2, by omega⟩, fun h' => by have := h'.2.2; omega⟩
 ·have e : (decide ((f.Core.length : Int) ≤ 12) && decide ((f.Odd.length : Int) ≤ 8)) = false := by
   by_cases h1 : f.Core.length ≤ 12
   ·rw [Z0D (show ¬ (f.Odd.length : Int) ≤ 8 by omega)]; simp
   ·rw [Z0D (show ¬ (f.Core.length : Int) ≤ 12 by omega)]; rfl
  rw [e];exact ⟨false, rfl, fun h => (by cases h), fun h' => absurd ⟨h'.1, h'.2.1⟩ h⟩
end Go.Dn

namespace Go.Dn
open Go
theorem Z2c {f : Form} {l : List Span} : l ∈ full f ↔ l ∈ f.Core ∧ l ≠ [] := by
 unfold full
 rw [List.mem_filter, decide_eq_true_iff, gt_iff_lt, List.length_pos_iff]
theorem full_pair {f : Form} (hs : Shape f) (ht : Turns f) : (full f).Pairwise (fun a b => lstT a < fstT b) := by
 have hm : ∀ x ∈ full f, fstT x ≤ lstT x := fun x hx => Z53 (hs.core x (Z2c.1 hx).1) (Z2c.1 hx).2
 have h1 := ht.1
 generalize full f = l at hm h1
 induction l with
 | nil => exact .nil
 | cons x l ih =>
  have ih := ih (fun y hy => hm y (List.mem_cons_of_mem _ hy)) (fun k a b ha hb => h1 (k + 1) a b ha hb)
  refine List.pairwise_cons.2 ⟨fun y hy => ?_, ih⟩
  cases l with
  | nil => cases hy
  | cons z l =>
   have hxz := h1 0 x z rfl rfl
   rcases List.mem_cons.1 hy with rfl | hy
   ·exact hxz
   ·have := (List.pairwise_cons.1 ih).1 y hy
    have := hm z (by simp)
    omega
theorem core_pair {f : Form} (hs : Shape f) (ht : Turns f) {j k : Nat} {a b : List Span} (hjk : j < k) (ha : f.Core[j]? = some a) (hb : f.Core[k]? = some b) (na : a ≠ []) (nb : b ≠ []) : lstT a < fstT b := by
 have h := full_pair hs ht
 unfold full at h
 rw [List.pairwise_filter] at h
 have hj := (List.getElem?_eq_some_iff.1 ha)
 have hk := (List.getElem?_eq_some_iff.1 hb)
 obtain ⟨hj, rfl⟩ := hj
 obtain ⟨hk, rfl⟩ := hk
 exact List.pairwise_iff_getElem.1 h j k hj hk hjk (by rw [decide_eq_true_iff]; exact List.length_pos_iff.2 na) (by rw [decide_eq_true_iff]; exact List.length_pos_iff.2 nb)
theorem core_turn {f : Form} (hs : Shape f) (ht : Turns f) {a b : List Span} (ha : a ∈ f.Core) (hb : b ∈ f.Core) (na : a ≠ []) (nb : b ≠ []) : lstT a < fstT b + f.Period := by
 have hA := Z2c.2 ⟨ha, na⟩
 have hB := Z2c.2 ⟨hb, nb⟩
 have hm : ∀ x ∈ full f, fstT x ≤ lstT x := fun x hx => Z53 (hs.core x (Z2c.1 hx).1) (Z2c.1 hx).2
 have hn : full f ≠ [] := List.ne_nil_of_mem hA
 have hlast := List.getLast?_eq_some_getLast hn
 have hhead := List.head?_eq_some_head hn
 have h2 := ht.2 _ _ hlast hhead
 have hp := full_pair hs ht
 have e1 : lstT a ≤ lstT ((full f).getLast hn) := by
  obtain ⟨j, hj⟩ := List.getElem?_of_mem hA
  obtain ⟨hjl, hj⟩ := List.getElem?_eq_some_iff.1 hj
  by_cases hc : j = (full f).length - 1
  ·subst hc;rw [List.getLast_eq_getElem, hj];exact Int.le_refl _
  ·have := List.pairwise_iff_getElem.1 hp j ((full f).length - 1) hjl (by omega) (by omega)
   rw [hj] at this;have h5 := hm _ (List.getLast_mem hn)
   rw [List.getLast_eq_getElem] at h5 ⊢;omega
 have e2 : fstT ((full f).head hn) ≤ fstT b := by
  obtain ⟨j, hj⟩ := List.getElem?_of_mem hB
  obtain ⟨hjl, hj⟩ := List.getElem?_eq_some_iff.1 hj
  have hh : (full f).head hn = (full f)[0]'(by omega) := List.head_eq_getElem hn
  by_cases hc : j = 0
  ·subst hc;rw [hh, hj];exact Int.le_refl _
  ·have := List.pairwise_iff_getElem.1 hp 0 j (by omega) hjl (by omega)
   rw [hj, ← hh] at this;have h5 := hm _ (List.head_mem hn)
   omega
 omega
theorem Z9I {f : Form} (hs : Shape f) (h0 : f.Count ≠ 0) (i : Int) : f.Core[(i % f.Count).toNat]? = some (Z0f f i) := by
 have := (Z1F hs h0 i).1
 unfold at? at this
 rwa [if_pos (Int.emod_nonneg i h0)] at this
theorem Z9V {f : Form} (hs : Shape f) (ht : Turns f) (h0 : f.Count ≠ 0) {i k : Int} (hik : i < k) (ni : Z0f f i ≠ []) (nk : Z0f f k ≠ []) : lstT (Z0f f i) + Z3d f i < fstT (Z0f f k) + Z3d f k := by
 have hp := Z7T hs h0
 have di := Int.emod_add_mul_ediv i f.Count
 have dk := Int.emod_add_mul_ediv k f.Count
 have mi := Int.emod_nonneg i h0
 have mk := Int.emod_nonneg k h0
 have li := Int.emod_lt_of_pos i hp
 have lk := Int.emod_lt_of_pos k hp
 have hq : i / f.Count ≤ k / f.Count := Int.ediv_le_ediv hp (by omega)
 unfold Z3d
 rcases Int.lt_or_eq_of_le hq with h | h
 ·have h1 := core_turn hs ht (Z1F hs h0 i).2 (Z1F hs h0 k).2 ni nk
  have h2 : (i / f.Count + 1) * f.Period ≤ k / f.Count * f.Period := Int.mul_le_mul_of_nonneg_right (by omega) hs.per.1
  rw [Int.add_mul, Int.one_mul] at h2;omega
 ·rw [h] at di ⊢;have : i % f.Count < k % f.Count := by omega
  have h1 := core_pair hs ht (j := (i % f.Count).toNat) (k := (k % f.Count).toNat) (by omega) (Z9I hs h0 i) (Z9I hs h0 k) ni nk
  omega
theorem Z4j {l : List Span} (d : Int) (hn : l ≠ []) : lstT (l.map (Zy d)) = lstT l + d ∧ fstT (l.map (Zy d)) = fstT l + d := by
 unfold lstT fstT
 rw [List.getLast?_map, List.head?_map, List.getLast?_eq_some_getLast hn, List.head?_eq_some_head hn]
 exact ⟨rfl, rfl⟩
theorem under_some {f : Form} (hl : Lim f) (hs : Shape f) {i k : Int} (hk : In64 k) (hik : i < k) (ti : ZK i) (ni : Zd f i ≠ []) : ∃ j, Under f k (j, true) ∧ i ≤ j := by
 obtain ⟨r, _, h⟩ := Z46 hl hs hk
 obtain ⟨j, b⟩ := r
 have h' := h
 rcases h with ⟨rfl, h1, h2, h3, h4⟩ | ⟨rfl, _, h4⟩
 ·refine ⟨j, h', ?_⟩;apply Classical.byContradiction;intro hc;exact ni (h4 i hik (by simp only; omega) ti)
 ·exact absurd (h4 i hik ti) ni
theorem above_some {f : Form} (hl : Lim f) (hs : Shape f) {i k : Int} (hk : In64 k) (hik : k < i) (ti : ZK i) (ni : Zd f i ≠ []) : ∃ j, Above f k (j, true) ∧ j ≤ i := by
 obtain ⟨r, _, h⟩ := Z4E hl hs hk
 obtain ⟨j, b⟩ := r
 have h' := h
 rcases h with ⟨rfl, h1, h2, h3, h4⟩ | ⟨rfl, _, h4⟩
 ·refine ⟨j, h', ?_⟩;apply Classical.byContradiction;intro hc;exact ni (h4 i hik (by simp only; omega) ti)
 ·exact absurd (h4 i hik ti) ni
theorem RightF.order {f : Form} (hl : Lim f) (hr : RightF f) : ∀ (n : Nat) (i k : Int), (k - i).toNat = n → i < k → ZK i → ZK k → fits f i → fits f k → Zd f i ≠ [] → Zd f k ≠ [] → lstT (Zd f i) < fstT (Zd f k) := by
 have hs := hr.shape
 intro n
 induction n using Nat.strongRecOn with
 | _ n ih =>
  intro i k hn hik ti tk fi fk ni nk
  by_cases ok : Z1j f k
  ·obtain ⟨g, hg, rfl⟩ := ok
   obtain ⟨j, hj, hij⟩ := under_some hl hs (Z26 tk) hik ti ni
   obtain ⟨hi', _, hab⟩ := Z4E hl hs (Z26 tk)
   obtain ⟨_, hlo, _, _⟩ := hr.beside g hg _ _ hj hab
   obtain ⟨fj, aj⟩ := hlo rfl
   have hj2 := hj
   rcases hj2 with ⟨_, j1, j2, j3, j4⟩ | ⟨h, _⟩
   ·simp only at fj aj j1 j2 j3;have hjk := (Z9e j3 nk).1 aj
    by_cases hji : i = j
    ·rw [hji]; exact hjk
    ·have h1 := ih (j - i).toNat (by omega) i j rfl (by omega) ti j2 fi fj ni j3
     have h2 := Z53 (Z8q hs fj) j3
     omega
   ·cases h
  ·by_cases oi : Z1j f i
   ·obtain ⟨g, hg, rfl⟩ := oi
    obtain ⟨j, hj, hij⟩ := above_some hl hs (Z26 ti) hik tk nk
    obtain ⟨lo', _, hun⟩ := Z46 hl hs (Z26 ti)
    obtain ⟨_, _, hhi, _⟩ := hr.beside g hg _ _ hun hj
    obtain ⟨fj, aj⟩ := hhi rfl
    have hj2 := hj
    rcases hj2 with ⟨_, j1, j2, j3, j4⟩ | ⟨h, _⟩
    ·simp only at fj aj j1 j2 j3;have hjk := (Z9e ni j3).1 aj
     by_cases hji : j = k
     ·rw [← hji]; exact hjk
     ·have h1 := ih (k - j).toNat (by omega) j k rfl (by omega) j2 tk fj fk j3 nk
      have h2 := Z53 (Z8q hs fj) j3
      omega
    ·cases h
   ·have h0 : f.Count ≠ 0 := fun h => ni (Z2M oi h)
    have ni' := fun h => ni ((Z1h oi h0).2 h)
    have nk' := fun h => nk ((Z1h ok h0).2 h)
    rw [Z2E oi h0, Z2E ok h0, (Z4j _ ni').1, (Z4j _ nk').2];exact Z9V hs hr.turns h0 hik ni' nk'
end Go.Dn

namespace Go.Dn
open Go
theorem Above.tick {f : Form} {i : Int} {r : Int × Bool} (h : Above f i r) (hr : r.2 = true) : i < r.1 ∧ ZK r.1 ∧ Zd f r.1 ≠ [] ∧ ∀ k, i < k → k < r.1 → ZK k → Zd f k = [] := by
 rcases h with ⟨_, h1, h2, h3, h4⟩ | ⟨h, _⟩
 ·exact ⟨h1, h2, h3, h4⟩
 ·rw [hr] at h; cases h
theorem Under.tick {f : Form} {i : Int} {r : Int × Bool} (h : Under f i r) (hr : r.2 = true) : r.1 < i ∧ ZK r.1 ∧ Zd f r.1 ≠ [] ∧ ∀ k, k < i → r.1 < k → ZK k → Zd f k = [] := by
 rcases h with ⟨_, h1, h2, h3, h4⟩ | ⟨h, _⟩
 ·exact ⟨h1, h2, h3, h4⟩
 ·rw [hr] at h; cases h
end Go.Dn

namespace Go.Dn
open Go
theorem Z4s {α β : Type} {a : List α} {b : List β} {step : Int → Option (Int ⊕ Jx Unit Bool)} {eq : α → β → Option Bool} (P : α → β → Prop)
  (hl : (a.length : Int) < 9223372036854775807) (hab : a.length = b.length)
  (heq : ∀ (k : Nat) x y, a[k]? = some x → b[k]? = some y → ∃ r, eq x y = some r ∧ (r = true ↔ P x y))
  (hstep : ∀ s, step s = bif decide (s < (a.length : Int)) then (at? a s).bind fun x1 => (at? b s).bind fun x2 => (eq x1 x2).bind fun x3 => bif (!x3) then some (.inr (.ret false)) else some (.inl (w64 (s + 1))) else some (.inr (.go ()))) :
  (ZN step 0 = some (.go ()) ∧ ∀ (k : Nat) x y, a[k]? = some x → b[k]? = some y → P x y) ∨ (ZN step 0 = some (.ret false) ∧ ¬ ∀ (k : Nat) x y, a[k]? = some x → b[k]? = some y → P x y) := by
 rcases Z3e (l := a) (step := step) (fun k x => ∀ y, b[k]? = some y → P x y) (no := .ret false) (yes := .go ()) (fun k x hk hp => by
  have hlt := (List.getElem?_eq_some_iff.1 hk).1
  have hat : at? a (k : Int) = some x := by rw [at?_nat hlt]; rw [List.getElem?_eq_getElem hlt] at hk; exact hk
  have hbt : at? b (k : Int) = some (b[k]'(by omega)) := at?_nat (by omega)
  have hbk : b[k]? = some (b[k]'(by omega)) := List.getElem?_eq_getElem (by omega)
  obtain ⟨r, h1, h2⟩ := heq k x _ hk hbk
  rw [hstep, Zz (show (k : Int) < a.length by omega), cond_true, hat, hbt, Zm (show _ by omega)]
  simp only [Option.bind_some, h1];cases r with
  | true => exact .inl ⟨rfl, fun y hy => by rw [hbk] at hy; cases hy; exact h2.1 rfl⟩
  | false => exact .inr ⟨rfl, fun h => by have := h2.2 (h _ hbk); cases this⟩) (by
  rw [hstep, Z0D (by omega)]; rfl) with ⟨h1, h2⟩ | ⟨h1, h2⟩
 ·exact .inl ⟨h1, fun k x y hx hy => h2 k x hx y hy⟩
 ·exact .inr ⟨h1, fun h => h2 fun k x hx y hy => h k x y hx hy⟩
theorem Z8w {a b : List Span} {d : Int} (hl : a.length = b.length) : (∀ (k : Nat) x y, a[k]? = some x → b[k]? = some y → y.From - x.From = d ∧ y.To - x.To = d) ↔ b = a.map (Zy d) := by
 constructor
 ·intro h;apply List.ext_getElem?;intro k
  by_cases hk : k < a.length
  ·have h1 : a[k]? = some a[k] := List.getElem?_eq_getElem hk
   have h2 : b[k]? = some (b[k]'(by omega)) := List.getElem?_eq_getElem (by omega)
   rw [h2, List.getElem?_map, h1];obtain ⟨q1, q2⟩ := h k _ _ h1 h2
   simp only [Option.map_some, Zy, Option.some.injEq];generalize b[k]'(by omega) = y at q1 q2 ⊢
   obtain ⟨y1, y2⟩ := y
   simp only at q1 q2;simp only [Span.mk.injEq];omega
  ·rw [List.getElem?_eq_none (by omega), List.getElem?_eq_none (by simp; omega)]
 ·rintro rfl k x y hx hy;rw [List.getElem?_map, hx] at hy;simp only [Option.map_some, Option.some.injEq] at hy;subst hy;simp only [Zy];omega
theorem Z81 {a b : List Span} {d : Int} (ha : RightL a) (hb : RightL b) (hl : Len a) : ∃ r, Z1W a b d = some r ∧ (r = true ↔ b = a.map (Zy d)) := by
 have hl' : (a.length : Int) < 9223372036854775807 := by have := Z1G; unfold Len at hl; omega
 unfold Z1W ZA
 by_cases hlen : a.length = b.length
 ·rw [Z5Y (by omega), cond_false]
  have tk : ∀ {l : List Span}, RightL l → ∀ (k : Nat) s, l[k]? = some s → ZK s.From ∧ ZK s.To := fun {l} h k s hs => by
   have := Z55.1 h k s hs
   unfold Z3g at this;exact ⟨this.1, this.2.1⟩
  rcases Z4s (a := a) (b := b) (step := ZA.s0 a b (fun z0 z1 => some (Z0y z0 z1 d))) (eq := fun z0 z1 => some (Z0y z0 z1 d)) (fun x y => y.From - x.From = d ∧ y.To - x.To = d) hl' hlen (fun k x y hx hy => by
   refine ⟨_, rfl, ?_⟩;obtain ⟨x1, x2⟩ := tk ha k x hx
   obtain ⟨y1, y2⟩ := tk hb k y hy
   unfold ZK at x1 x2 y1 y2;unfold Z0y;rw [Zm (by omega), Zm (by omega)]
   simp) (fun s => rfl) with ⟨h1, h2⟩ | ⟨h1, h2⟩
  ·rw [h1];exact ⟨true, rfl, ⟨fun _ => (Z8w hlen).1 h2, fun _ => rfl⟩⟩
  ·rw [h1];refine ⟨false, rfl, by simp only [Bool.false_eq_true, false_iff]; exact fun h => h2 ((Z8w hlen).2 h)⟩
 ·rw [bne_t (by omega), cond_true]
  refine ⟨false, rfl, by simp only [Bool.false_eq_true, false_iff]; rintro rfl; exact hlen (by simp)⟩
end Go.Dn

namespace Go.Dn
open Go
noncomputable def cs (f : Form) (i : Int) : List Span := (Z0f f i).map (Zy (Z3d f i))
theorem Z1A (l : List Span) (a b : Int) : (l.map (Zy a)).map (Zy b) = l.map (Zy (a + b)) := by
 rw [List.map_map]
 congr 1
 funext s
 simp only [Function.comp, Zy, Span.mk.injEq]
 omega
theorem shift_inj {a b : List Span} {d : Int} (h : a.map (Zy d) = b.map (Zy d)) : a = b := by
 have := congrArg (List.map (Zy (-d))) h
 rw [Z1A, Z1A, Int.add_right_neg, Z73, Z73] at this
 exact this
theorem Z4z {f : Form} (h0 : f.Count ≠ 0) (i : Int) : cs f (i + f.Count) = (cs f i).map (Zy f.Period) := by
 unfold cs Z0f Z3d
 rw [Z1A, Int.add_emod_right, Int.add_ediv_of_dvd_right (Int.dvd_refl _), Int.ediv_self h0, Int.add_mul, Int.one_mul]
theorem Z7D {f : Form} (h0 : f.Count ≠ 0) (i k : Int) : cs f (i + f.Count * k) = (cs f i).map (Zy (k * f.Period)) := by
 unfold cs Z0f Z3d
 rw [Z1A, Int.add_mul_emod_self_left, Int.add_mul_ediv_left _ _ h0, Int.add_mul]
theorem Z2e {f : Form} {i : Int} (h0 : 0 ≤ i) (h1 : i < f.Count) : cs f i = f.Core.getD i.toNat [] := by
 unfold cs Z0f Z3d
 rw [Int.emod_eq_of_lt h0 h1, Int.ediv_eq_zero_of_lt h0 h1, Int.zero_mul, Z73]
def TurnZ (f : Form) (d q : Int) : Prop := ∀ i, cs f (i + d) = (cs f i).map (Zy q)
theorem turn_of {f : Form} (h0 : 0 < f.Count) {d q : Int} (h : ∀ i, 0 ≤ i → i < f.Count → cs f (i + d) = (cs f i).map (Zy q)) : TurnZ f d q := by
 intro i
 have e : i = i % f.Count + f.Count * (i / f.Count) := (Int.emod_add_mul_ediv i f.Count).symm
 have h1 := h (i % f.Count) (Int.emod_nonneg i (by omega)) (Int.emod_lt_of_pos i h0)
 have e2 : i + d = (i % f.Count + d) + f.Count * (i / f.Count) := by omega
 rw [e2, Z7D (by omega), h1]
 conv => rhs; rw [e, Z7D (by omega)]
 rw [Z1A, Z1A, Int.add_comm]
def Z4x (f : Form) (d k : Int) : Int := if k + d ≥ f.Count then k + d - f.Count else k + d
def Z66 (f : Form) (d k : Int) : Int := if k + d ≥ f.Count then f.Period else 0
theorem wrap_cs {f : Form} {d k : Int} (hd : 1 ≤ d) (hdn : d ≤ f.Count) (h0 : 0 ≤ k) (h1 : k < f.Count) : 0 ≤ Z4x f d k ∧ Z4x f d k < f.Count ∧ cs f (k + d) = (cs f (Z4x f d k)).map (Zy (Z66 f d k)) := by
 unfold Z4x Z66
 by_cases h : k + d ≥ f.Count
 ·rw [if_pos h, if_pos h];refine ⟨by omega, by omega, ?_⟩
  rw [← Z4z (by omega)]
  congr 1; omega
 ·rw [if_neg h, if_neg h, Z73];exact ⟨by omega, by omega, rfl⟩
theorem canon_turn_eq {f : Form} (hl : Lim f) (hs : Shape f) {d q : Int} (hd : 1 ≤ d) (hdn : d ≤ f.Count) (hq : 0 ≤ q ∧ q ≤ 1099511627776) : ∃ r, Z0W f d q = some r ∧ (r = true ↔ TurnZ f d q) := by
 have hcl : (f.Core.length : Int) < 4611686018427387904 := Z1u (b := 23) hl.core
 have hcnt := hs.count
 have key : ∀ k : Int, 0 ≤ k → k < f.Count → (cs f (Z4x f d k) = (cs f k).map (Zy (q - Z66 f d k)) ↔ cs f (k + d) = (cs f k).map (Zy q)) := fun k k0 k1 => by
  obtain ⟨_, _, h⟩ := wrap_cs hd hdn k0 k1
  rw [h]
  constructor
  ·intro e;rw [e, Z1A]
   congr 2; omega
  ·intro e;apply shift_inj (d := Z66 f d k)
   rw [e, Z1A]
   congr 2; omega
 unfold Z0W
 rcases Z3e (l := f.Core) (step := Z0W.s0 f d q) (fun k x => cs f (Z4x f d k) = x.map (Zy (q - Z66 f d k))) (no := .ret false) (yes := .go ()) (fun k x hk hp => by
  have hlt := (List.getElem?_eq_some_iff.1 hk).1
  have hat : at? f.Core (k : Int) = some x := by rw [at?_nat hlt]; rw [List.getElem?_eq_getElem hlt] at hk; exact hk
  obtain ⟨w0, w1, _⟩ := wrap_cs (f := f) (k := (k : Int)) hd hdn (by omega) (by omega)
  have hx := hs.core x (List.mem_of_getElem? hk)
  have hlx := (hl.sets x (List.mem_of_getElem? hk)).1
  have hwl : (Z4x f d k).toNat < f.Core.length := by omega
  have hgw : cs f (Z4x f d k) = f.Core[(Z4x f d k).toNat] := by rw [Z2e w0 w1, List.getD_eq_getElem?_getD, List.getElem?_eq_getElem hwl]; rfl
  have hy := hs.core _ (List.getElem_mem hwl)
  have hat2 : at? f.Core (Z4x f d k) = some f.Core[(Z4x f d k).toNat] := at?_lt w0 (by omega)
  have hpk : (bif decide (w64 ((k : Int) + d) ≥ f.Count) then some (w64 (w64 ((k : Int) + d) - f.Count), f.Period) else some (w64 ((k : Int) + d), 0)) = some (Z4x f d k, Z66 f d k) := by
   rw [Zm (show _ by omega)]
   unfold Z4x Z66
   by_cases h : (k : Int) + d ≥ f.Count
   ·rw [Zz h, cond_true, if_pos h, if_pos h, Zm (show _ by omega)]
   ·rw [Z0D h, cond_false, if_neg h, if_neg h]
  obtain ⟨r, h1, h2⟩ := Z81 (d := q - Z66 f d k) hx hy hlx
  have hwp : 0 ≤ Z66 f d k ∧ Z66 f d k ≤ 1099511627776 := by have := hs.per; unfold Z66; split <;> omega
  unfold Z0W.s0;rw [Zz (show (k : Int) < f.Core.length by omega), cond_true, hat]
  simp only [Option.bind_some, hpk, hat2];rw [Zm (show _ by omega), h1]
  simp only [Option.bind_some];rw [hgw];cases r with
  | true => exact .inl ⟨by simp only [Bool.not_true, cond_false, Option.bind_some, Jx.elim]; rw [Zm (show _ by omega)], h2.1 rfl⟩
  | false => exact .inr ⟨rfl, fun h => by have := h2.2 h; cases this⟩) (by
  unfold Z0W.s0; rw [Z0D (by omega)]; rfl) with ⟨h1, h2⟩ | ⟨h1, h2⟩
 ·rw [h1];refine ⟨true, rfl, ⟨fun _ => turn_of (by omega) fun i i0 i1 => ?_, fun _ => rfl⟩⟩
  have hlt : i.toNat < f.Core.length := by omega
  have := h2 i.toNat _ (List.getElem?_eq_getElem hlt)
  rw [Int.toNat_of_nonneg i0] at this;refine (key i i0 i1).1 ?_;rw [this, Z2e i0 i1, List.getD_eq_getElem?_getD, List.getElem?_eq_getElem hlt]; rfl
 ·rw [h1];refine ⟨false, rfl, ⟨(fun h => nomatch h), fun ht => absurd (fun k x hk => ?_) h2⟩⟩
  have hlt := (List.getElem?_eq_some_iff.1 hk).1
  have := (key k (by omega) (by omega)).2 (ht k)
  rw [this, Z2e (by omega) (by omega), List.getD_eq_getElem?_getD, Int.toNat_natCast, hk]; rfl
end Go.Dn

namespace Go.Dn
open Go
structure Good (f : Form) (d : Int) : Prop where
 pos : 1 ≤ d
 dvd : d ∣ f.Count
 rest : f.Period % (f.Count / d) = 0
 turn : TurnZ f d (f.Period / (f.Count / d))
theorem good_self {f : Form} (h0 : 0 < f.Count) : Good f f.Count := by
 have e : f.Count / f.Count = 1 := Int.ediv_self (by omega)
 exact ⟨by omega, Int.dvd_refl _, by rw [e]; omega, by rw [e, Int.ediv_one]; exact Z4z (by omega)⟩
theorem copy_loop {x4 : List (List Span)} (hc : x4.length * 24 ≤ reachBytes) (hs : ∀ l ∈ x4, Len l) : ZN (Zo.s1 x4) (0, []) = some x4 := by
 have hcl : (x4.length : Int) < 4611686018427387904 := Z1u (b := 23) hc
 have hr := Z1G
 have hro := Z5L
 refine Z1y (I := fun s r => r = x4 ∧ ∃ k : Nat, k ≤ x4.length ∧ s = ((k : Int), x4.take k)) (fun s => x4.length - s.1.toNat) ?_ ⟨rfl, 0, Nat.zero_le _, rfl⟩
 rintro s r ⟨rfl, k, hk, rfl⟩
 unfold Zo.s1
 by_cases hlt : k < r.length
 ·left
  have hl := hs _ (List.getElem_mem hlt)
  unfold Len at hl;have hcp : clone? 16 r[k] = some r[k] := by unfold clone?; rw [if_pos (by omega)]
  have hap : app? 24 (r.take k) [r[k]] = some (r.take (k + 1)) := by
   rw [app?_ok (by simp only [List.length_take, List.length_cons, List.length_nil]; have : min k r.length + 1 ≤ r.length := (by omega); have := Nat.mul_le_mul_right 24 this; omega)]
   rw [List.take_append_getElem hlt]
  refine ⟨((k : Int) + 1, r.take (k + 1)), ?_, ⟨rfl, k + 1, hlt, by push_cast; rfl⟩, by simp; omega⟩
  rw [Zz (show (k : Int) < r.length by omega), cond_true, at?_nat hlt]
  simp only [Option.bind_some, hcp, hap];rw [Zm (show _ by omega)]
 ·right
  have : k = r.length := by omega
  subst this;rw [Z0D (show ¬ ((r.length : Int) < r.length) by omega), cond_false, List.take_length]
theorem core_b0_eq {f : Form} (hl : Lim f) (hs : Shape f) {d : Int} (hd : 1 ≤ d) (hdn : d ∣ f.Count) (h0 : 0 < f.Count) :
  (Good f d ∧ Zo.b0 f ([], 0, 0) d = some ((f.Core.take d.toNat, f.Period / (f.Count / d), d), 1)) ∨ (¬ Good f d ∧ Zo.b0 f ([], 0, 0) d = some (([], 0, 0), 0)) := by
 have hle : d ≤ f.Count := Int.le_of_dvd h0 hdn
 have hcl : (f.Core.length : Int) < 4611686018427387904 := Z1u (b := 23) hl.core
 have hcnt := hs.count
 have hm : 0 < f.Count / d := Int.ediv_pos_of_pos_of_dvd h0 (by omega) hdn
 have hmle : f.Count / d ≤ f.Count := Int.ediv_le_self _ (by omega)
 have htd : f.Count.tdiv d = f.Count / d := Int.tdiv_eq_ediv_of_nonneg (by omega)
 have hq : 0 ≤ f.Period / (f.Count / d) ∧ f.Period / (f.Count / d) ≤ 1099511627776 := by
  have h1 := hs.per
  have h2 : f.Period / (f.Count / d) ≤ f.Period := Int.ediv_le_self _ h1.1
  have h3 : 0 ≤ f.Period / (f.Count / d) := Int.ediv_nonneg h1.1 (by omega)
  omega
 have hfl : Z0l f.Period (w64 (f.Count.tdiv d)) = some (f.Period / (f.Count / d), f.Period % (f.Count / d), 0) := by
  rw [htd, Zm (show _ by omega), Z4X hl.period (by unfold In64; omega), Z72 hm]
 unfold Zo.b0
 rw [nz?_ok (by omega), hfl]
 simp only [Option.bind_some]
 by_cases hr : f.Period % (f.Count / d) = 0
 ·rw [Z5Y hr, cond_false];obtain ⟨r, h1, h2⟩ := canon_turn_eq hl hs hd hle hq
  rw [h1];cases r with
  | true =>
   left
   refine ⟨⟨hd, hdn, hr, h2.1 rfl⟩, ?_⟩;have hcut : cut? f.Core 0 d = some (f.Core.take d.toNat) := by
    unfold cut?;rw [if_pos ⟨by omega, by omega, by omega⟩]
    rfl
   simp only [Option.bind_some, Bool.not_true, cond_false, hcut];have := copy_loop (x4 := f.Core.take d.toNat) (by have := hl.core; simp only [List.length_take]; have h := Nat.mul_le_mul_right 24 (Nat.min_le_right d.toNat f.Core.length); omega) (fun l hl' => (hl.sets l (List.mem_of_mem_take hl')).1)
   rw [this]
   rfl
  | false =>
   right
   exact ⟨fun g => (by have := h2.2 g.turn; cases this), rfl⟩
 ·right
  refine ⟨fun g => hr g.rest, ?_⟩
  rw [bne_t hr]
  rfl
theorem least_good {f : Form} (h0 : 0 < f.Count) : ∃ d, Good f d ∧ ∀ d', Good f d' → d ≤ d' := by
 have : ∃ n : Nat, Good f n := ⟨f.Count.toNat, by rw [Int.toNat_of_nonneg (by omega)]; exact good_self h0⟩
 obtain ⟨n, hn⟩ := this
 induction n using Nat.strongRecOn with
 | _ n ih =>
  by_cases h : ∃ m : Nat, m < n ∧ Good f m
  ·obtain ⟨m, h1, h2⟩ := h
   exact ih m h1 h2
  ·refine ⟨n, hn, fun d' hd' => ?_⟩
   apply Classical.byContradiction;intro hlt;have := hd'.pos
   exact h ⟨d'.toNat, by omega, by rw [Int.toNat_of_nonneg (by omega)]; exact hd'⟩
theorem canon_bare_eq {f : Form} (hl : Lim f) : Z2r f = Z2V f := by
 unfold Z2r Z2V
 rfl
theorem canon_core_eq {f : Form} (hl : Lim f) (hs : Shape f) : (Bare f ∧ Zo f = some (Form.mk 0 0 [] [])) ∨
  (¬ Bare f ∧ 0 < f.Count ∧ ∃ d, Good f d ∧ (∀ d', Good f d' → d ≤ d') ∧ Zo f = some (Form.mk (f.Period / (f.Count / d)) d (f.Core.take d.toNat) [])) := by
 have hcl : (f.Core.length : Int) < 4611686018427387904 := Z1u (b := 23) hl.core
 have hcnt := hs.count
 obtain ⟨b, h1, h2⟩ := Z58 hl
 unfold Zo
 rw [canon_bare_eq hl, h1]
 cases b with
 | true => exact .inl ⟨h2.1 rfl, rfl⟩
 | false =>
  right
  have hnb : ¬ Bare f := fun h => by have := h2.2 h; cases this
  have h0 : 0 < f.Count := by
   rcases Nat.eq_zero_or_pos f.Core.length with h | h
   ·exact absurd (fun l hl' => by rw [List.length_eq_zero_iff.1 h] at hl'; cases hl') hnb
   ·omega
  obtain ⟨d, hg, hmin⟩ := least_good h0
  refine ⟨hnb, h0, d, hg, hmin, ?_⟩;have hdn : d ≤ f.Count := Int.le_of_dvd h0 hg.dvd
  have hd1 := hg.pos
  have hloop : ZN (Zt.s0 f.Count (Z2Z (Zo.b0 f))) (1, (([], 0, 0), 0)) = some (.ret ((f.Core.take d.toNat, f.Period / (f.Count / d), d), 1)) := by
   refine Z1y (I := fun s r => r = .ret ((f.Core.take d.toNat, f.Period / (f.Count / d), d), 1) ∧ ∃ k : Int, 1 ≤ k ∧ k ≤ d ∧ s = (k, (([], 0, 0), 0))) (fun s => (d - s.1).toNat) ?_ ⟨rfl, 1, by omega, hd1, rfl⟩
   rintro s r ⟨rfl, k, k1, k2, rfl⟩;unfold Zt.s0;rw [Zz (show k ≤ f.Count by omega), cond_true, nz?_ok (by omega)]
   simp only [Option.bind_some]
   by_cases hkd : k ∣ f.Count
   ·rw [beq_t (show f.Count.tmod k = 0 from Int.tmod_eq_zero_of_dvd hkd), cond_true]
    rcases core_b0_eq hl hs k1 hkd h0 with ⟨g, e⟩ | ⟨g, e⟩
    ·have : k = d := by have := hmin k g; omega
     subst this
     right
     simp only [Z2Z, if_true, e, Option.map_some, Option.bind_some]
     rfl
    ·left
     have hne : k ≠ d := fun h => g (h ▸ hg)
     refine ⟨(k + 1, (([], 0, 0), 0)), ?_, ⟨trivial, k + 1, by omega, by omega, rfl⟩, by simp; omega⟩
     simp only [Z2Z, if_true, e, Option.map_some, Option.bind_some];rw [Zm (show _ by omega)]
     rfl
   ·left
    have hne : k ≠ d := fun h => hkd (h ▸ hg.dvd)
    refine ⟨(k + 1, (([], 0, 0), 0)), ?_, ⟨trivial, k + 1, by omega, by omega, rfl⟩, by simp; omega⟩
    rw [Z5x (fun h => hkd (Int.dvd_of_tmod_eq_zero h)), cond_false]
    simp only [Option.bind_some, cond_false];rw [Zm (show _ by omega)]
  unfold Zt;rw [hloop]
  rfl
end Go.Dn

namespace Go.Dn
open Go
def Turn (h : Int → List Span) (d q : Int) : Prop := ∀ i, h (i + d) = (h i).map (Zy q)
theorem Turn.neg {h : Int → List Span} {d q : Int} (t : Turn h d q) : Turn h (-d) (-q) := fun i => by
 have := t (i + -d)
 rw [show i + -d + d = i by omega] at this
 rw [this, Z1A, Int.add_right_neg, Z73]
theorem Turn.add {h : Int → List Span} {d q d' q' : Int} (t : Turn h d q) (t' : Turn h d' q') : Turn h (d + d') (q + q') := fun i => by
 rw [show i + (d + d') = (i + d) + d' by omega, t', t, Z1A]
theorem Turn.zero (h : Int → List Span) : Turn h 0 0 := fun i => by rw [Int.add_zero, Z73]
theorem Turn.nat {h : Int → List Span} {d q : Int} (t : Turn h d q) : ∀ k : Nat, Turn h (k * d) (k * q)
 | 0 => by simpa using Turn.zero h
 | k + 1 => by
  have := (Turn.nat t k).add t
  push_cast
  rw [Int.add_mul, Int.one_mul, Int.add_mul, Int.one_mul];exact this
theorem Turn.mul {h : Int → List Span} {d q : Int} (t : Turn h d q) (k : Int) : Turn h (k * d) (k * q) := by
 rcases Int.natAbs_eq k with e | e
 ·rw [e]; exact t.nat _
 ·rw [e, Int.neg_mul, Int.neg_mul]; exact (t.nat _).neg
theorem Turn.agree {h h' : Int → List Span} {d q a : Int} (t : Turn h d q) (t' : Turn h' d q) (hd : 0 < d) (he : ∀ i, a ≤ i → i < a + d → h i = h' i) : h = h' := by
 funext i
 have e : i = ((i - a) % d + a) + (i - a) / d * d := by
  have := Int.emod_add_mul_ediv (i - a) d
  rw [Int.mul_comm] at this;omega
 have h1 := Int.emod_nonneg (i - a) (show d ≠ 0 by omega)
 have h2 := Int.emod_lt_of_pos (i - a) hd
 rw [e, t.mul, t'.mul, he _ (by omega) (by omega)]
noncomputable def csz (f : Form) (i : Int) : List Span := if f.Count = 0 then [] else cs f i
theorem Z2l {f : Form} (h0 : 0 < f.Count) : csz f = cs f := by funext i; exact if_neg (by omega)
theorem Z3J {f : Form} {i : Int} (h : ¬ Z1j f i) : Zd f i = csz f i := by
 unfold csz
 by_cases h0 : f.Count = 0
 ·rw [if_pos h0, Z2M h h0]
 ·rw [if_neg h0, Z2E h h0]; rfl
theorem csz_bare {f : Form} (hs : Shape f) (hb : Bare f) (i : Int) : csz f i = [] := by
 unfold csz
 by_cases h0 : f.Count = 0
 ·rw [if_pos h0]
 ·rw [if_neg h0]; unfold cs; rw [hb _ (Z1F hs h0 i).2]; rfl
def Z11 (f c : Form) : Prop := (Bare f ∧ c = Form.mk 0 0 [] []) ∨ (¬ Bare f ∧ 0 < f.Count ∧ ∃ d, Good f d ∧ (∀ d', Good f d' → d ≤ d') ∧ c = Form.mk (f.Period / (f.Count / d)) d (f.Core.take d.toNat) [])
theorem canon_core_ok {f : Form} (hl : Lim f) (hs : Shape f) : ∃ c, Zo f = some c ∧ Z11 f c := by
 rcases canon_core_eq hl hs with ⟨h1, h2⟩ | ⟨h1, h2, d, h3, h4, h5⟩
 ·exact ⟨_, h2, .inl ⟨h1, rfl⟩⟩
 ·exact ⟨_, h5, .inr ⟨h1, h2, d, h3, h4, rfl⟩⟩
theorem Z11.odd {f c : Form} (h : Z11 f c) : c.Odd = [] := by
 rcases h with ⟨_, rfl⟩ | ⟨_, _, d, _, _, rfl⟩ <;> rfl
theorem Z11.csz {f c : Form} (hs : Shape f) (h : Z11 f c) : csz c = csz f := by
 rcases h with ⟨hb, rfl⟩ | ⟨hb, h0, d, hg, _, rfl⟩
 ·funext i; rw [csz_bare hs hb]; rfl
 ·have hd := hg.pos
  have hdn : d ≤ f.Count := Int.le_of_dvd h0 hg.dvd
  have hcnt := hs.count
  rw [Z2l h0, Z2l (show 0 < (Form.mk (f.Period / (f.Count / d)) d (f.Core.take d.toNat) []).Count by show 0 < d; omega)]
  refine Turn.agree (a := 0) (d := d) (q := f.Period / (f.Count / d)) (Z4z (f := Form.mk (f.Period / (f.Count / d)) d (f.Core.take d.toNat) []) (show d ≠ 0 by omega)) hg.turn (by omega) (fun i i0 i1 => ?_)
  rw [Z2e i0 (show i < d by omega), Z2e i0 (by omega)]
  show (f.Core.take d.toNat).getD i.toNat [] = _
  rw [List.getD_eq_getElem?_getD, List.getD_eq_getElem?_getD, List.getElem?_take_of_lt (by omega)]
theorem Z11.shape {f c : Form} (hs : Shape f) (h : Z11 f c) : Shape c := by
 rcases h with ⟨hb, rfl⟩ | ⟨hb, h0, d, hg, _, rfl⟩
 ·exact ⟨rfl, by simp, by simp, by simp, by simp, fun j k a b _ h => by simp at h⟩
 ·have hd := hg.pos
  have hdn : d ≤ f.Count := Int.le_of_dvd h0 hg.dvd
  have hcnt := hs.count
  have hm : 0 < f.Count / d := Int.ediv_pos_of_pos_of_dvd h0 (by omega) hg.dvd
  have hp : 0 < f.Period := by
   have := hs.per; have := hs.zero
   rcases Int.lt_or_le 0 f.Period with h | h
   ·exact h
   ·have : f.Period = 0 := by omega
    have := hs.zero.2 this
    omega
  have hq : 0 < f.Period / (f.Count / d) := Int.ediv_pos_of_pos_of_dvd hp (by omega) (Int.dvd_of_emod_eq_zero hg.rest)
  have hq2 : f.Period / (f.Count / d) ≤ f.Period := Int.ediv_le_self _ (by omega)
  refine ⟨?_, ?_, ?_, ?_, by simp, fun j k a b _ h => by simp at h⟩
  ·simp only [List.length_take]; omega
  ·simp only; omega
  ·simp only; have := hs.per; omega
  ·intro l hl'; exact hs.core l (List.mem_of_mem_take hl')
theorem Z11.lim {f c : Form} (hl : Lim f) (hs : Shape f) (h : Z11 f c) : Lim c := by
 have hsc := h.shape hs
 have hn : c.Core.length ≤ f.Core.length ∧ ∀ l ∈ c.Core, l ∈ f.Core := by
  rcases h with ⟨hb, rfl⟩ | ⟨hb, h0, d, hg, _, rfl⟩
  ·exact ⟨Nat.zero_le _, fun l hl' => by cases hl'⟩
  ·exact ⟨by simp only [List.length_take]; omega, fun l hl' => List.mem_of_mem_take hl'⟩
 have hc := hl.core
 have h24 := Nat.mul_le_mul_right 24 hn.1
 have hp := hsc.per
 have hcnt := hsc.count
 have hcl : (f.Core.length : Int) < 4611686018427387904 := Z1u (b := 23) hl.core
 exact ⟨by omega, fun l hl' => hl.sets l (hn.2 l hl'), by rw [h.odd]; simp [Z1G], by rw [h.odd]; simp, by unfold In64; omega, by unfold In64; omega⟩
theorem Z11.Zd {f c : Form} (hs : Shape f) (h : Z11 f c) (i : Int) : Zd c i = Go.Dn.csz f i := by
 rw [Z3J (by rintro ⟨g, hg, _⟩; rw [h.odd] at hg; cases hg), h.csz hs]
theorem Z9L {f c : Form} (hl : Lim f) (hs : Shape f) (h : Z11 f c) {g : Granule} (hg : g ∈ f.Odd) : ∃ r, Z2D c g = some r ∧ (r = true ↔ csz f g.Index = g.Ticks) := by
 obtain ⟨hr, ht⟩ := hs.odd g hg
 have hlc := h.lim hl hs
 have hsc := h.shape hs
 unfold Z2D
 rw [Z3Z hlc hsc (Z26 ht)]
 by_cases hf : fits c g.Index
 ·rw [if_pos ⟨ht, hf⟩];obtain ⟨r, h1, h2⟩ := Z3U (a := Go.Dn.Zd c g.Index) (b := g.Ticks) (Z6B hlc hsc _)
  refine ⟨r, ?_, ?_⟩
  ·simp only [Option.bind_some];rw [beq_t rfl, cond_true, h1]; rfl
  ·rw [h2, h.Zd hs]
 ·rw [if_neg (fun h' => hf h'.2)]
  refine ⟨false, rfl, ⟨(fun h' => nomatch h'), fun e => absurd (fun s hs' => ?_) hf⟩⟩
  rw [h.Zd hs, e] at hs';obtain ⟨k, hk⟩ := List.getElem?_of_mem hs'
  have := Z55.1 hr k s hk
  exact ⟨this.1, this.2.1⟩
open Classical in
noncomputable def oddly (f : Form) (g : Granule) : Bool := decide (¬ csz f g.Index = g.Ticks)
noncomputable def Z0q (f c : Form) : Form := Form.mk c.Period c.Count c.Core (f.Odd.filter (oddly f))
theorem Z1w {f : Form} (hl : Lim f) (hs : Shape f) : ∃ c, Z11 f c ∧ Ze f = some (Z0q f c) := by
 obtain ⟨c, h1, hc⟩ := canon_core_ok hl hs
 refine ⟨c, hc, ?_⟩
 unfold Ze
 rw [h1]
 simp only [Option.bind_some]
 have hol : (f.Odd.length : Int) < 4611686018427387904 := Z1u (b := 31) hl.odd
 have hr := Z1G
 have hro := Z5L
 have : ZN (Ze.s0 f c) (0, []) = some (f.Odd.filter (oddly f)) := by
  refine Z1y (I := fun s r => r = f.Odd.filter (oddly f) ∧ ∃ k : Nat, k ≤ f.Odd.length ∧ s = ((k : Int), (f.Odd.take k).filter (oddly f))) (fun s => f.Odd.length - s.1.toNat) ?_ ⟨rfl, 0, Nat.zero_le _, rfl⟩
  rintro s r ⟨rfl, k, hk, rfl⟩;unfold Ze.s0
  by_cases hlt : k < f.Odd.length
  ·left
   have hmem := List.getElem_mem hlt
   obtain ⟨r, p1, p2⟩ := Z9L hl hs hc hmem
   have htk : f.Odd.take (k + 1) = f.Odd.take k ++ [f.Odd[k]] := (List.take_append_getElem hlt).symm
   have hlen := (hl.ticks _ hmem).2.1
   unfold Len at hlen;refine ⟨((k : Int) + 1, (f.Odd.take (k + 1)).filter (oddly f)), ?_, ⟨rfl, k + 1, hlt, by push_cast; rfl⟩, by simp; omega⟩
   rw [Zz (show (k : Int) < f.Odd.length by omega), cond_true, at?_nat hlt]
   simp only [Option.bind_some, p1];rw [Zm (show _ by omega), htk, List.filter_append]
   cases r with
   | true =>
    have : oddly f f.Odd[k] = false := by unfold oddly; rw [decide_eq_false_iff_not]; exact fun h => h (p2.1 rfl)
    simp only [Bool.not_true, cond_false, Option.bind_some, List.filter_cons, this, Bool.false_eq_true, if_false, List.filter_nil, List.append_nil]
   | false =>
    have : oddly f f.Odd[k] = true := by unfold oddly; rw [decide_eq_true_iff]; exact fun h => by have := p2.2 h; cases this
    have hcp : clone? 16 f.Odd[k].Ticks = some f.Odd[k].Ticks := by unfold clone?; rw [if_pos (by omega)]
    have hfl : ((f.Odd.take k).filter (oddly f)).length ≤ k := by
     have := List.length_filter_le (oddly f) (f.Odd.take k)
     simp only [List.length_take] at this;omega
    have hap : app? 32 ((f.Odd.take k).filter (oddly f)) [Granule.mk f.Odd[k].Index f.Odd[k].Ticks] = some ((f.Odd.take k).filter (oddly f) ++ [f.Odd[k]]) := by
     rw [app?_ok (by simp only [List.length_cons, List.length_nil]; have h3 := hl.odd; have := Nat.mul_le_mul_right 32 (show ((f.Odd.take k).filter (oddly f)).length + 1 ≤ f.Odd.length by omega); omega)]
    simp only [Bool.not_false, cond_true, Option.bind_some, hcp, hap, List.filter_cons, this, if_true, List.filter_nil]
  ·right
   have : k = f.Odd.length := by omega
   subst this;rw [Z0D (show ¬ ((f.Odd.length : Int) < f.Odd.length) by omega), cond_false, List.take_length]
 rw [this]
 rfl
end Go.Dn

namespace Go.Dn
open Go
theorem ext_of {α : Type} {a b : List α} (hl : a.length = b.length) (h : ∀ (k : Nat) x y, a[k]? = some x → b[k]? = some y → x = y) : a = b := by
 apply List.ext_getElem hl
 intro k h1 h2
 exact h k _ _ (List.getElem?_eq_getElem h1) (List.getElem?_eq_getElem h2)
theorem sameSets_eq {x y : List (List Span)} (hc : x.length * 24 ≤ reachBytes) (hs : ∀ l ∈ x, Len l) : ∃ r, ZH x y (fun z0 z1 => Z0K z0 z1) = some r ∧ (r = true ↔ x = y) := by
 have hl : (x.length : Int) < 4611686018427387904 := Z1u (b := 23) hc
 unfold ZH
 by_cases hlen : x.length = y.length
 ·rw [Z5Y (by omega), cond_false]
  rcases Z4s (a := x) (b := y) (step := ZH.s0 x y (fun z0 z1 => Z0K z0 z1)) (eq := fun z0 z1 => Z0K z0 z1) (fun p q => p = q) (by omega) hlen (fun k p q hp hq => Z3U (hs p (List.mem_of_getElem? hp))) (fun s => rfl) with ⟨h1, h2⟩ | ⟨h1, h2⟩
  ·rw [h1]; exact ⟨true, rfl, ⟨fun _ => ext_of hlen h2, fun _ => rfl⟩⟩
  ·rw [h1]; exact ⟨false, rfl, ⟨(fun h => nomatch h), fun e => absurd (fun k p q hp hq => by rw [e, hq] at hp; exact (Option.some.inj hp).symm) h2⟩⟩
 ·rw [bne_t (by omega), cond_true]
  exact ⟨false, rfl, ⟨(fun h => nomatch h), fun e => absurd (congrArg List.length e) hlen⟩⟩
theorem Z68 {x y : Granule} : x = y ↔ x.Index = y.Index ∧ x.Ticks = y.Ticks := by
 obtain ⟨a, b⟩ := x
 obtain ⟨c, d⟩ := y
 simp
theorem Z88 {x y : Granule} (h : Len x.Ticks) : ∃ r, Z16 x y = some r ∧ (r = true ↔ x = y) := by
 unfold Z16
 rw [Z68]
 by_cases hi : x.Index = y.Index
 ·rw [beq_t hi, cond_true];obtain ⟨r, h1, h2⟩ := Z3U (b := y.Ticks) h
  rw [h1];exact ⟨r, rfl, by rw [h2]; exact ⟨fun e => ⟨hi, e⟩, fun e => e.2⟩⟩
 ·rw [Z5x hi, cond_false];exact ⟨false, rfl, ⟨(fun h => nomatch h), fun e => absurd e.1 hi⟩⟩
theorem sameOdd_eq {x y : List Granule} (hc : x.length * 32 ≤ reachBytes) (hs : ∀ g ∈ x, Len g.Ticks) : ∃ r, Z9 x y (fun z0 z1 => Z16 z0 z1) = some r ∧ (r = true ↔ x = y) := by
 have hl : (x.length : Int) < 4611686018427387904 := Z1u (b := 31) hc
 unfold Z9
 by_cases hlen : x.length = y.length
 ·rw [Z5Y (by omega), cond_false]
  rcases Z4s (a := x) (b := y) (step := Z9.s0 x y (fun z0 z1 => Z16 z0 z1)) (eq := fun z0 z1 => Z16 z0 z1) (fun p q => p = q) (by omega) hlen (fun k p q hp hq => Z88 (hs p (List.mem_of_getElem? hp))) (fun s => rfl) with ⟨h1, h2⟩ | ⟨h1, h2⟩
  ·rw [h1]; exact ⟨true, rfl, ⟨fun _ => ext_of hlen h2, fun _ => rfl⟩⟩
  ·rw [h1]; exact ⟨false, rfl, ⟨(fun h => nomatch h), fun e => absurd (fun k p q hp hq => by rw [e, hq] at hp; exact (Option.some.inj hp).symm) h2⟩⟩
 ·rw [bne_t (by omega), cond_true]
  exact ⟨false, rfl, ⟨(fun h => nomatch h), fun e => absurd (congrArg List.length e) hlen⟩⟩
theorem Z4q {a b : Form} : a = b ↔ a.Period = b.Period ∧ a.Count = b.Count ∧ a.Core = b.Core ∧ a.Odd = b.Odd := by
 obtain ⟨a1, a2, a3, a4⟩ := a
 obtain ⟨b1, b2, b3, b4⟩ := b
 simp
theorem Z9Z {a b : Form} (hl : Lim a) : ∃ r, Z2t a b = some r ∧ (r = true ↔ a = b) := by
 unfold Z2t
 rw [Z4q]
 by_cases hp : a.Period = b.Period ∧ a.Count = b.Count
 ·rw [beq_t hp.1, beq_t hp.2];simp only [Bool.and_self, cond_true];obtain ⟨r, h1, h2⟩ := sameSets_eq (y := b.Core) hl.core (fun l h => (hl.sets l h).1)
  rw [h1];simp only [Option.bind_some];cases r with
  | true =>
   obtain ⟨r', h3, h4⟩ := sameOdd_eq (y := b.Odd) hl.odd (fun g h => (hl.ticks g h).2.1)
   rw [cond_true, h3];exact ⟨r', rfl, by rw [h4]; exact ⟨fun e => ⟨hp.1, hp.2, h2.1 rfl, e⟩, fun e => e.2.2.2⟩⟩
  | false =>
   exact ⟨false, rfl, ⟨(fun h => nomatch h), fun e => by have := h2.2 e.2.2.1; cases this⟩⟩
 ·have : ((a.Period == b.Period) && (a.Count == b.Count)) = false := by
   rw [Bool.and_eq_false_iff]
   by_cases h : a.Period = b.Period
   ·exact .inr (Z5x fun h' => hp ⟨h, h'⟩)
   ·exact .inl (Z5x h)
  rw [this];exact ⟨false, rfl, ⟨(fun h => nomatch h), fun e => absurd ⟨e.1, e.2.1⟩ hp⟩⟩
theorem alike_eq {a b : List Span} (ha : Len a) : ∃ r, Zg a b = some r ∧ (r = true ↔ a = b) := by
 have hl : (a.length : Int) < 9223372036854775807 := by have := Z1G; unfold Len at ha; omega
 unfold Zg
 by_cases hlen : a.length = b.length
 ·rw [Z5Y (by omega), cond_false]
  rcases Z4s (a := a) (b := b) (step := Zg.s0 a b) (eq := fun x y => some (decide (y = x))) (fun p q => p = q) hl hlen (fun k p q hp hq => ⟨_, rfl, by rw [decide_eq_true_iff]; exact ⟨Eq.symm, Eq.symm⟩⟩) (fun s => by
   unfold Zg.s0;simp only [span_beq]
   rfl) with ⟨h1, h2⟩ | ⟨h1, h2⟩
  ·rw [h1]; exact ⟨true, rfl, ⟨fun _ => ext_of hlen h2, fun _ => rfl⟩⟩
  ·rw [h1]; exact ⟨false, rfl, ⟨(fun h => nomatch h), fun e => absurd (fun k p q hp hq => by rw [e, hq] at hp; exact (Option.some.inj hp).symm) h2⟩⟩
 ·rw [bne_t (by omega), cond_true]
  exact ⟨false, rfl, ⟨(fun h => nomatch h), fun e => absurd (congrArg List.length e) hlen⟩⟩
theorem alikeForms_eq {a b : Form} (hl : Lim a) : ∃ r, ZU a b = some r ∧ (r = true ↔ a = b) := by
 have hc : (a.Core.length : Int) < 4611686018427387904 := Z1u (b := 23) hl.core
 have ho : (a.Odd.length : Int) < 4611686018427387904 := Z1u (b := 31) hl.odd
 unfold ZU
 rw [Z4q]
 by_cases hp : a.Period = b.Period ∧ a.Count = b.Count ∧ a.Core.length = b.Core.length ∧ a.Odd.length = b.Odd.length
 ·obtain ⟨p1, p2, p3, p4⟩ := hp
  rw [Z5Y p1, Z5Y p2, Z5Y (show (a.Core.length : Int) = b.Core.length by omega), Z5Y (show (a.Odd.length : Int) = b.Odd.length by omega)]
  simp only [Bool.or_self, cond_false]
  rcases Z4s (a := a.Core) (b := b.Core) (step := ZU.s0 a b) (eq := Zg) (fun p q => p = q) (by omega) p3 (fun k p q hp hq => alike_eq (hl.sets p (List.mem_of_getElem? hp)).1) (fun s => rfl) with ⟨h1, h2⟩ | ⟨h1, h2⟩
  ·rw [h1];simp only [Option.bind_some, Jx.elim];have ec := ext_of p3 h2
   rcases Z4s (a := a.Odd) (b := b.Odd) (step := ZU.s1 a b) (eq := fun x y => bif x.Index != y.Index then some false else Zg x.Ticks y.Ticks) (fun p q => p = q) (by omega) p4 (fun k p q hp hq => by
    rw [Z68]
    by_cases hi : p.Index = q.Index
    ·rw [Z5Y hi, cond_false];obtain ⟨r, q1, q2⟩ := alike_eq (b := q.Ticks) (hl.ticks p (List.mem_of_getElem? hp)).2.1
     exact ⟨r, q1, by rw [q2]; exact ⟨fun e => ⟨hi, e⟩, fun e => e.2⟩⟩
    ·rw [bne_t hi, cond_true];exact ⟨false, rfl, ⟨(fun h => nomatch h), fun e => absurd e.1 hi⟩⟩) (fun s => by
    unfold ZU.s1
    rcases e1 : at? a.Odd s with _ | x
    ·rfl
    rcases e2 : at? b.Odd s with _ | y
    ·rfl
    simp only [Option.bind_some];cases x.Index != y.Index with
    | true => rfl
    | false =>
     simp only [cond_false]
     rcases Zg x.Ticks y.Ticks with _ | r
     ·rfl
     ·rfl) with ⟨h3, h4⟩ | ⟨h3, h4⟩
   ·rw [h3]; exact ⟨true, rfl, ⟨fun _ => ⟨p1, p2, ec, ext_of p4 h4⟩, fun _ => rfl⟩⟩
   ·rw [h3]; exact ⟨false, rfl, ⟨(fun h => nomatch h), fun e => absurd (fun k p q hp hq => by rw [e.2.2.2, hq] at hp; exact (Option.some.inj hp).symm) h4⟩⟩
  ·rw [h1]; exact ⟨false, rfl, ⟨(fun h => nomatch h), fun e => absurd (fun k p q hp hq => by rw [e.2.2.1, hq] at hp; exact (Option.some.inj hp).symm) h2⟩⟩
 ·refine ⟨false, ?_, ⟨(fun h => nomatch h), fun e => absurd ⟨e.1, e.2.1, by rw [e.2.2.1], by rw [e.2.2.2]⟩ hp⟩⟩
  have : ((((a.Period != b.Period) || (a.Count != b.Count)) || ((a.Core.length : Int) != (b.Core.length : Int))) || ((a.Odd.length : Int) != (b.Odd.length : Int))) = true := by
   simp only [Bool.or_eq_true, bne_iff_ne, ne_eq];apply Classical.byContradiction;intro hn;apply hp;refine ⟨?_, ?_, ?_, ?_⟩ <;> apply Classical.byContradiction <;> intro h <;> apply hn
   ·exact .inl (.inl (.inl h))
   ·exact .inl (.inl (.inr h))
   ·exact .inl (.inr (by omega))
   ·exact .inr (by omega)
  rw [this]; rfl
end Go.Dn

namespace Go.Dn
open Go
theorem Z2N {l : List Granule} : Inc l ↔ l.Pairwise (fun a b => a.Index < b.Index) := by
 rw [List.pairwise_iff_getElem]
 constructor
 ·intro h i j hi hj hij;exact h i j _ _ hij (List.getElem?_eq_getElem hi) (List.getElem?_eq_getElem hj)
 ·intro h j k a b hjk ha hb;obtain ⟨h1, rfl⟩ := List.getElem?_eq_some_iff.1 ha
  obtain ⟨h2, rfl⟩ := List.getElem?_eq_some_iff.1 hb
  exact h j k h1 h2 hjk
theorem Inc.filter {l : List Granule} (h : Inc l) (p : Granule → Bool) : Inc (l.filter p) := Z2N.2 ((Z2N.1 h).filter p)
theorem Z44 {f c : Form} (hs : Shape f) (h : Z11 f c) : csz (Z0q f c) = csz f := by
 rw [← h.csz hs]; rfl
theorem Z8b {f : Form} {g : Granule} : oddly f g = true ↔ ¬ csz f g.Index = g.Ticks := by unfold oddly; rw [decide_eq_true_iff]
theorem Z24 {f c : Form} {g : Granule} : g ∈ (Z0q f c).Odd ↔ g ∈ f.Odd ∧ oddly f g = true := List.mem_filter
theorem Z5K {f c : Form} (hs : Shape f) (h : Z11 f c) : Zd (Z0q f c) = Zd f := by
 funext i
 by_cases ho : Z1j f i
 ·obtain ⟨g, hg, rfl⟩ := ho
  rw [Z0d hs.inc hg]
  by_cases hod : oddly f g = true
  ·exact Z0d (hs.inc.filter _) (Z24.2 ⟨hg, hod⟩)
  ·have he : csz f g.Index = g.Ticks := Classical.byContradiction fun hn => hod (Z8b.2 hn)
   rw [Z3J (f := Z0q f c), Z44 hs h, he]
   rintro ⟨g', hg', e⟩;obtain ⟨m1, m2⟩ := Z24.1 hg'
   have := hs.inc.uniq m1 hg e
   subst this;exact hod m2
 ·rw [Z3J ho, Z3J (f := Z0q f c), Z44 hs h]
  rintro ⟨g', hg', e⟩;exact ho ⟨g', (Z24.1 hg').1, e⟩
theorem Z5P {f c : Form} (hs : Shape f) (h : Z11 f c) : Shape (Z0q f c) := by
 have := h.shape hs
 exact ⟨this.count, this.zero, this.per, this.core, fun g hg => hs.odd g (Z24.1 hg).1, hs.inc.filter _⟩
theorem Z9d {f c : Form} (hl : Lim f) (hs : Shape f) (h : Z11 f c) : Lim (Z0q f c) := by
 have := h.lim hl hs
 refine ⟨this.core, this.sets, ?_, fun g hg => hl.ticks g (Z24.1 hg).1, this.count, this.period⟩
 have h1 : (Z0q f c).Odd.length ≤ f.Odd.length := List.length_filter_le _ _
 have := hl.odd
 have := Nat.mul_le_mul_right 32 h1
 omega
theorem turns_of {f : Form} (hs : Shape f) (h : 0 < f.Count → ∀ i k, i < k → cs f i ≠ [] → cs f k ≠ [] → lstT (cs f i) < fstT (cs f k)) : Turns f := by
 have hcnt := hs.count
 have at_ : ∀ (j : Nat) (a : List Span), f.Core[j]? = some a → cs f j = a := fun j a ha => by
  have := (List.getElem?_eq_some_iff.1 ha).1
  rw [Z2e (by omega) (by omega), List.getD_eq_getElem?_getD, Int.toNat_natCast, ha]; rfl
 have hpw : f.Core.Pairwise (fun a b => a ≠ [] → b ≠ [] → lstT a < fstT b) := by
  rw [List.pairwise_iff_getElem];intro i j hi hj hij na nb;have h1 := at_ i _ (List.getElem?_eq_getElem hi)
  have h2 := at_ j _ (List.getElem?_eq_getElem hj)
  have := h (by omega) i j (by omega) (by rw [h1]; exact na) (by rw [h2]; exact nb)
  rw [h1, h2] at this;exact this
 constructor
 ·intro k a b ha hb;have hp := hpw.filter (fun l => decide (l.length > 0))
  rw [List.pairwise_iff_getElem] at hp;obtain ⟨h1, rfl⟩ := List.getElem?_eq_some_iff.1 ha
  obtain ⟨h2, rfl⟩ := List.getElem?_eq_some_iff.1 hb
  exact hp k (k + 1) h1 h2 (by omega) (Z2c.1 (List.getElem_mem h1)).2 (Z2c.1 (List.getElem_mem h2)).2
 ·intro a b ha hb;obtain ⟨ma, na⟩ := Z2c.1 (List.mem_of_getLast? ha)
  obtain ⟨mb, nb⟩ := Z2c.1 (List.mem_of_head? hb)
  obtain ⟨j, hj⟩ := List.getElem?_of_mem ma
  obtain ⟨k, hk⟩ := List.getElem?_of_mem mb
  have hjl := (List.getElem?_eq_some_iff.1 hj).1
  have h1 := at_ j _ hj
  have h2 := at_ k _ hk
  have h3 : cs f ((k : Int) + f.Count) = b.map (Zy f.Period) := by rw [Z4z (by omega), h2]
  have := h (by omega) j ((k : Int) + f.Count) (by omega) (by rw [h1]; exact na) (by rw [h3]; simpa using nb)
  rw [h1, h3, (Z4j _ nb).2] at this;exact this
theorem csz_order {f : Form} (hs : Shape f) (ht : Turns f) {i k : Int} (hik : i < k) (ni : csz f i ≠ []) (nk : csz f k ≠ []) : lstT (csz f i) < fstT (csz f k) := by
 have h0 : f.Count ≠ 0 := fun h => ni (by unfold csz; rw [if_pos h])
 unfold csz at ni nk ⊢
 rw [if_neg h0] at ni nk ⊢
 rw [if_neg h0]
 have n1 : Z0f f i ≠ [] := fun h => ni (by unfold cs; rw [h]; rfl)
 have n2 : Z0f f k ≠ [] := fun h => nk (by unfold cs; rw [h]; rfl)
 have := Z9V hs ht h0 hik n1 n2
 unfold cs
 rw [(Z4j _ n1).1, (Z4j _ n2).2]
 exact this
theorem beside_congr {f g : Form} (h : Zd g = Zd f) {i : Int} (hb : Beside f i) : Beside g i := by
 intro lo hi hlo hhi
 have hu : Under f i lo := by unfold Under at hlo ⊢; rw [h] at hlo; exact hlo
 have ha : Above f i hi := by unfold Above at hhi ⊢; rw [h] at hhi; exact hhi
 have := hb lo hi hu ha
 unfold BesideR fits at this ⊢
 rw [h]
 exact this
theorem Z7W {f c : Form} (hr : RightF f) (h : Z11 f c) : RightF (Z0q f c) := by
 have hs := hr.shape
 refine ⟨Z5P hs h, turns_of (Z5P hs h) (fun h0 i k hik ni nk => ?_), fun g hg => beside_congr (Z5K hs h) (hr.beside g (Z24.1 hg).1)⟩
 rw [← Z2l h0, Z44 hs h] at ni nk ⊢
 exact csz_order hs hr.turns hik ni nk
theorem canonF_fix {f c : Form} (hs : Shape f) (h : Z11 f c) : Z11 (Z0q f c) c ∧ Z0q (Z0q f c) c = Z0q f c := by
 have hcz := Z44 hs h
 have hodd : (Z0q f c).Odd.filter (oddly (Z0q f c)) = (Z0q f c).Odd := by
  rw [List.filter_eq_self];intro g hg;have := (Z24.1 hg).2
  rw [Z8b] at this ⊢;rw [hcz]; exact this
 have hco := h.odd
 refine ⟨?_, by unfold Z0q at hodd ⊢; rw [Z4q]; exact ⟨rfl, rfl, rfl, hodd⟩⟩
 rcases h with ⟨hb, rfl⟩ | ⟨hb, h0, d, hg, hmin, rfl⟩
 ·exact .inl ⟨(fun l hl => by cases hl), rfl⟩
 ·right
  have hd := hg.pos
  have hdn : d ≤ f.Count := Int.le_of_dvd h0 hg.dvd
  have hcnt := hs.count
  generalize hc' : Z0q f (Form.mk (f.Period / (f.Count / d)) d (f.Core.take d.toNat) []) = c' at hcz;have e1 : c'.Count = d := by rw [← hc']; rfl
  have e2 : c'.Period = f.Period / (f.Count / d) := by rw [← hc']; rfl
  have e3 : c'.Core = f.Core.take d.toNat := by rw [← hc']; rfl
  have hcs : cs c' = cs f := by rw [← Z2l (show 0 < c'.Count by omega), ← Z2l h0, hcz]
  have hlen : (f.Core.take d.toNat).length = d.toNat := by rw [List.length_take]; omega
  have good_up : ∀ d', Good c' d' → Good f d' := fun d' g => by
   have q1 := g.pos
   have q2 := g.dvd
   have q3 := g.rest
   have q4 := g.turn
   rw [e1] at q2 q3 q4;rw [e2] at q3 q4;have hdd : d' ∣ f.Count := Int.dvd_trans q2 hg.dvd
   obtain ⟨a, ha⟩ := q2
   obtain ⟨b, hb'⟩ := hg.dvd
   have hbp : 0 < b := by
    rcases Int.lt_or_le 0 b with h | h
    ·exact h
    ·have : d * b ≤ 0 := Int.mul_nonpos_of_nonneg_of_nonpos (by omega) h
     omega
   have hap : 0 < a := by
    rcases Int.lt_or_le 0 a with h | h
    ·exact h
    ·have : d' * a ≤ 0 := Int.mul_nonpos_of_nonneg_of_nonpos (by omega) h
     omega
   have f1 : f.Count / d = b := by rw [hb', Int.mul_ediv_cancel_left _ (by omega)]
   have f2 : d / d' = a := by rw [ha, Int.mul_ediv_cancel_left _ (by omega)]
   have f3 : f.Count / d' = a * b := by rw [hb', ha, Int.mul_assoc, Int.mul_ediv_cancel_left _ (by omega)]
   have hrest := hg.rest
   rw [f1] at hrest q3 q4;rw [f2] at q3 q4;have f4 : f.Period = a * (f.Period / b / a) * b := by
    have z1 := Int.ediv_mul_cancel (Int.dvd_of_emod_eq_zero hrest)
    have z2 := Int.ediv_mul_cancel (Int.dvd_of_emod_eq_zero q3)
    rw [Int.mul_comm a, z2, z1]
   have f5 : f.Period = (f.Period / b / a) * (a * b) := by
    conv => lhs; rw [f4]
    rw [Int.mul_comm a, Int.mul_assoc]
   have hab : a * b ≠ 0 := by
    have := Int.mul_pos hap hbp
    omega
   have f6 : f.Period / (a * b) = f.Period / b / a := by
    conv => lhs; rw [f5]
    exact Int.mul_ediv_cancel _ hab
   refine ⟨q1, hdd, ?_, ?_⟩
   ·rw [f3]; exact Int.emod_eq_zero_of_dvd ⟨f.Period / b / a, by rw [Int.mul_comm]; exact f5⟩
   ·rw [f3, f6]; intro i; have := q4 i; rw [hcs] at this; exact this
  have hself : Good c' c'.Count := good_self (by omega)
  refine ⟨fun hbare => hb ?_, by omega, d, by rw [← e1]; exact hself, fun d' g => hmin d' (good_up d' g), ?_⟩
  ·intro l hl;obtain ⟨k, hk⟩ := List.getElem?_of_mem hl
   have hkl := (List.getElem?_eq_some_iff.1 hk).1
   have hbz : ∀ i, cs f i = [] := fun i => by
    rw [← hcs];have hcore : ∀ i, Z0f c' i ∈ c'.Core := fun i => by
     unfold Z0f;have h1 := Int.emod_nonneg i (show c'.Count ≠ 0 by omega)
     have h2 := Int.emod_lt_of_pos i (show 0 < c'.Count by omega)
     have : (i % c'.Count).toNat < c'.Core.length := by rw [e3, hlen]; omega
     rw [List.getD_eq_getElem?_getD, List.getElem?_eq_getElem this];exact List.getElem_mem _
    unfold cs;rw [hbare _ (hcore i)]; rfl
   have := hbz k
   rw [Z2e (by omega) (by omega), List.getD_eq_getElem?_getD, Int.toNat_natCast, hk] at this
   exact this
  ·rw [Z4q];have hdd : d / d = 1 := Int.ediv_self (by omega)
   refine ⟨?_, rfl, ?_, rfl⟩
   ·show _ = c'.Period / (c'.Count / d)
    rw [e1, e2, hdd, Int.ediv_one]
   ·show _ = c'.Core.take d.toNat
    rw [e3, List.take_take, Nat.min_self]
end Go.Dn

namespace Go.Dn
open Go
theorem Z6Y {α : Type} (g : α → Nat) (p : α → Bool) : ∀ l : List α, ((l.filter p).map g).sum ≤ (l.map g).sum
 | [] => Nat.le_refl _
 | x :: l => by
  have := Z6Y g p l
  rw [List.filter_cons]
  split <;> simp only [List.map_cons, List.sum_cons] <;> omega
theorem Z8n {α : Type} (g : α → Nat) : ∀ (n : Nat) (l : List α), ((l.take n).map g).sum ≤ (l.map g).sum
 | 0, l => by simp
 | n + 1, [] => by simp
 | n + 1, x :: l => by
  have := Z8n g n l
  simp only [List.take_succ_cons, List.map_cons, List.sum_cons]; omega
theorem coreOf_le {f c : Form} (hs : Shape f) (h : Z11 f c) : c.Count ≤ f.Count ∧ c.Period ≤ f.Period ∧ c.Core.length ≤ f.Core.length ∧ (c.Core.map List.length).sum ≤ (f.Core.map List.length).sum := by
 have hp := hs.per
 have hcnt := hs.count
 rcases h with ⟨hb, rfl⟩ | ⟨hb, h0, d, hg, hmin, rfl⟩
 ·exact ⟨by simp only; omega, by simp only; omega, Nat.zero_le _, Nat.zero_le _⟩
 ·exact ⟨Int.le_of_dvd h0 hg.dvd, Int.ediv_le_self _ hp.1, by simp only [List.length_take]; omega, Z8n _ _ _⟩
theorem Z8l {f : Form} (hl : Lim f) (hr : RightF f) : ∃ g, Ze f = some g ∧ Lim g ∧ RightF g ∧ Zd g = Zd f ∧ Ze g = some g ∧ g.Count ≤ f.Count ∧ g.Period ≤ f.Period ∧ g.Core.length ≤ f.Core.length ∧ g.Odd.length ≤ f.Odd.length ∧ Z4m g ≤ Z4m f := by
 have hs := hr.shape
 obtain ⟨c, hc, hf⟩ := Z1w hl hs
 have hl' := Z9d hl hs hc
 have hs' := Z5P hs hc
 obtain ⟨hfx, hfe⟩ := canonF_fix hs hc
 have hcl := coreOf_le hs hc
 refine ⟨_, hf, hl', Z7W hr hc, Z5K hs hc, ?_, hcl.1, hcl.2.1, hcl.2.2.1, List.length_filter_le _ _, ?_⟩
 ·obtain ⟨c2, hc2, hf2⟩ := Z1w hl' hs'
  have : c2 = c := by
   rcases hfx with ⟨b1, e1⟩ | ⟨b1, z1, d1, g1, m1, e1⟩ <;> rcases hc2 with ⟨b2, e2⟩ | ⟨b2, z2, d2, g2, m2, e2⟩
   ·rw [e1, e2]
   ·exact absurd b1 b2
   ·exact absurd b2 b1
   ·have : d1 = d2 := by have := m1 d2 g2; have := m2 d1 g1; omega
    subst this;rw [e2]; exact e1.symm
  rw [hf2, this, hfe]
 ·have h1 := hcl.2.2.2
  have h2 := Z6Y (fun g : Granule => g.Ticks.length) (oddly f) f.Odd
  unfold Z4m
  show (c.Core.map List.length).sum + ((f.Odd.filter (oddly f)).map (fun g => g.Ticks.length)).sum ≤ _
  omega
end Go.Dn

namespace Go.Dn
open Go
theorem shift_ne {l : List Span} (hn : l ≠ []) {a b : Int} (h : l.map (Zy a) = l.map (Zy b)) : a = b := by
 cases l with
 | nil => exact absurd rfl hn
 | cons s l =>
  simp only [List.map_cons, List.cons.injEq, Zy, Span.mk.injEq] at h;omega
theorem Turn.uniq {h : Int → List Span} {d q q' : Int} (t : Turn h d q) (t' : Turn h d q') {i : Int} (hn : h i ≠ []) : q = q' := shift_ne hn ((t i).symm.trans (t' i))
theorem Z30 {f : Form} (h0 : 0 < f.Count) : Turn (cs f) f.Count f.Period := Z4z (by omega)
theorem cs_some {f : Form} (hs : Shape f) (hb : ¬ Bare f) (h0 : 0 < f.Count) (a : Int) : ∃ i, a ≤ i ∧ i < a + f.Count ∧ cs f i ≠ [] := by
 apply Classical.byContradiction
 intro hn
 apply hb
 have hz : cs f = fun _ => [] := Turn.agree (a := a) (Z30 h0) (fun i => rfl) h0 (fun i i0 i1 => Classical.byContradiction fun h => hn ⟨i, i0, i1, h⟩)
 intro l hl
 obtain ⟨k, hk⟩ := List.getElem?_of_mem hl
 have hkl := (List.getElem?_eq_some_iff.1 hk).1
 have hcnt := hs.count
 have := congrFun hz (k : Int)
 rw [Z2e (by omega) (by omega), List.getD_eq_getElem?_getD, Int.toNat_natCast, hk] at this
 exact this
theorem good_of_turn {f : Form} (hs : Shape f) (hb : ¬ Bare f) (h0 : 0 < f.Count) {d q : Int} (hd : 1 ≤ d) (hdn : d ∣ f.Count) (t : Turn (cs f) d q) : Good f d ∧ f.Period / (f.Count / d) = q := by
 obtain ⟨i, _, _, hi⟩ := cs_some hs hb h0 0
 obtain ⟨m, hm⟩ := hdn
 have hmp : 0 < m := by
  rcases Int.lt_or_le 0 m with h | h
  ·exact h
  ·have : d * m ≤ 0 := Int.mul_nonpos_of_nonneg_of_nonpos (by omega) h
   omega
 have e1 : f.Count / d = m := by rw [hm, Int.mul_ediv_cancel_left _ (by omega)]
 have e2 : f.Period = m * q := by
  have t1 := t.mul m
  have t2 := Z30 h0
  rw [hm, Int.mul_comm d m] at t2;exact t2.uniq t1 hi
 have e3 : f.Period / m = q := by rw [e2, Int.mul_ediv_cancel_left _ (by omega)]
 exact ⟨⟨hd, ⟨m, hm⟩, by rw [e1, e2]; exact Int.mul_emod_right _ _, by rw [e1, e3]; exact t⟩, by rw [e1, e3]⟩
theorem least_turn {h : Int → List Span} {n p : Int} (hn : 0 < n) (t : Turn h n p) : ∃ d q, 1 ≤ d ∧ Turn h d q ∧ ∀ d' q', Turn h d' q' → d ∣ d' := by
 have : ∃ m : Nat, 1 ≤ m ∧ ∃ q, Turn h m q := ⟨n.toNat, by omega, p, by rw [Int.toNat_of_nonneg (by omega)]; exact t⟩
 obtain ⟨m, hm⟩ := this
 induction m using Nat.strongRecOn with
 | _ m ih =>
  by_cases hex : ∃ m' : Nat, m' < m ∧ 1 ≤ m' ∧ ∃ q, Turn h m' q
  ·obtain ⟨m', h1, h2⟩ := hex
   exact ih m' h1 h2
  ·obtain ⟨h1, q, hq⟩ := hm
   refine ⟨m, q, by omega, hq, fun d' q' t' => ?_⟩
   apply Classical.byContradiction;intro hnd;have r0 := Int.emod_nonneg d' (show (m : Int) ≠ 0 by omega)
   have r1 := Int.emod_lt_of_pos d' (show (0 : Int) < m by omega)
   have hr : d' % m ≠ 0 := fun e => hnd (Int.dvd_of_emod_eq_zero e)
   have tt := t'.add ((hq.mul (d' / m)).neg)
   have e : d' + -(d' / m * m) = d' % m := by
    have := Int.emod_add_mul_ediv d' m
    rw [Int.mul_comm] at this;omega
   rw [e] at tt;exact hex ⟨(d' % m).toNat, by omega, by omega, _, by rw [Int.toNat_of_nonneg r0]; exact tt⟩
theorem least_is {f : Form} (hs : Shape f) (hb : ¬ Bare f) (h0 : 0 < f.Count) {d : Int} (hg : Good f d) (hmin : ∀ d', Good f d' → d ≤ d') {t q : Int} (ht : 1 ≤ t) (tt : Turn (cs f) t q) (hall : ∀ d' q', Turn (cs f) d' q' → t ∣ d') : d = t ∧ f.Period / (f.Count / d) = q := by
 have h1 := hall _ _ (Z30 h0)
 obtain ⟨g1, g2⟩ := good_of_turn hs hb h0 ht h1 tt
 have h2 := hmin t g1
 have h3 := Int.le_of_dvd hg.pos (hall _ _ hg.turn)
 have : d = t := by omega
 subst this
 exact ⟨rfl, g2⟩
theorem coreOf_eq {f g c c' : Form} (hf : Shape f) (hg : Shape g) (h : csz f = csz g) (hbb : Bare f ↔ Bare g) (hc : Z11 f c) (hc' : Z11 g c') : c = c' := by
 rcases hc with ⟨b1, rfl⟩ | ⟨b1, z1, d1, g1, m1, rfl⟩ <;> rcases hc' with ⟨b2, rfl⟩ | ⟨b2, z2, d2, g2, m2, rfl⟩
 ·rfl
 ·exact absurd (hbb.1 b1) b2
 ·exact absurd (hbb.2 b2) b1
 ·rw [Z2l z1, Z2l z2] at h;obtain ⟨t, q, t1, t2, t3⟩ := least_turn z1 (Z30 z1)
  obtain ⟨e1, e2⟩ := least_is hf b1 z1 g1 m1 t1 t2 t3
  rw [h] at t2 t3;obtain ⟨e3, e4⟩ := least_is hg b2 z2 g2 m2 t1 t2 t3
  have : d1 = d2 := by omega
  subst this;have l1 : d1 ≤ f.Count := Int.le_of_dvd z1 g1.dvd
  have l2 : d1 ≤ g.Count := Int.le_of_dvd z2 g2.dvd
  have c1 := hf.count
  have c2 := hg.count
  have p1 := g1.pos
  rw [Z4q];refine ⟨by rw [e2, e4], rfl, ?_, rfl⟩
  apply List.ext_getElem?;intro k
  show (f.Core.take d1.toNat)[k]? = (g.Core.take d1.toNat)[k]?
  by_cases hk : k < d1.toNat
  ·rw [List.getElem?_take_of_lt hk, List.getElem?_take_of_lt hk];have := congrFun h (k : Int)
   rw [Z2e (by omega) (by omega), Z2e (by omega) (by omega), List.getD_eq_getElem?_getD, List.getD_eq_getElem?_getD, Int.toNat_natCast] at this
   rw [List.getElem?_eq_getElem (show k < f.Core.length by omega), List.getElem?_eq_getElem (show k < g.Core.length by omega)] at this ⊢
   exact congrArg some this
  ·rw [List.getElem?_eq_none (by rw [List.length_take]; omega), List.getElem?_eq_none (by rw [List.length_take]; omega)]
theorem inc_ext : ∀ {a b : List Granule}, a.Pairwise (fun x y => x.Index < y.Index) → b.Pairwise (fun x y => x.Index < y.Index) → (∀ x, x ∈ a ↔ x ∈ b) → a = b
 | [], [], _, _, _ => rfl
 | [], y :: b, _, _, h => absurd ((h y).2 (List.mem_cons_self)) (List.not_mem_nil)
 | x :: a, [], _, _, h => absurd ((h x).1 (List.mem_cons_self)) (List.not_mem_nil)
 | x :: a, y :: b, ha, hb, h => by
  obtain ⟨a1, a2⟩ := List.pairwise_cons.1 ha
  obtain ⟨b1, b2⟩ := List.pairwise_cons.1 hb
  have hxy : x = y := by
   rcases List.mem_cons.1 ((h x).1 List.mem_cons_self) with e | e
   ·exact e
   ·rcases List.mem_cons.1 ((h y).2 List.mem_cons_self) with e' | e'
    ·exact e'.symm
    ·have := b1 x e; have := a1 y e'; omega
  subst hxy;rw [inc_ext a2 b2 fun z => ⟨fun hz => ?_, fun hz => ?_⟩]
  ·rcases List.mem_cons.1 ((h z).1 (List.mem_cons_of_mem _ hz)) with e | e
   ·subst e; have := a1 z hz; omega
   ·exact e
  ·rcases List.mem_cons.1 ((h z).2 (List.mem_cons_of_mem _ hz)) with e | e
   ·subst e; have := b1 z hz; omega
   ·exact e
def NearF (f : Form) (m : Int) : Prop := ∀ g ∈ f.Odd, -m ≤ g.Index ∧ g.Index ≤ m
end Go.Dn

namespace Go.Dn
open Go
end Go.Dn
