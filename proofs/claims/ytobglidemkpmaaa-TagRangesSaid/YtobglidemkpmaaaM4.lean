/- Part 4 of what the row stands on. -/
import Derived.Test.YtobglidemkpmaaaM3
set_option linter.unusedVariables false
set_option linter.unusedSimpArgs false
namespace Go.Dn
open Go Go.Proofs
set_option maxRecDepth 100000
set_option maxHeartbeats 4000000

theorem Z1r {f : Form} {t : Int} {r : Int × Bool} (h : Z8 f t = some r) : Fn CX 52 [(.agg (vs (Form.cs f))), (vi t), (.agg [(vi 1), (.v (.fn 31)), (.v (.fn 64)), (.v (.fn 65))])] (.tup [(vi r.1), (vb r.2)]) := by
 refine Fn.ends Try.func52 rfl rfl rfl rfl rfl rfl ?_
 have H : Hs (⟨0, fun _ => .none⟩ : Heap) [] := Has.nil (Nat.le_refl _)
 generalize (⟨0, fun _ => .none⟩ : Heap) = σ at H ⊢
 unfold Z8 at h
 refine .then (.Z0 4 rfl H fun b1 σ H => (.boxH (cs := (vF f)) H (by omega) (by omega) rfl rfl rfl fun σ H => (.boxH (cs := [(vi 1), (.v (.fn 31)), (.v (.fn 64)), (.v (.fn 65))]) H (by omega) (by omega) rfl rfl rfl fun σ H => (.assign (v := (vi 0)) rfl rfl (.assign (v := (vb false)) rfl rfl ?_)))))
 refine .nila H fun H => (.then (.Z0 4 rfl H fun b2 σ H => (.move (v := (vi t)) rfl rfl (.min2 rfl rfl rfl (.max2 rfl rfl rfl ?_)))))
 refine .assign (v := (vi (iMax (iMin t 1099511627777) (-1099511627777)))) rfl rfl (.nila H fun H => (.then (.Z0 9 rfl H fun b3 σ H => (.ZP (off := 0) (cs := (vF f)) H 1 rfl rfl rfl rfl rfl rfl rfl nofun rfl (.move (v := (vi (iMax (iMin t 1099511627777) (-1099511627777)))) rfl rfl ?_)))))
 refine .ZP (off := 0) (cs := [(vi 1), (.v (.fn 31)), (.v (.fn 64)), (.v (.fn 65))]) H 0 rfl rfl rfl rfl rfl rfl rfl nofun rfl ?_
 obtain ⟨x1, q1, h⟩ := bind_some h
 refine .call (ys := [(.agg (vF f)), (vi (iMax (iMin t 1099511627777) (-1099511627777))), (.agg [(vi 1), (.v (.fn 31)), (.v (.fn 64)), (.v (.fn 65))])]) (r := (.tup [(vi x1.1), (vb x1.2)])) rfl (Z22 q1) rfl (.move (v := (.tup [(vi x1.1), (vb x1.2)])) rfl rfl (.extract (v := (vi x1.1)) rfl rfl rfl (.extract (v := (vb x1.2)) rfl rfl rfl (.assign (v := (vi x1.1)) rfl rfl (.assign (v := (vb x1.2)) rfl rfl ?_)))))
 refine .nila H fun H => (.then (.then (.Z0 4 rfl H fun b4 σ H => (.Z2 (off := 0) (fo := 3) H 1 rfl rfl rfl rfl rfl nofun rfl (.ZR (off := 3) (v := (vl Granule.cs f.Odd)) H 1 rfl rfl rfl rfl rfl nofun rfl ?_)))))
 refine .Z0T (c := Granule.cs) (xs := f.Odd) rfl rfl rfl (.move (v := (vi 0)) rfl rfl (.nila H fun H => (.inBlock ?_)))
 obtain ⟨y1, hj1, h⟩ := bind_some h
 obtain ⟨n1, hj1⟩ := Ze.1 hj1
 refine .mono (Runs.ZK hj1 (fun s1 e σ => Z5 e [(1, (vi (iMax (iMin t 1099511627777) (-1099511627777)))), (5, (.ptr (b1 + 1) 4 0)), (8, (vi s1.1)), (9, (vb s1.2.1)), (25, (vl Granule.cs f.Odd)), (26, (vi (f.Odd.length : Int))), (27, (vi s1.2.2))] ∧ Hs σ [.blk (b1 + 1) 87 [(vi 1), (.v (.fn 31)), (.v (.fn 64)), (.v (.fn 65))]]) (fun y1 x e σ => x = .exit 0 ∧ Z5 e [(8, (vi y1.1)), (9, (vb y1.2))] ∧ Hs σ []) ⟨⟨rfl, rfl, rfl, rfl, rfl, rfl, rfl, trivial⟩, (H.erase 1)⟩ ?_) ?_
 ·intro s1 e σ hI z h
  obtain ⟨he, H⟩ := hI
  obtain ⟨e, rfl⟩ := he.ex
  unfold Z8.s0 at h
  refine .then (.Z0 1 rfl H fun b5 σ H => (.int (m := s1.2.2) (m' := (f.Odd.length : Int)) (r := .bool (decide (s1.2.2 < (f.Odd.length : Int)))) rfl rfl rfl rfl rfl (.nila H fun H => (.then ?_))))
  refine .whether (v := (decide (s1.2.2 < (f.Odd.length : Int)))) rfl ?_ ?_ <;> intro hc1
  ·replace h := Z9 hc1 h
   refine .skip (.then ?_)
   obtain ⟨y2, hj2, h⟩ := bind_some h
   refine .mono (Q := fun x e σ => x = .normal ∧ Z5 e [(1, (vi (iMax (iMin t 1099511627777) (-1099511627777)))), (5, (.ptr (b1 + 1) 4 0)), (8, (vi y2.1)), (9, (vb y2.2)), (25, (vl Granule.cs f.Odd)), (26, (vi (f.Odd.length : Int))), (27, (vi s1.2.2))] ∧ Hs σ [.blk (b1 + 1) 87 [(vi 1), (.v (.fn 31)), (.v (.fn 64)), (.v (.fn 65))]]) ?_ ?_
   ·replace h := hj2
    refine .inBlock ?_
    obtain ⟨y3, hj3, h⟩ := bind_some h
    refine .mono (Q := fun x e σ => x = .normal ∧ Z5 e [(1, (vi (iMax (iMin t 1099511627777) (-1099511627777)))), (5, (.ptr (b1 + 1) 4 0)), (8, (vi y3.1)), (9, (vb y3.2)), (25, (vl Granule.cs f.Odd)), (26, (vi (f.Odd.length : Int))), (27, (vi s1.2.2))] ∧ Hs σ [.blk (b1 + 1) 87 [(vi 1), (.v (.fn 31)), (.v (.fn 64)), (.v (.fn 65))]]) ?_ ?_
    ·replace h := hj3
     refine .then (.Z0 4 rfl H fun b6 σ H => ?_)
     obtain ⟨x2, q2, h⟩ := bind_some h
     refine .Z0H (c := Granule.cs) (u := x2) rfl rfl q2 rfl rfl rfl rfl (.Z2g (cs := [(.int .i64 x2.Index), (.sl (x2.Ticks.map Span.cs))]) rfl rfl rfl rfl rfl rfl (.Z0p (cs := [(vi 0), .nils]) H (by omega) (by omega) rfl rfl fun σ H => (.Z0e (off := 0) (cells' := [(vi x2.Index), (vl Span.cs x2.Ticks)]) H 0 rfl rfl rfl rfl rfl rfl rfl rfl rfl nofun fun σ H => (.nila H fun H => (.then ?_)))))
     refine .Z0 9 rfl H fun b7 σ H => (.Z2 (off := 0) (fo := 1) H 0 rfl rfl rfl rfl rfl nofun rfl (.ZR (off := 1) (v := (vl Span.cs x2.Ticks)) H 0 rfl rfl rfl rfl rfl nofun rfl ?_))
     obtain ⟨x3, q3, h⟩ := bind_some h
     refine .call (ys := [(vl Span.cs x2.Ticks)]) (r := (.tup [(.agg [(vi x3.1.From), (vi x3.1.To)]), (vb x3.2)])) rfl (Z6g q3) rfl (.move (v := (.tup [(.agg [(vi x3.1.From), (vi x3.1.To)]), (vb x3.2)])) rfl rfl (.extract (v := (.agg [(vi x3.1.From), (vi x3.1.To)])) rfl rfl rfl (.extract (v := (vb x3.2)) rfl rfl rfl (.Z0p (cs := [(vi 0), (vi 0)]) H (by omega) (by omega) rfl rfl fun σ H => (.Z0e (off := 0) (cells' := [(vi x3.1.From), (vi x3.1.To)]) H 0 rfl rfl rfl rfl rfl rfl rfl rfl rfl nofun fun σ H => ?_)))))
     refine .assign (v := (vb x3.2)) rfl rfl (.nila H fun H => (.then (.Z0 22 rfl H fun b8 σ H => (.move (v := (vb x3.2)) rfl rfl (.move (v := (vb x3.2)) rfl rfl ?_)))))
     refine .mid 6 (K1 := fun e σ => Z5 e [(44, (vb (x3.2 && (Z1y x3.1 (iMax (iMin t 1099511627777) (-1099511627777)))))), (1, (vi (iMax (iMin t 1099511627777) (-1099511627777)))), (5, (.ptr (b1 + 1) 4 0)), (8, (vi s1.1)), (9, (vb s1.2.1)), (11, (.ptr (b6 + 2) 2 0)), (25, (vl Granule.cs f.Odd)), (26, (vi (f.Odd.length : Int))), (27, (vi s1.2.2))] ∧ Has σ (b8 + 8) (b8 + 22) [.blk (b6 + 2) 54 [(vi x2.Index), (vl Span.cs x2.Ticks)], .blk (b1 + 1) 87 [(vi 1), (.v (.fn 31)), (.v (.fn 64)), (.v (.fn 65))]]) rfl ?_ ?_
     ·refine .split rfl rfl ?_ ?_ <;> intro hc2
      ·skip
       refine .wanted rfl rfl (.Z2 (off := 0) (fo := 3) H 2 rfl rfl rfl rfl rfl nofun rfl (.wanted rfl rfl (.ZR (off := 3) (v := (.v (.fn 65))) H 2 rfl rfl rfl rfl rfl nofun rfl (.wanted rfl rfl (.ZP (off := 0) (cs := [(vi x3.1.From), (vi x3.1.To)]) H 0 rfl rfl rfl rfl rfl rfl rfl nofun rfl ?_)))))
       refine .wanted rfl rfl (.move (v := (vi (iMax (iMin t 1099511627777) (-1099511627777)))) rfl rfl (.wanted rfl rfl (.callF (ys := [(.agg [(vi x3.1.From), (vi x3.1.To)]), (vi (iMax (iMin t 1099511627777) (-1099511627777)))]) (r := (vb (Z1y x3.1 (iMax (iMin t 1099511627777) (-1099511627777))))) rfl rfl (find_up_2_fn (rfl : Z1y x3.1 (iMax (iMin t 1099511627777) (-1099511627777)) = _)) rfl (.Zg (v := (vb (Z1y x3.1 (iMax (iMin t 1099511627777) (-1099511627777))))) rfl rfl rfl (.nil ?_)))))
       exact ⟨⟨Z1f hc2, rfl, rfl, rfl, rfl, rfl, rfl, rfl, rfl, trivial⟩, (H.erase 0).weak (by omega) (Nat.le_refl _)⟩
      ·skip
       refine .pass rfl rfl rfl (.pass rfl rfl rfl (.pass rfl rfl rfl (.pass rfl rfl rfl (.pass rfl rfl rfl (.Zn (v := (vb false)) rfl rfl rfl ?_)))))
       refine .nil ?_
       exact ⟨⟨Z1e hc2, rfl, rfl, rfl, rfl, rfl, rfl, rfl, rfl, trivial⟩, (H.erase 0).weak (by omega) (Nat.le_refl _)⟩
     ·rintro e σ ⟨he, H⟩
      obtain ⟨e, rfl⟩ := he.ex
      refine .move (v := (vb (x3.2 && (Z1y x3.1 (iMax (iMin t 1099511627777) (-1099511627777)))))) rfl rfl ?_
      refine .mid 13 (K1 := fun e σ => Z5 e [(58, (vb ((x3.2 && (Z1y x3.1 (iMax (iMin t 1099511627777) (-1099511627777)))) && ((!s1.2.1) || (decide ((w64 ((w64 (x2.Index - s1.1)) * 1)) < 0)))))), (1, (vi (iMax (iMin t 1099511627777) (-1099511627777)))), (5, (.ptr (b1 + 1) 4 0)), (8, (vi s1.1)), (9, (vb s1.2.1)), (11, (.ptr (b6 + 2) 2 0)), (25, (vl Granule.cs f.Odd)), (26, (vi (f.Odd.length : Int))), (27, (vi s1.2.2))] ∧ Has σ (b8 + 22) (b8 + 22) [.blk (b6 + 2) 54 [(vi x2.Index), (vl Span.cs x2.Ticks)], .blk (b1 + 1) 87 [(vi 1), (.v (.fn 31)), (.v (.fn 64)), (.v (.fn 65))]]) rfl ?_ ?_
      ·refine .split rfl rfl ?_ ?_ <;> intro hc3
       ·skip
        refine .wanted rfl rfl (.move (v := (vb s1.2.1)) rfl rfl (.wanted rfl rfl (.not (b := s1.2.1) rfl rfl (.wanted rfl rfl (.move (v := (vb (!s1.2.1))) rfl rfl ?_)))))
        refine .mid 9 (K1 := fun e σ => Z5 e [(57, (vb ((!s1.2.1) || (decide ((w64 ((w64 (x2.Index - s1.1)) * 1)) < 0))))), (1, (vi (iMax (iMin t 1099511627777) (-1099511627777)))), (5, (.ptr (b1 + 1) 4 0)), (8, (vi s1.1)), (9, (vb s1.2.1)), (11, (.ptr (b6 + 2) 2 0)), (25, (vl Granule.cs f.Odd)), (26, (vi (f.Odd.length : Int))), (27, (vi s1.2.2)), (45, (vb true))] ∧ Has σ (b8 + 21) (b8 + 22) [.blk (b6 + 2) 54 [(vi x2.Index), (vl Span.cs x2.Ticks)], .blk (b1 + 1) 87 [(vi 1), (.v (.fn 31)), (.v (.fn 64)), (.v (.fn 65))]]) rfl ?_ ?_
        ·refine .split rfl rfl ?_ ?_ <;> intro hc4
         ·skip
          refine .pass rfl rfl rfl (.pass rfl rfl rfl (.pass rfl rfl rfl (.pass rfl rfl rfl (.pass rfl rfl rfl (.pass rfl rfl rfl ?_)))))
          refine .pass rfl rfl rfl (.pass rfl rfl rfl (.wanted rfl rfl (.Zg (v := (vb true)) rfl rfl rfl (.nil ?_))))
          exact ⟨⟨or_T hc4, rfl, rfl, rfl, rfl, rfl, rfl, rfl, rfl, rfl, trivial⟩, H.weak (by omega) (Nat.le_refl _)⟩
         ·skip
          refine .wanted rfl rfl (.Z2 (off := 0) (fo := 0) H 0 rfl rfl rfl rfl rfl nofun rfl (.wanted rfl rfl (.ZR (off := 0) (v := (vi x2.Index)) H 0 rfl rfl rfl rfl rfl nofun rfl (.wanted rfl rfl (.move (v := (vi s1.1)) rfl rfl ?_)))))
          refine .wanted rfl rfl (.int (m := x2.Index) (m' := s1.1) (r := .int .i64 (w64 (x2.Index - s1.1))) rfl rfl rfl rfl rfl (.wanted rfl rfl (.Z2 (off := 0) (fo := 0) H 1 rfl rfl rfl rfl rfl nofun rfl (.wanted rfl rfl (.ZR (off := 0) (v := (vi 1)) H 1 rfl rfl rfl rfl rfl nofun rfl ?_)))))
          refine .wanted rfl rfl (.int (m := (w64 (x2.Index - s1.1))) (m' := 1) (r := .int .i64 (w64 ((w64 (x2.Index - s1.1)) * 1))) rfl rfl rfl rfl rfl (.wanted rfl rfl (.int (m := (w64 ((w64 (x2.Index - s1.1)) * 1))) (m' := 0) (r := .bool (decide ((w64 ((w64 (x2.Index - s1.1)) * 1)) < 0))) rfl rfl rfl rfl rfl (.wanted rfl rfl (.Zn (v := (vb (decide ((w64 ((w64 (x2.Index - s1.1)) * 1)) < 0)))) rfl rfl rfl ?_)))))
          refine .nil ?_
          exact ⟨⟨or_F hc4, rfl, rfl, rfl, rfl, rfl, rfl, rfl, rfl, rfl, trivial⟩, H.weak (by omega) (Nat.le_refl _)⟩
        ·rintro e σ ⟨he, H⟩
         obtain ⟨e, rfl⟩ := he.ex
         refine .Zg (v := (vb ((!s1.2.1) || (decide ((w64 ((w64 (x2.Index - s1.1)) * 1)) < 0))))) rfl rfl rfl (.nil ?_)
         exact ⟨⟨Z1f hc3, rfl, rfl, rfl, rfl, rfl, rfl, rfl, rfl, trivial⟩, H.weak (by omega) (Nat.le_refl _)⟩
       ·skip
        refine .pass rfl rfl rfl (.pass rfl rfl rfl (.pass rfl rfl rfl (.Z0v rfl rfl rfl (.Z0v rfl rfl rfl (.Z0v rfl rfl rfl ?_)))))
        refine .Z0v rfl rfl rfl (.Z0v rfl rfl rfl (.Z0v rfl rfl rfl (.Z0v rfl rfl rfl (.Z0v rfl rfl rfl (.pass rfl rfl rfl ?_)))))
        refine .Zn (v := (vb false)) rfl rfl rfl (.nil ?_)
        exact ⟨⟨Z1e hc3, rfl, rfl, rfl, rfl, rfl, rfl, rfl, rfl, trivial⟩, H.weak (by omega) (Nat.le_refl _)⟩
      ·rintro e σ ⟨he, H⟩
       obtain ⟨e, rfl⟩ := he.ex
       refine .nila H fun H => ?_
       refine .whether (v := ((x3.2 && (Z1y x3.1 (iMax (iMin t 1099511627777) (-1099511627777)))) && ((!s1.2.1) || (decide ((w64 ((w64 (x2.Index - s1.1)) * 1)) < 0))))) rfl ?_ ?_ <;> intro hc5
       ·replace h := Z9 hc5 h
        refine .Z0 4 rfl H fun b9 σ H => (.Z2 (off := 0) (fo := 0) H 0 rfl rfl rfl rfl rfl nofun rfl (.ZR (off := 0) (v := (vi x2.Index)) H 0 rfl rfl rfl rfl rfl nofun rfl (.assign (v := (vi x2.Index)) rfl rfl (.assign (v := (vb true)) rfl rfl (.nila H fun H => ?_)))))
        replace h := sj h; subst h
        exact ⟨rfl, ⟨rfl, rfl, rfl, rfl, rfl, rfl, rfl, trivial⟩, (H.erase 0)⟩
       ·replace h := Z6 hc5 h
        refine .skip ?_
        replace h := sj h; subst h
        exact ⟨rfl, ⟨rfl, rfl, rfl, rfl, rfl, rfl, rfl, trivial⟩, (H.erase 0)⟩
    ·rintro x e σ ⟨rfl, he, H⟩
     obtain ⟨e, rfl⟩ := he.ex
     replace h := sj h; subst h
     exact ⟨rfl, ⟨rfl, rfl, rfl, rfl, rfl, rfl, rfl, trivial⟩, H⟩
   ·rintro x e σ ⟨rfl, he, H⟩
    obtain ⟨e, rfl⟩ := he.ex
    refine .Z0 2 rfl H fun b10 σ H => (.int (m := s1.2.2) (m' := 1) (r := .int .i64 (w64 (s1.2.2 + 1))) rfl rfl rfl rfl rfl (.move (v := (vi (w64 (s1.2.2 + 1)))) rfl rfl (.nila H fun H => ?_)))
    replace h := sj h; subst h
    exact ⟨rfl, ⟨rfl, rfl, rfl, rfl, rfl, rfl, rfl, trivial⟩, H⟩
  ·replace h := Z6 hc1 h
   refine .exit ?_
   replace h := sj h; subst h
   exact ⟨nofun, ⟨rfl, ⟨rfl, rfl, trivial⟩, (H.erase 0)⟩⟩
 ·rintro x e σ ⟨rfl, he, H⟩
  obtain ⟨e, rfl⟩ := he.ex
  refine .then (.Z0 4 rfl H fun b11 σ H => (.move (v := (vi y1.1)) rfl rfl (.move (v := (vb y1.2)) rfl rfl (.assign (v := (vi y1.1)) rfl rfl (.assign (v := (vb y1.2)) rfl rfl ?_)))))
  refine .nila H fun H => (.ret ?_)
  replace h := sj h; subst h
  exact (Ends.H (xs := [(vi y1.1), (vb y1.2)]) (.inr rfl) H (.tmp (v := (vi y1.1)) rfl (.tmp (v := (vb y1.2)) rfl .nil)) (.two (.cons (.c (.v _)) (.cons (.c (.v _)) .nil))))

theorem find_From_fn {f : Form} {t : Int} {r : Int × Bool} (h : Z49 f t = some r) : Fn CX 39 [(.agg (vs (Form.cs f))), (vi t)] (.tup [(vi r.1), (vb r.2)]) := by
 refine Fn.ends Try.func39 rfl rfl rfl rfl rfl rfl ?_
 have H : Hs (⟨0, fun _ => .none⟩ : Heap) [] := Has.nil (Nat.le_refl _)
 generalize (⟨0, fun _ => .none⟩ : Heap) = σ at H ⊢
 unfold Z49 at h
 refine .then (.Z0 3 rfl H fun b1 σ H => (.boxH (cs := (vF f)) H (by omega) (by omega) rfl rfl rfl fun σ H => (.assign (v := (vi 0)) rfl rfl (.assign (v := (vb false)) rfl rfl (.nila H fun H => ?_)))))
 refine .then (.Z3n 8 rfl (by kernel_rfl) H fun b2 σ H B2 => (.ZP (off := 0) (cs := (vF f)) H 0 rfl rfl rfl rfl rfl rfl rfl (fun _ => .inl ⟨B2 0 _ rfl _ rfl, nofun, (fun _ => by kernel_rfl)⟩) rfl (.move (v := (vi t)) rfl rfl (.call (ys := []) (r := (.agg [(vi 1), (.v (.fn 31)), (.v (.fn 64)), (.v (.fn 65))])) rfl (find_up_fn rfl) rfl ?_))))
 obtain ⟨x1, q1, h⟩ := bind_some h
 refine .call (ys := [(.agg (vF f)), (vi t), (.agg [(vi 1), (.v (.fn 31)), (.v (.fn 64)), (.v (.fn 65))])]) (r := (.tup [(vi x1.1), (vb x1.2)])) rfl (Z1r q1) rfl (.extract (v := (vi x1.1)) rfl rfl rfl (.extract (v := (vb x1.2)) rfl rfl rfl (.assign (v := (vi x1.1)) rfl rfl (.assign (v := (vb x1.2)) rfl rfl (.nila H fun H => ?_)))))
 refine .ret ?_
 replace h := sj h; subst h
 exact (Ends.H (xs := [(vi x1.1), (vb x1.2)]) (.inr rfl) H (.tmp (v := (vi x1.1)) rfl (.tmp (v := (vb x1.2)) rfl .nil)) (.two (.cons (.c (.v _)) (.cons (.c (.v _)) .nil))))

theorem Z1u {x' : (List Span)} {target : Int} {cmp : Span → Int → Option Int} {C : List Res} {cv0 : PV} (hs0 : cv0.still = true) (hp0 : cv0.pure = true → C = []) (hf0 : ∀ z0 z1 y, cmp z0 z1 = some y → CloH CX cv0 [(.agg (vs (Span.cs z0))), (vi z1)] (vi y) C) {r : Int × Bool} (h : Z7 x' target cmp = some r) : FnH CX 54 [(vl Span.cs x'), (vi target), cv0] (.tup [(vi r.1), (vb r.2)]) C := by
 refine FnH.of Try.func54 rfl rfl rfl rfl (Z2O rfl (Z2O rfl (Z2O hs0 all_nil))) rfl (fun h => hp0 (Z2y h 2 rfl)) ?_
 intro σ L hC H
 unfold Z7 at h
 refine .then (.Z0 2 rfl H fun b1 σ H => (.assign (v := (vi 0)) rfl rfl (.assign (v := (vb false)) rfl rfl (.nila H fun H => (.then ?_)))))
 refine .Z0 3 rfl H fun b2 σ H => (.move (v := (vl Span.cs x')) rfl rfl (.Z0T (c := Span.cs) (xs := x') rfl rfl rfl (.assign (v := (vi (x'.length : Int))) rfl rfl (.nila H fun H => (.then ?_)))))
 refine .Z0 3 rfl H fun b3 σ H => (.move (v := (vi (x'.length : Int))) rfl rfl (.assign (v := (vi 0)) rfl rfl (.assign (v := (vi (x'.length : Int))) rfl rfl (.nila H fun H => (.then ?_)))))
 refine .inBlock ?_
 obtain ⟨y1, hj1, h⟩ := bind_some h
 obtain ⟨n1, hj1⟩ := Ze.1 hj1
 refine .mono (Runs.ZK hj1 (fun s1 e σ => Z5 e [(0, (vl Span.cs x')), (1, (vi target)), (2, cv0), (8, (vi (x'.length : Int))), (9, (vi s1.1)), (10, (vi s1.2))] ∧ Hs σ (L)) (fun y1 x e σ => x = .exit 0 ∧ Z5 e [(0, (vl Span.cs x')), (1, (vi target)), (2, cv0), (8, (vi (x'.length : Int))), (9, (vi y1))] ∧ Hs σ (L)) ⟨⟨rfl, rfl, rfl, rfl, rfl, rfl, trivial⟩, H⟩ ?_) ?_
 ·intro s1 e σ hI z h
  obtain ⟨he, H⟩ := hI
  obtain ⟨e, rfl⟩ := he.ex
  unfold Z7.s0 at h
  refine .then (.then (.Z0 3 rfl H fun b4 σ H => (.move (v := (vi s1.1)) rfl rfl (.move (v := (vi s1.2)) rfl rfl (.int (m := s1.1) (m' := s1.2) (r := .bool (decide (s1.1 < s1.2))) rfl rfl rfl rfl rfl ?_)))))
  refine .nila H fun H => ?_
  refine .whether (v := (decide (s1.1 < s1.2))) rfl ?_ ?_ <;> intro hc1
  ·replace h := Z9 hc1 h
   refine .skip (.inBlock ?_)
   obtain ⟨y2, hj2, h⟩ := bind_some h
   refine .mono (Q := fun x e σ => x = .normal ∧ Z5 e [(0, (vl Span.cs x')), (1, (vi target)), (2, cv0), (8, (vi (x'.length : Int))), (9, (vi y2.1)), (10, (vi y2.2))] ∧ Hs σ (L)) ?_ ?_
   ·replace h := hj2
    refine .then (.Z0 7 rfl H fun b5 σ H => (.move (v := (vi s1.1)) rfl rfl (.move (v := (vi s1.2)) rfl rfl (.int (m := s1.1) (m' := s1.2) (r := .int .i64 (w64 (s1.1 + s1.2))) rfl rfl rfl rfl rfl (.conv (m := (w64 (s1.1 + s1.2))) rfl rfl rfl rfl ?_)))))
    refine .shr (m := (IntKind.u64.wrap (w64 (s1.1 + s1.2)))) (m' := 1) rfl rfl (by decide) rfl (.conv (m := ((IntKind.u64.wrap (w64 (s1.1 + s1.2))).fdiv (2 ^ 1))) rfl rfl rfl rfl (.assign (v := (vi (w64 ((IntKind.u64.wrap (w64 (s1.1 + s1.2))).fdiv (2 ^ 1))))) rfl rfl (.nila H fun H => (.then (.Z0 8 rfl H fun b6 σ H => ?_)))))
    refine .move (v := cv0) rfl rfl (.move (v := (vl Span.cs x')) rfl rfl (.move (v := (vi (w64 ((IntKind.u64.wrap (w64 (s1.1 + s1.2))).fdiv (2 ^ 1))))) rfl rfl ?_))
    obtain ⟨x1, q1, h⟩ := bind_some h
    refine .Z0H (c := Span.cs) (u := x1) rfl rfl q1 rfl rfl rfl rfl (.Z2g (cs := [(.int .i64 x1.From), (.int .i64 x1.To)]) rfl rfl rfl rfl rfl rfl (.move (v := (vi target)) rfl rfl ?_))
    obtain ⟨x2, q2, h⟩ := bind_some h
    refine .callV (cv := cv0) (ys := [(.agg (vs (Span.cs x1))), (vi target)]) (r := (vi x2)) H rfl rfl (hf0 x1 target _ q2) hC nofun rfl fun σ H => (.int (m := x2) (m' := 0) (r := .bool (decide (x2 < 0))) rfl rfl rfl rfl rfl (.nila H fun H => ?_))
    refine .whether (v := (decide (x2 < 0))) rfl ?_ ?_ <;> intro hc2
    ·replace h := Z9 hc2 h
     refine .Z0 3 rfl H fun b7 σ H => (.move (v := (vi (w64 ((IntKind.u64.wrap (w64 (s1.1 + s1.2))).fdiv (2 ^ 1))))) rfl rfl (.int (m := (w64 ((IntKind.u64.wrap (w64 (s1.1 + s1.2))).fdiv (2 ^ 1)))) (m' := 1) (r := .int .i64 (w64 ((w64 ((IntKind.u64.wrap (w64 (s1.1 + s1.2))).fdiv (2 ^ 1))) + 1))) rfl rfl rfl rfl rfl (.assign (v := (vi (w64 ((w64 ((IntKind.u64.wrap (w64 (s1.1 + s1.2))).fdiv (2 ^ 1))) + 1)))) rfl rfl (.nila H fun H => ?_))))
     replace h := sj h; subst h
     exact ⟨rfl, ⟨rfl, rfl, rfl, rfl, rfl, rfl, trivial⟩, H⟩
    ·replace h := Z6 hc2 h
     refine .Z0 2 rfl H fun b8 σ H => (.move (v := (vi (w64 ((IntKind.u64.wrap (w64 (s1.1 + s1.2))).fdiv (2 ^ 1))))) rfl rfl (.assign (v := (vi (w64 ((IntKind.u64.wrap (w64 (s1.1 + s1.2))).fdiv (2 ^ 1))))) rfl rfl (.nila H fun H => ?_)))
     replace h := sj h; subst h
     exact ⟨rfl, ⟨rfl, rfl, rfl, rfl, rfl, rfl, trivial⟩, H⟩
   ·rintro x e σ ⟨rfl, he, H⟩
    obtain ⟨e, rfl⟩ := he.ex
    replace h := sj h; subst h
    exact ⟨rfl, ⟨rfl, rfl, rfl, rfl, rfl, rfl, trivial⟩, H⟩
  ·replace h := Z6 hc1 h
   refine .exit ?_
   replace h := sj h; subst h
   exact ⟨nofun, ⟨rfl, ⟨rfl, rfl, rfl, rfl, rfl, trivial⟩, H⟩⟩
 ·rintro x e σ ⟨rfl, he, H⟩
  obtain ⟨e, rfl⟩ := he.ex
  refine .then (.Z0 16 rfl H fun b9 σ H => (.move (v := (vi y1)) rfl rfl (.move (v := (vi y1)) rfl rfl (.move (v := (vi (x'.length : Int))) rfl rfl (.int (m := y1) (m' := (x'.length : Int)) (r := .bool (decide (y1 < (x'.length : Int)))) rfl rfl rfl rfl rfl ?_)))))
  refine .move (v := (vb (decide (y1 < (x'.length : Int))))) rfl rfl ?_
  obtain ⟨y3, hj3, h⟩ := bind_some h
  refine .mid 9 (K1 := fun e σ => Z5 e [(48, (vb y3)), (35, (vi y1))] ∧ Has σ (b9 + 14) (b9 + 16) (L)) rfl ?_ ?_
  ·refine .split rfl rfl ?_ ?_ <;> intro hc3
   ·replace h := Z9 hc3 hj3
    refine .wanted rfl rfl (.move (v := cv0) rfl rfl (.wanted rfl rfl (.move (v := (vl Span.cs x')) rfl rfl (.wanted rfl rfl (.move (v := (vi y1)) rfl rfl ?_)))))
    refine .wanted rfl rfl ?_
    obtain ⟨x3, q3, h⟩ := bind_some h
    refine .Z0H (c := Span.cs) (u := x3) rfl rfl q3 rfl rfl rfl rfl (.wanted rfl rfl (.Z2g (cs := [(.int .i64 x3.From), (.int .i64 x3.To)]) rfl rfl rfl rfl rfl rfl (.wanted rfl rfl (.move (v := (vi target)) rfl rfl (.wanted rfl rfl ?_)))))
    obtain ⟨x4, q4, h⟩ := bind_some h
    refine .callV (cv := cv0) (ys := [(.agg (vs (Span.cs x3))), (vi target)]) (r := (vi x4)) H rfl rfl (hf0 x3 target _ q4) hC nofun rfl fun σ H => (.wanted rfl rfl (.int (m := x4) (m' := 0) (r := .bool (x4 == 0)) rfl rfl rfl rfl rfl (.Zg (v := (vb (x4 == 0))) rfl rfl rfl (.nil ?_))))
    replace h := sj h; subst h
    exact ⟨⟨rfl, rfl, trivial⟩, H.weak (by omega) (Nat.le_refl _)⟩
   ·replace h := Z6 hc3 hj3
    refine .pass rfl rfl rfl (.pass rfl rfl rfl (.pass rfl rfl rfl (.pass rfl rfl rfl (.pass rfl rfl rfl (.pass rfl rfl rfl ?_)))))
    refine .pass rfl rfl rfl (.pass rfl rfl rfl (.Zn (v := (vb false)) rfl rfl rfl (.nil ?_)))
    replace h := sj h; subst h
    exact ⟨⟨rfl, rfl, trivial⟩, H.weak (by omega) (Nat.le_refl _)⟩
  ·rintro e σ ⟨he, H⟩
   obtain ⟨e, rfl⟩ := he.ex
   refine .assign (v := (vi y1)) rfl rfl (.assign (v := (vb y3)) rfl rfl (.nila H fun H => (.ret ?_)))
   replace h := sj h; subst h
   exact (EndsH.H (xs := [(vi y1), (vb y3)]) (.inr rfl) H (.tmp (v := (vi y1)) rfl (.tmp (v := (vb y3)) rfl .nil)) (.two (.cons (.c (.v _)) (.cons (.c (.v _)) .nil))) 0 rfl)

theorem Z9J {s : Span} {t : Int} {r : Int} (h : Z2C s t = r) : Fn CX 55 [(.agg (vs (Span.cs s))), (vi t)] (vi r) := by
 refine Fn.ends Try.func55 rfl rfl rfl rfl rfl rfl ?_
 have H : Hs (⟨0, fun _ => .none⟩ : Heap) [] := Has.nil (Nat.le_refl _)
 generalize (⟨0, fun _ => .none⟩ : Heap) = σ at H ⊢
 unfold Z2C at h
 refine .then (.Z0 2 rfl H fun b1 σ H => (.boxH (cs := [(vi s.From), (vi s.To)]) H (by omega) (by omega) rfl rfl rfl fun σ H => (.assign (v := (vi 0)) rfl rfl (.nila H fun H => (.then ?_)))))
 refine .inBlock (.then (.Z0 5 rfl H fun b2 σ H => (.Z2 (off := 0) (fo := 1) H 0 rfl rfl rfl rfl rfl nofun rfl (.ZR (off := 1) (v := (vi s.To)) H 0 rfl rfl rfl rfl rfl nofun rfl (.move (v := (vi t)) rfl rfl ?_)))))
 refine .int (m := s.To) (m' := t) (r := .bool (decide (s.To < t))) rfl rfl rfl rfl rfl (.assign (v := (vb (decide (s.To < t)))) rfl rfl (.nila H fun H => ?_))
 refine .whether (v := (decide (s.To < t))) rfl ?_ ?_ <;> intro hc1
 ·replace h := Z9 hc1 h
  refine .then (.Z0 1 rfl H fun b3 σ H => (.assign (v := (vi (-1))) rfl rfl (.nila H fun H => (.ret ?_))))
  subst h
  exact (Ends.H (xs := [(vi (-1))]) (.inr rfl) H (.tmp (v := (vi (-1))) rfl .nil) (.one (.c (.v _))))
 ·replace h := Z6 hc1 h
  refine .then (.Z0 5 rfl H fun b4 σ H => (.Z2 (off := 0) (fo := 0) H 0 rfl rfl rfl rfl rfl nofun rfl (.ZR (off := 0) (v := (vi s.From)) H 0 rfl rfl rfl rfl rfl nofun rfl (.move (v := (vi t)) rfl rfl (.int (m := s.From) (m' := t) (r := .bool (decide (s.From > t))) rfl rfl rfl rfl rfl ?_)))))
  refine .assign (v := (vb (decide (s.From > t)))) rfl rfl (.nila H fun H => ?_)
  refine .whether (v := (decide (s.From > t))) rfl ?_ ?_ <;> intro hc2
  ·replace h := Z9 hc2 h
   refine .then (.Z0 1 rfl H fun b5 σ H => (.assign (v := (vi 1)) rfl rfl (.nila H fun H => (.ret ?_))))
   subst h
   exact (Ends.H (xs := [(vi 1)]) (.inr rfl) H (.tmp (v := (vi 1)) rfl .nil) (.one (.c (.v _))))
  ·replace h := Z6 hc2 h
   refine .skip (.then (.Z0 1 rfl H fun b6 σ H => (.assign (v := (vi 0)) rfl rfl (.nila H fun H => (.ret ?_)))))
   subst h
   exact (Ends.H (xs := [(vi 0)]) (.inr rfl) H (.tmp (v := (vi 0)) rfl .nil) (.one (.c (.v _))))

theorem spans_Has_fn {l : (List Span)} {t : Int} {r : Bool} (h : Z3F l t = some r) : Fn CX 40 [(vl Span.cs l), (vi t)] (vb r) := by
 refine Fn.ends Try.func40 rfl rfl rfl rfl rfl rfl ?_
 have H : Hs (⟨0, fun _ => .none⟩ : Heap) [] := Has.nil (Nat.le_refl _)
 generalize (⟨0, fun _ => .none⟩ : Heap) = σ at H ⊢
 unfold Z3F at h
 refine .then (.Z0 1 rfl H fun b1 σ H => (.assign (v := (vb false)) rfl rfl (.nila H fun H => (.then (.Z0 8 rfl H fun b2 σ H => ?_)))))
 refine .move (v := (vl Span.cs l)) rfl rfl (.move (v := (vi t)) rfl rfl ?_)
 obtain ⟨x1, q1, h⟩ := bind_some h
 refine .Z6h (ys := [(vl Span.cs l), (vi t), (.v (.fn 55))]) (r := (.tup [(vi x1.1), (vb x1.2)])) H rfl (Z1u (C := []) rfl (fun _ => rfl) (fun z0 z1 y hz => (CloH.fn (Fn.toH (Z9J (Option.some.inj hz)) _))) q1) .nil nofun rfl fun σ H => (.move (v := (.tup [(vi x1.1), (vb x1.2)])) rfl rfl (.extract (v := (vi x1.1)) rfl rfl rfl (.extract (v := (vb x1.2)) rfl rfl rfl (.assign (v := (vi x1.1)) rfl rfl (.assign (v := (vb x1.2)) rfl rfl ?_)))))
 refine .nila H fun H => (.then (.Z0 8 rfl H fun b3 σ H => (.move (v := (vb x1.2)) rfl rfl (.move (v := (vb x1.2)) rfl rfl ?_))))
 refine .mid 5 (K1 := fun e σ => Z5 e [(19, (vb (x1.2 && (decide (x1.1 < (l.length : Int))))))] ∧ Has σ (b3 + 7) (b3 + 8) []) rfl ?_ ?_
 ·refine .split rfl rfl ?_ ?_ <;> intro hc1
  ·skip
   refine .wanted rfl rfl (.move (v := (vi x1.1)) rfl rfl (.wanted rfl rfl (.move (v := (vl Span.cs l)) rfl rfl (.wanted rfl rfl (.Z0T (c := Span.cs) (xs := l) rfl rfl rfl ?_)))))
   refine .wanted rfl rfl (.int (m := x1.1) (m' := (l.length : Int)) (r := .bool (decide (x1.1 < (l.length : Int)))) rfl rfl rfl rfl rfl (.Zg (v := (vb (decide (x1.1 < (l.length : Int))))) rfl rfl rfl (.nil ?_)))
   exact ⟨⟨Z1f hc1, trivial⟩, H.weak (by omega) (Nat.le_refl _)⟩
  ·skip
   refine .pass rfl rfl rfl (.pass rfl rfl rfl (.pass rfl rfl rfl (.pass rfl rfl rfl (.Zn (v := (vb false)) rfl rfl rfl (.nil ?_)))))
   exact ⟨⟨Z1e hc1, trivial⟩, H.weak (by omega) (Nat.le_refl _)⟩
 ·rintro e σ ⟨he, H⟩
  obtain ⟨e, rfl⟩ := he.ex
  refine .assign (v := (vb (x1.2 && (decide (x1.1 < (l.length : Int)))))) rfl rfl (.nila H fun H => (.ret ?_))
  replace h := sj h; subst h
  exact (Ends.H (xs := [(vb (x1.2 && (decide (x1.1 < (l.length : Int)))))]) (.inr rfl) H (.tmp (v := (vb (x1.2 && (decide (x1.1 < (l.length : Int)))))) rfl .nil) (.one (.c (.v _))))

theorem Z9g {f : Form} {t : Int} {r : Int × Bool} (h : Z3Y f t = some r) : Fn CX 22 [(.agg (vs (Form.cs f))), (vi t)] (.tup [(vi r.1), (vb r.2)]) := by
 refine Fn.ends Try.func22 rfl rfl rfl rfl rfl rfl ?_
 have H : Hs (⟨0, fun _ => .none⟩ : Heap) [] := Has.nil (Nat.le_refl _)
 generalize (⟨0, fun _ => .none⟩ : Heap) = σ at H ⊢
 unfold Z3Y at h
 refine .then (.Z0 3 rfl H fun b1 σ H => (.boxH (cs := (vF f)) H (by omega) (by omega) rfl rfl rfl fun σ H => (.assign (v := (vi 0)) rfl rfl (.assign (v := (vb false)) rfl rfl (.nila H fun H => ?_)))))
 refine .then (.Z0 8 rfl H fun b2 σ H => (.ZP (off := 0) (cs := (vF f)) H 0 rfl rfl rfl rfl rfl rfl rfl nofun rfl (.move (v := (vi t)) rfl rfl ?_)))
 obtain ⟨x1, q1, h⟩ := bind_some h
 refine .call (ys := [(.agg (vF f)), (vi t)]) (r := (.tup [(vi x1.1), (vb x1.2)])) rfl (find_From_fn q1) rfl (.move (v := (.tup [(vi x1.1), (vb x1.2)])) rfl rfl (.extract (v := (vi x1.1)) rfl rfl rfl (.extract (v := (vb x1.2)) rfl rfl rfl (.assign (v := (vi x1.1)) rfl rfl (.assign (v := (vb x1.2)) rfl rfl ?_)))))
 refine .nila H fun H => (.then (.then (.Z0 2 rfl H fun b3 σ H => (.move (v := (vb x1.2)) rfl rfl (.not (b := x1.2) rfl rfl ?_)))))
 refine .nila H fun H => ?_
 refine .whether (v := (!x1.2)) rfl ?_ ?_ <;> intro hc1
 ·replace h := Z9 hc1 h
  refine .then (.Z0 2 rfl H fun b4 σ H => (.assign (v := (vi 0)) rfl rfl (.assign (v := (vb false)) rfl rfl (.nila H fun H => (.ret ?_)))))
  replace h := sj h; subst h
  exact (Ends.H (xs := [(vi 0), (vb false)]) (.inr rfl) H (.tmp (v := (vi 0)) rfl (.tmp (v := (vb false)) rfl .nil)) (.two (.cons (.c (.v _)) (.cons (.c (.v _)) .nil))))
 ·replace h := Z6 hc1 h
  refine .skip (.then (.Z0 8 rfl H fun b5 σ H => (.ZP (off := 0) (cs := (vF f)) H 0 rfl rfl rfl rfl rfl rfl rfl nofun rfl (.move (v := (vi x1.1)) rfl rfl ?_))))
  obtain ⟨x2, q2, h⟩ := bind_some h
  refine .call (ys := [(.agg (vF f)), (vi x1.1)]) (r := (.tup [(vl Span.cs x2.1), (vi x2.2)])) rfl (Z3b q2) rfl (.move (v := (.tup [(vl Span.cs x2.1), (vi x2.2)])) rfl rfl (.extract (v := (vl Span.cs x2.1)) rfl rfl rfl (.extract (v := (vi x2.2)) rfl rfl rfl (.assign (v := (vl Span.cs x2.1)) rfl rfl (.assign (v := (vi x2.2)) rfl rfl ?_)))))
  refine .nila H fun H => (.then (.then (.Z0 4 rfl H fun b6 σ H => (.move (v := (vl Span.cs x2.1)) rfl rfl (.move (v := (vi t)) rfl rfl ?_)))))
  obtain ⟨x3, q3, h⟩ := bind_some h
  refine .call (ys := [(vl Span.cs x2.1), (vi t)]) (r := (vb x3)) rfl (spans_Has_fn q3) rfl (.not (b := x3) rfl rfl (.nila H fun H => ?_))
  refine .whether (v := (!x3)) rfl ?_ ?_ <;> intro hc2
  ·replace h := Z9 hc2 h
   refine .then (.Z0 2 rfl H fun b7 σ H => (.assign (v := (vi 0)) rfl rfl (.assign (v := (vb false)) rfl rfl (.nila H fun H => (.ret ?_)))))
   replace h := sj h; subst h
   exact (Ends.H (xs := [(vi 0), (vb false)]) (.inr rfl) H (.tmp (v := (vi 0)) rfl (.tmp (v := (vb false)) rfl .nil)) (.two (.cons (.c (.v _)) (.cons (.c (.v _)) .nil))))
  ·replace h := Z6 hc2 h
   refine .skip (.then (.Z0 3 rfl H fun b8 σ H => (.move (v := (vi x1.1)) rfl rfl (.assign (v := (vi x1.1)) rfl rfl (.assign (v := (vb true)) rfl rfl ?_)))))
   refine .nila H fun H => (.ret ?_)
   replace h := sj h; subst h
   exact (Ends.H (xs := [(vi x1.1), (vb true)]) (.inr rfl) H (.tmp (v := (vi x1.1)) rfl (.tmp (v := (vb true)) rfl .nil)) (.two (.cons (.c (.v _)) (.cons (.c (.v _)) .nil))))

theorem Z2d {f : Form} {a : Int} {b : Int} {r : Int × Bool} (h : Zs f a b = some r) : Fn CX 9 [(.agg (vs (Form.cs f))), (vi a), (vi b)] (.tup [(vi r.1), (vb r.2)]) := by
 refine Fn.ends Try.func9 rfl rfl rfl rfl rfl rfl ?_
 have H : Hs (⟨0, fun _ => .none⟩ : Heap) [] := Has.nil (Nat.le_refl _)
 generalize (⟨0, fun _ => .none⟩ : Heap) = σ at H ⊢
 unfold Zs at h
 refine .then (.Z0 3 rfl H fun b1 σ H => (.boxH (cs := (vF f)) H (by omega) (by omega) rfl rfl rfl fun σ H => (.assign (v := (vi 0)) rfl rfl (.assign (v := (vb false)) rfl rfl (.nila H fun H => ?_)))))
 refine .then (.Z0 8 rfl H fun b2 σ H => (.ZP (off := 0) (cs := (vF f)) H 0 rfl rfl rfl rfl rfl rfl rfl nofun rfl (.move (v := (vi a)) rfl rfl ?_)))
 obtain ⟨x1, q1, h⟩ := bind_some h
 refine .call (ys := [(.agg (vF f)), (vi a)]) (r := (.tup [(vi x1.1), (vb x1.2)])) rfl (Z9g q1) rfl (.move (v := (.tup [(vi x1.1), (vb x1.2)])) rfl rfl (.extract (v := (vi x1.1)) rfl rfl rfl (.extract (v := (vb x1.2)) rfl rfl rfl (.assign (v := (vi x1.1)) rfl rfl (.assign (v := (vb x1.2)) rfl rfl ?_)))))
 refine .nila H fun H => (.then (.then (.Z0 2 rfl H fun b3 σ H => (.move (v := (vb x1.2)) rfl rfl (.not (b := x1.2) rfl rfl ?_)))))
 refine .nila H fun H => ?_
 refine .whether (v := (!x1.2)) rfl ?_ ?_ <;> intro hc1
 ·replace h := Z9 hc1 h
  refine .then (.Z0 2 rfl H fun b4 σ H => (.assign (v := (vi 0)) rfl rfl (.assign (v := (vb false)) rfl rfl (.nila H fun H => (.ret ?_)))))
  replace h := sj h; subst h
  exact (Ends.H (xs := [(vi 0), (vb false)]) (.inr rfl) H (.tmp (v := (vi 0)) rfl (.tmp (v := (vb false)) rfl .nil)) (.two (.cons (.c (.v _)) (.cons (.c (.v _)) .nil))))
 ·replace h := Z6 hc1 h
  refine .skip (.then (.Z0 8 rfl H fun b5 σ H => (.ZP (off := 0) (cs := (vF f)) H 0 rfl rfl rfl rfl rfl rfl rfl nofun rfl (.move (v := (vi b)) rfl rfl ?_))))
  obtain ⟨x2, q2, h⟩ := bind_some h
  refine .call (ys := [(.agg (vF f)), (vi b)]) (r := (.tup [(vi x2.1), (vb x2.2)])) rfl (Z9g q2) rfl (.move (v := (.tup [(vi x2.1), (vb x2.2)])) rfl rfl (.extract (v := (vi x2.1)) rfl rfl rfl (.extract (v := (vb x2.2)) rfl rfl rfl (.assign (v := (vi x2.1)) rfl rfl (.assign (v := (vb x2.2)) rfl rfl ?_)))))
  refine .nila H fun H => (.then (.then (.Z0 2 rfl H fun b6 σ H => (.move (v := (vb x2.2)) rfl rfl (.not (b := x2.2) rfl rfl ?_)))))
  refine .nila H fun H => ?_
  refine .whether (v := (!x2.2)) rfl ?_ ?_ <;> intro hc2
  ·replace h := Z9 hc2 h
   refine .then (.Z0 2 rfl H fun b7 σ H => (.assign (v := (vi 0)) rfl rfl (.assign (v := (vb false)) rfl rfl (.nila H fun H => (.ret ?_)))))
   replace h := sj h; subst h
   exact (Ends.H (xs := [(vi 0), (vb false)]) (.inr rfl) H (.tmp (v := (vi 0)) rfl (.tmp (v := (vb false)) rfl .nil)) (.two (.cons (.c (.v _)) (.cons (.c (.v _)) .nil))))
  ·replace h := Z6 hc2 h
   refine .skip (.then (.Z0 5 rfl H fun b8 σ H => (.move (v := (vi x2.1)) rfl rfl (.move (v := (vi x1.1)) rfl rfl (.int (m := x2.1) (m' := x1.1) (r := .int .i64 (w64 (x2.1 - x1.1))) rfl rfl rfl rfl rfl ?_)))))
   refine .assign (v := (vi (w64 (x2.1 - x1.1)))) rfl rfl (.assign (v := (vb true)) rfl rfl (.nila H fun H => (.ret ?_)))
   replace h := sj h; subst h
   exact (Ends.H (xs := [(vi (w64 (x2.1 - x1.1))), (vb true)]) (.inr rfl) H (.tmp (v := (vi (w64 (x2.1 - x1.1)))) rfl (.tmp (v := (vb true)) rfl .nil)) (.two (.cons (.c (.v _)) (.cons (.c (.v _)) .nil))))

theorem Z3r {s : (List Int)} {f : Int → Option Bool} {C : List Res} {cv0 : PV} (hs0 : cv0.still = true) (hp0 : cv0.pure = true → C = []) (hf0 : ∀ z0 y, f z0 = some y → CloH CX cv0 [(vi z0)] (vb y) C) {r : Int} (h : ZN s f = some r) : FnH CX 56 [(vl (cI .i64) s), cv0] (vi r) C := by
 refine FnH.of Try.func56 rfl rfl rfl rfl (Z2O rfl (Z2O hs0 all_nil)) rfl (fun h => hp0 (Z2y h 1 rfl)) ?_
 intro σ L hC H
 unfold ZN at h
 refine .then (.Z0 1 rfl H fun b1 σ H => (.assign (v := (vi 0)) rfl rfl (.nila H fun H => (.then (.then ?_)))))
 refine .Z0 3 rfl H fun b2 σ H => (.move (v := (vl (cI .i64) s)) rfl rfl (.Z0T (c := (cI .i64)) (xs := s) rfl rfl rfl (.move (v := (vi 0)) rfl rfl (.nila H fun H => (.inBlock ?_)))))
 obtain ⟨y1, hj1, h⟩ := bind_some h
 obtain ⟨n1, hj1⟩ := Ze.1 hj1
 refine .mono (Runs.ZK hj1 (fun s1 e σ => Z5 e [(0, (vl (cI .i64) s)), (1, cv0), (7, (vi (s.length : Int))), (8, (vi s1))] ∧ Hs σ (L)) (fun y1 x e σ => (∃ a1, y1 = (.go a1) ∧ x = .exit 0 ∧ Z5 e [] ∧ Hs σ (L)) ∨ (∃ r', y1 = (.ret r') ∧ x = .ret ∧ EndsH CX Try.f56.results.toList (vi r') L x e σ)) ⟨⟨rfl, rfl, rfl, rfl, trivial⟩, H⟩ ?_) ?_
 ·intro s1 e σ hI z h
  obtain ⟨he, H⟩ := hI
  obtain ⟨e, rfl⟩ := he.ex
  unfold ZN.s0 at h
  refine .then (.Z0 1 rfl H fun b3 σ H => (.int (m := s1) (m' := (s.length : Int)) (r := .bool (decide (s1 < (s.length : Int)))) rfl rfl rfl rfl rfl (.nila H fun H => (.then ?_))))
  refine .whether (v := (decide (s1 < (s.length : Int)))) rfl ?_ ?_ <;> intro hc1
  ·replace h := Z9 hc1 h
   refine .skip (.then (.inBlock (.then (.Z0 2 rfl H fun b4 σ H => (.move (v := (vi s1)) rfl rfl ?_)))))
   refine .assign (v := (vi s1)) rfl rfl (.nila H fun H => (.then (.Z0 6 rfl H fun b5 σ H => (.move (v := cv0) rfl rfl (.move (v := (vl (cI .i64) s)) rfl rfl ?_)))))
   refine .move (v := (vi s1)) rfl rfl ?_
   obtain ⟨x1, q1, h⟩ := bind_some h
   refine .Z0H (c := (cI .i64)) (u := x1) rfl rfl q1 rfl rfl rfl rfl (.Z2M (u := (.int .i64 x1)) rfl rfl rfl rfl ?_)
   obtain ⟨x2, q2, h⟩ := bind_some h
   refine .callV (cv := cv0) (ys := [(vi x1)]) (r := (vb x2)) H rfl rfl (hf0 x1 _ q2) hC nofun rfl fun σ H => (.nila H fun H => ?_)
   refine .whether (v := x2) rfl ?_ ?_ <;> intro hc2
   ·replace h := Z9 hc2 h
    refine .then (.Z0 2 rfl H fun b6 σ H => (.move (v := (vi s1)) rfl rfl (.assign (v := (vi s1)) rfl rfl (.nila H fun H => (.ret ?_)))))
    replace h := sj h; subst h
    exact ⟨nofun, (.inr ⟨_, rfl, rfl, (EndsH.H (xs := [(vi s1)]) (.inr rfl) H (.tmp (v := (vi s1)) rfl .nil) (.one (.c (.v _))) 0 rfl)⟩)⟩
   ·replace h := Z6 hc2 h
    refine .skip (.Z0 2 rfl H fun b7 σ H => (.int (m := s1) (m' := 1) (r := .int .i64 (w64 (s1 + 1))) rfl rfl rfl rfl rfl (.move (v := (vi (w64 (s1 + 1)))) rfl rfl (.nila H fun H => ?_))))
    replace h := sj h; subst h
    exact ⟨rfl, ⟨rfl, rfl, rfl, rfl, trivial⟩, H⟩
  ·replace h := Z6 hc1 h
   refine .exit ?_
   replace h := sj h; subst h
   exact ⟨nofun, (.inl ⟨_, rfl, rfl, trivial, H⟩)⟩
 ·rintro x e σ (⟨a2, rfl, rfl, he, H⟩ | ⟨r', rfl, rfl, hE⟩)
  ·skip
   replace h := jgo h
   obtain ⟨e, rfl⟩ := he.ex
   refine .then (.Z0 1 rfl H fun b8 σ H => (.assign (v := (vi (-1))) rfl rfl (.nila H fun H => (.ret ?_))))
   replace h := sj h; subst h
   exact (EndsH.H (xs := [(vi (-1))]) (.inr rfl) H (.tmp (v := (vi (-1))) rfl .nil) (.one (.c (.v _))) 0 rfl)
  ·skip
   replace h := jret h
   replace h := sj h; subst h
   exact hE

theorem Z39 {s : (List Int)} {f : Int → Option Bool} {C : List Res} {cv0 : PV} (hs0 : cv0.still = true) (hp0 : cv0.pure = true → C = []) (hf0 : ∀ z0 y, f z0 = some y → CloH CX cv0 [(vi z0)] (vb y) C) {r : Bool} (h : Zk s f = some r) : FnH CX 43 [(vl (cI .i64) s), cv0] (vb r) C := by
 refine FnH.of Try.func43 rfl rfl rfl rfl (Z2O rfl (Z2O hs0 all_nil)) rfl (fun h => hp0 (Z2y h 1 rfl)) ?_
 intro σ L hC H
 unfold Zk at h
 refine .then (.Z0 1 rfl H fun b1 σ H => (.assign (v := (vb false)) rfl rfl (.nila H fun H => (.then (.Z0 5 rfl H fun b2 σ H => ?_)))))
 refine .move (v := (vl (cI .i64) s)) rfl rfl (.move (v := cv0) rfl rfl ?_)
 obtain ⟨x1, q1, h⟩ := bind_some h
 refine .Z6h (ys := [(vl (cI .i64) s), cv0]) (r := (vi x1)) H rfl (Z3r (C := C) hs0 hp0 hf0 q1) hC nofun rfl fun σ H => (.int (m := x1) (m' := 0) (r := .bool (decide (x1 ≥ 0))) rfl rfl rfl rfl rfl (.assign (v := (vb (decide (x1 ≥ 0)))) rfl rfl (.nila H fun H => (.ret ?_))))
 replace h := sj h; subst h
 exact (EndsH.H (xs := [(vb (decide (x1 ≥ 0)))]) (.inr rfl) H (.tmp (v := (vb (decide (x1 ≥ 0)))) rfl .nil) (.one (.c (.v _))) 0 rfl)

theorem tag_own_1_fn {t : Int} {r : Bool} (h : Z48 t = r) : Fn CX 42 [(vi t)] (vb r) := by
 refine Fn.ends Try.func42 rfl rfl rfl rfl rfl rfl ?_
 have H : Hs (⟨0, fun _ => .none⟩ : Heap) [] := Has.nil (Nat.le_refl _)
 generalize (⟨0, fun _ => .none⟩ : Heap) = σ at H ⊢
 unfold Z48 at h
 refine .then (.Z0 1 rfl H fun b1 σ H => (.assign (v := (vb false)) rfl rfl (.nila H fun H => (.then (.Z0 7 rfl H fun b2 σ H => ?_)))))
 refine .move (v := (vi t)) rfl rfl (.int (m := t) (m' := (-1099511627776)) (r := .bool (decide (t < (-1099511627776)))) rfl rfl rfl rfl rfl (.move (v := (vb (decide (t < (-1099511627776))))) rfl rfl ?_))
 refine .mid 3 (K1 := fun e σ => Z5 e [(8, (vb ((decide (t < (-1099511627776))) || (decide (t > 1099511627776)))))] ∧ Has σ (b2 + 6) (b2 + 7) []) rfl ?_ ?_
 ·refine .split rfl rfl ?_ ?_ <;> intro hc1
  ·skip
   refine .pass rfl rfl rfl (.pass rfl rfl rfl (.Zg (v := (vb true)) rfl rfl rfl (.nil ?_)))
   exact ⟨⟨or_T hc1, trivial⟩, H.weak (by omega) (Nat.le_refl _)⟩
  ·skip
   refine .wanted rfl rfl (.move (v := (vi t)) rfl rfl (.wanted rfl rfl (.int (m := t) (m' := 1099511627776) (r := .bool (decide (t > 1099511627776))) rfl rfl rfl rfl rfl (.Zn (v := (vb (decide (t > 1099511627776)))) rfl rfl rfl (.nil ?_)))))
   exact ⟨⟨or_F hc1, trivial⟩, H.weak (by omega) (Nat.le_refl _)⟩
 ·rintro e σ ⟨he, H⟩
  obtain ⟨e, rfl⟩ := he.ex
  refine .assign (v := (vb ((decide (t < (-1099511627776))) || (decide (t > 1099511627776))))) rfl rfl (.nila H fun H => (.ret ?_))
  subst h
  exact (Ends.H (xs := [(vb ((decide (t < (-1099511627776))) || (decide (t > 1099511627776))))]) (.inr rfl) H (.tmp (v := (vb ((decide (t < (-1099511627776))) || (decide (t > 1099511627776))))) rfl .nil) (.one (.c (.v _))))

theorem Z6r {n : Net} {ticks : (List Int)} {r : Bool} (h : Z3x n ticks = some r) : Fn CX 24 [(.agg (vs (Net.cs n))), (vl (cI .i64) ticks)] (vb r) := by
 refine Fn.ends Try.func24 rfl rfl rfl rfl rfl rfl ?_
 have H : Hs (⟨0, fun _ => .none⟩ : Heap) [] := Has.nil (Nat.le_refl _)
 generalize (⟨0, fun _ => .none⟩ : Heap) = σ at H ⊢
 unfold Z3x at h
 refine .then (.Z0 2 rfl H fun b1 σ H => (.boxH (cs := [(vi n.Vars), (vl Form.cs n.Forms), (vl Con.cs n.Cons)]) H (by omega) (by omega) rfl rfl rfl fun σ H => (.assign (v := (vb false)) rfl rfl (.nila H fun H => (.then ?_)))))
 refine .Z0 1 rfl H fun b2 σ H => (.assign (v := (.v (.fn 42))) rfl rfl (.nila H fun H => (.then (.Z0 12 rfl H fun b3 σ H => (.move (v := (vl (cI .i64) ticks)) rfl rfl ?_)))))
 refine .Z0T (c := (cI .i64)) (xs := ticks) rfl rfl rfl (.Z2 (off := 0) (fo := 0) H 0 rfl rfl rfl rfl rfl nofun rfl (.ZR (off := 0) (v := (vi n.Vars)) H 0 rfl rfl rfl rfl rfl nofun rfl (.int (m := (ticks.length : Int)) (m' := n.Vars) (r := .bool ((ticks.length : Int) == n.Vars)) rfl rfl rfl rfl rfl (.move (v := (vb ((ticks.length : Int) == n.Vars))) rfl rfl ?_))))
 obtain ⟨y1, hj1, h⟩ := bind_some h
 refine .mid 5 (K1 := fun e σ => Z5 e [(16, (vb y1))] ∧ Has σ (b3 + 11) (b3 + 12) []) rfl ?_ ?_
 ·refine .split rfl rfl ?_ ?_ <;> intro hc1
  ·replace h := Z9 hc1 hj1
   refine .wanted rfl rfl (.move (v := (vl (cI .i64) ticks)) rfl rfl (.wanted rfl rfl (.move (v := (.v (.fn 42))) rfl rfl (.wanted rfl rfl ?_))))
   obtain ⟨x1, q1, h⟩ := bind_some h
   refine .Z6h (ys := [(vl (cI .i64) ticks), (.v (.fn 42))]) (r := (vb x1)) H rfl (Z39 (C := []) rfl (fun _ => rfl) (fun z0 y hz => (CloH.fn (Fn.toH (tag_own_1_fn (Option.some.inj hz)) _))) q1) .nil nofun rfl fun σ H => (.wanted rfl rfl (.not (b := x1) rfl rfl (.Zg (v := (vb (!x1))) rfl rfl rfl (.nil ?_))))
   replace h := sj h; subst h
   exact ⟨⟨rfl, trivial⟩, (H.erase 0).weak (by omega) (Nat.le_refl _)⟩
  ·replace h := Z6 hc1 hj1
   refine .pass rfl rfl rfl (.pass rfl rfl rfl (.pass rfl rfl rfl (.pass rfl rfl rfl (.Zn (v := (vb false)) rfl rfl rfl (.nil ?_)))))
   replace h := sj h; subst h
   exact ⟨⟨rfl, trivial⟩, (H.erase 0).weak (by omega) (Nat.le_refl _)⟩
 ·rintro e σ ⟨he, H⟩
  obtain ⟨e, rfl⟩ := he.ex
  refine .assign (v := (vb y1)) rfl rfl (.nila H fun H => (.ret ?_))
  replace h := sj h; subst h
  exact (Ends.H (xs := [(vb y1)]) (.inr rfl) H (.tmp (v := (vb y1)) rfl .nil) (.one (.c (.v _))))

theorem Z5s {n : Net} {ticks : (List Int)} {σ : Heap} {lo hi : Nat} {L : List Res} (H : Has σ lo hi L) : ∃ r σ', Z0P CX (.fn 25) [(.agg (vs (Net.cs n))), (vl (cI .i64) ticks)] σ = some (r, σ') ∧ ∃ i0' i1' : Nat, r = (.clo 44 [] [(.ptr i1' 3 0), (.ptr i0' 1 0)]) ∧ Hs σ' (.blk i0' 37 [(vl (cI .i64) ticks)] :: .blk i1' 36 [(vi n.Vars), (vl Form.cs n.Forms), (vl Con.cs n.Cons)] :: L) := by
 refine callO_of (Post := fun r σ' => ∃ i0' i1' : Nat, r = (.clo 44 [] [(.ptr i1' 3 0), (.ptr i0' 1 0)]) ∧ Hs σ' (.blk i0' 37 [(vl (cI .i64) ticks)] :: .blk i1' 36 [(vi n.Vars), (vl Form.cs n.Forms), (vl Con.cs n.Cons)] :: L)) Try.func25 rfl rfl rfl rfl rfl rfl ?_
 replace H := H.all
 refine .then (.Z0 3 rfl H fun b1 σ H => (.boxH (cs := [(vi n.Vars), (vl Form.cs n.Forms), (vl Con.cs n.Cons)]) H (by omega) (by omega) rfl rfl rfl fun σ H => (.boxH (cs := [(vl (cI .i64) ticks)]) H (by omega) (by omega) rfl rfl rfl fun σ H => (.assign (v := (.v .nilf)) rfl rfl (.nila H fun H => ?_)))))
 refine .then (.Z0 2 rfl H fun b2 σ H => (.makeClo (fs := []) (cs := [(.ptr (b1 + 0) 3 0), (.ptr (b1 + 1) 1 0)]) rfl rfl rfl rfl (.assign (v := (.clo 44 [] [(.ptr (b1 + 0) 3 0), (.ptr (b1 + 1) 1 0)])) rfl rfl (.nila H fun H => (.ret ?_)))))
 exact ⟨.inr rfl, [(.clo 44 [] [(.ptr (b1 + 0) 3 0), (.ptr (b1 + 1) 1 0)])], Z2Z H (.tmp (v := (.clo 44 [] [(.ptr (b1 + 0) 3 0), (.ptr (b1 + 1) 1 0)])) rfl .nil), (b1 + 1), (b1 + 0), rfl, H.all⟩

theorem Z9Q {n : Net} {c : Con} {ticks : (List Int)} {r : Bool} (h : Z3u n c ticks = some r) : Fn CX 26 [(.agg (vs (Net.cs n))), (.agg (vs (Con.cs c))), (vl (cI .i64) ticks)] (vb r) := by
 refine Fn.ends Try.func26 rfl rfl rfl rfl rfl rfl ?_
 have H : Hs (⟨0, fun _ => .none⟩ : Heap) [] := Has.nil (Nat.le_refl _)
 generalize (⟨0, fun _ => .none⟩ : Heap) = σ at H ⊢
 unfold Z3u at h
 refine .then (.Z0 3 rfl H fun b1 σ H => (.boxH (cs := [(vi n.Vars), (vl Form.cs n.Forms), (vl Con.cs n.Cons)]) H (by omega) (by omega) rfl rfl rfl fun σ H => (.boxH (cs := [(vi c.X), (vi c.Y), (vi c.Form), (vi c.Range.Low), (vi c.Range.High), (vb c.Range.HasLow), (vb c.Range.HasHigh)]) H (by omega) (by omega) rfl rfl rfl fun σ H => (.assign (v := (vb false)) rfl rfl (.nila H fun H => ?_)))))
 refine .then (.Z3n 22 rfl (by kernel_rfl) H fun b2 σ H B2 => (.Z2 (off := 0) (fo := 1) H 1 rfl rfl rfl rfl rfl (fun _ => .inl ⟨B2 1 _ rfl _ rfl, nofun, (fun _ => by kernel_rfl)⟩) rfl (.ZR (off := 1) (v := (vl Form.cs n.Forms)) H 1 rfl rfl rfl rfl rfl (fun _ => .inl ⟨B2 1 _ rfl _ rfl, nofun, (fun _ => by kernel_rfl)⟩) rfl (.Z2 (off := 0) (fo := 2) H 0 rfl rfl rfl rfl rfl (fun _ => .inl ⟨B2 0 _ rfl _ rfl, nofun, (fun _ => by kernel_rfl)⟩) rfl (.ZR (off := 2) (v := (vi c.Form)) H 0 rfl rfl rfl rfl rfl (fun _ => .inl ⟨B2 0 _ rfl _ rfl, nofun, (fun _ => by kernel_rfl)⟩) rfl ?_)))))
 obtain ⟨x1, q1, h⟩ := bind_some h
 refine .Z0H (c := Form.cs) (u := x1) rfl rfl q1 rfl rfl rfl rfl (.Z2g (cs := [(.int .i64 x1.Period), (.int .i64 x1.Count), (.sl (x1.Core.map (cL Span.cs))), (.sl (x1.Odd.map Granule.cs))]) rfl rfl rfl rfl rfl rfl (.move (v := (vl (cI .i64) ticks)) rfl rfl (.Z2 (off := 0) (fo := 0) H 0 rfl rfl rfl rfl rfl (fun _ => .inl ⟨B2 0 _ rfl _ rfl, nofun, (fun _ => by kernel_rfl)⟩) rfl (.ZR (off := 0) (v := (vi c.X)) H 0 rfl rfl rfl rfl rfl (fun _ => .inl ⟨B2 0 _ rfl _ rfl, nofun, (fun _ => by kernel_rfl)⟩) rfl ?_))))
 obtain ⟨x2, q2, h⟩ := bind_some h
 refine .Z0H (c := (cI .i64)) (u := x2) rfl rfl q2 rfl rfl rfl rfl (.Z2M (u := (.int .i64 x2)) rfl rfl rfl rfl (.move (v := (vl (cI .i64) ticks)) rfl rfl (.Z2 (off := 0) (fo := 1) H 0 rfl rfl rfl rfl rfl (fun _ => .inl ⟨B2 0 _ rfl _ rfl, nofun, (fun _ => by kernel_rfl)⟩) rfl (.ZR (off := 1) (v := (vi c.Y)) H 0 rfl rfl rfl rfl rfl (fun _ => .inl ⟨B2 0 _ rfl _ rfl, nofun, (fun _ => by kernel_rfl)⟩) rfl ?_))))
 obtain ⟨x3, q3, h⟩ := bind_some h
 refine .Z0H (c := (cI .i64)) (u := x3) rfl rfl q3 rfl rfl rfl rfl (.Z2M (u := (.int .i64 x3)) rfl rfl rfl rfl ?_)
 obtain ⟨x4, q4, h⟩ := bind_some h
 refine .call (ys := [(.agg (vF x1)), (vi x2), (vi x3)]) (r := (.tup [(vi x4.1), (vb x4.2)])) rfl (Z2d q4) rfl (.move (v := (.tup [(vi x4.1), (vb x4.2)])) rfl rfl (.extract (v := (vi x4.1)) rfl rfl rfl (.extract (v := (vb x4.2)) rfl rfl rfl (.assign (v := (vi x4.1)) rfl rfl (.assign (v := (vb x4.2)) rfl rfl ?_)))))
 refine .nila H fun H => (.then ?_)
 obtain ⟨y1, hj1, h⟩ := bind_some h
 refine .mono (Q := fun x e σ => (∃ a1, y1 = (.go a1) ∧ x = .normal ∧ Z5 e [] ∧ Hs σ []) ∨ (∃ r', y1 = (.ret r') ∧ x = .ret ∧ Ends CX Try.f26.results.toList (vb r') x e σ)) ?_ ?_
 ·replace h := hj1
  refine .then (.Z0 4 rfl H fun b3 σ H => (.Z2 (off := 0) (fo := 3) H 0 rfl rfl rfl rfl rfl nofun rfl (.ZP (off := 3) (cs := [(vi c.Range.Low), (vi c.Range.High), (vb c.Range.HasLow), (vb c.Range.HasHigh)]) H 0 rfl rfl rfl rfl rfl rfl rfl nofun rfl (.Z0p (cs := [(vi 0), (vi 0), (vb false), (vb false)]) H (by omega) (by omega) rfl rfl fun σ H => (.Z0e (off := 0) (cells' := [(vi c.Range.Low), (vi c.Range.High), (vb c.Range.HasLow), (vb c.Range.HasHigh)]) H 0 rfl rfl rfl rfl rfl rfl rfl rfl rfl nofun fun σ H => ?_)))))
  refine .nila H fun H => (.inBlock ?_)
  obtain ⟨y2, hj2, h⟩ := bind_some h
  refine .mono (Q := fun x e σ => (∃ a2, y2 = (.go a2) ∧ x = .normal ∧ Z5 e [] ∧ Hs σ []) ∨ (∃ r', y2 = (.ret r') ∧ x = .ret ∧ Ends CX Try.f26.results.toList (vb r') x e σ)) ?_ ?_
  ·replace h := hj2
   refine .then ?_
   obtain ⟨y3, hj3, h⟩ := bind_some h
   refine .mono (Q := fun x e σ => x = .normal ∧ Z5 e [(32, (vb y3))] ∧ Hs σ []) ?_ ?_
   ·replace h := hj3
    refine .then (.Z0 3 rfl H fun b4 σ H => (.move (v := (vb x4.2)) rfl rfl (.not (b := x4.2) rfl rfl (.assign (v := (vb (!x4.2))) rfl rfl (.nila H fun H => ?_)))))
    refine .whether (v := (!x4.2)) rfl ?_ ?_ <;> intro hc1
    ·replace h := Z9 hc1 h
     refine .skip ?_
     replace h := sj h; subst h
     exact ⟨rfl, ⟨rfl, trivial⟩, (((H.erase 2).erase 1).erase 0)⟩
    ·replace h := Z6 hc1 h
     refine .then (.Z0 9 rfl H fun b5 σ H => (.Z2 (off := 0) (fo := 2) H 0 rfl rfl rfl rfl rfl nofun rfl (.ZR (off := 2) (v := (vb c.Range.HasLow)) H 0 rfl rfl rfl rfl rfl nofun rfl (.move (v := (vb c.Range.HasLow)) rfl rfl ?_))))
     refine .mid 5 (K1 := fun e σ => Z5 e [(42, (vb (c.Range.HasLow && (decide (x4.1 < c.Range.Low))))), (7, (vi x4.1)), (9, (.ptr (b3 + 2) 4 0))] ∧ Has σ (b5 + 8) (b5 + 9) [.blk (b3 + 2) 45 [(vi c.Range.Low), (vi c.Range.High), (vb c.Range.HasLow), (vb c.Range.HasHigh)]]) rfl ?_ ?_
     ·refine .split rfl rfl ?_ ?_ <;> intro hc2
      ·skip
       refine .wanted rfl rfl (.move (v := (vi x4.1)) rfl rfl (.wanted rfl rfl (.Z2 (off := 0) (fo := 0) H 0 rfl rfl rfl rfl rfl nofun rfl (.wanted rfl rfl (.ZR (off := 0) (v := (vi c.Range.Low)) H 0 rfl rfl rfl rfl rfl nofun rfl ?_)))))
       refine .wanted rfl rfl (.int (m := x4.1) (m' := c.Range.Low) (r := .bool (decide (x4.1 < c.Range.Low))) rfl rfl rfl rfl rfl (.Zg (v := (vb (decide (x4.1 < c.Range.Low)))) rfl rfl rfl (.nil ?_)))
       exact ⟨⟨Z1f hc2, rfl, rfl, trivial⟩, ((H.erase 2).erase 1).weak (by omega) (Nat.le_refl _)⟩
      ·skip
       refine .pass rfl rfl rfl (.pass rfl rfl rfl (.pass rfl rfl rfl (.pass rfl rfl rfl (.Zn (v := (vb false)) rfl rfl rfl (.nil ?_)))))
       exact ⟨⟨Z1e hc2, rfl, rfl, trivial⟩, ((H.erase 2).erase 1).weak (by omega) (Nat.le_refl _)⟩
     ·rintro e σ ⟨he, H⟩
      obtain ⟨e, rfl⟩ := he.ex
      refine .assign (v := (vb (c.Range.HasLow && (decide (x4.1 < c.Range.Low))))) rfl rfl (.nila H fun H => ?_)
      refine .whether (v := (c.Range.HasLow && (decide (x4.1 < c.Range.Low)))) rfl ?_ ?_ <;> intro hc3
      ·replace h := Z9 hc3 h
       refine .skip ?_
       replace h := sj h; subst h
       exact ⟨rfl, ⟨rfl, trivial⟩, (H.erase 0)⟩
      ·replace h := Z6 hc3 h
       refine .Z0 9 rfl H fun b6 σ H => (.Z2 (off := 0) (fo := 3) H 0 rfl rfl rfl rfl rfl nofun rfl (.ZR (off := 3) (v := (vb c.Range.HasHigh)) H 0 rfl rfl rfl rfl rfl nofun rfl (.move (v := (vb c.Range.HasHigh)) rfl rfl ?_)))
       refine .mid 5 (K1 := fun e σ => Z5 e [(50, (vb (c.Range.HasHigh && (decide (x4.1 > c.Range.High)))))] ∧ Has σ (b6 + 8) (b6 + 9) []) rfl ?_ ?_
       ·refine .split rfl rfl ?_ ?_ <;> intro hc4
        ·skip
         refine .wanted rfl rfl (.move (v := (vi x4.1)) rfl rfl (.wanted rfl rfl (.Z2 (off := 0) (fo := 1) H 0 rfl rfl rfl rfl rfl nofun rfl (.wanted rfl rfl (.ZR (off := 1) (v := (vi c.Range.High)) H 0 rfl rfl rfl rfl rfl nofun rfl ?_)))))
         refine .wanted rfl rfl (.int (m := x4.1) (m' := c.Range.High) (r := .bool (decide (x4.1 > c.Range.High))) rfl rfl rfl rfl rfl (.Zg (v := (vb (decide (x4.1 > c.Range.High)))) rfl rfl rfl (.nil ?_)))
         exact ⟨⟨Z1f hc4, trivial⟩, (H.erase 0).weak (by omega) (Nat.le_refl _)⟩
        ·skip
         refine .pass rfl rfl rfl (.pass rfl rfl rfl (.pass rfl rfl rfl (.pass rfl rfl rfl (.Zn (v := (vb false)) rfl rfl rfl (.nil ?_)))))
         exact ⟨⟨Z1e hc4, trivial⟩, (H.erase 0).weak (by omega) (Nat.le_refl _)⟩
       ·rintro e σ ⟨he, H⟩
        obtain ⟨e, rfl⟩ := he.ex
        refine .assign (v := (vb (c.Range.HasHigh && (decide (x4.1 > c.Range.High))))) rfl rfl (.nila H fun H => ?_)
        replace h := sj h; subst h
        exact ⟨rfl, ⟨rfl, trivial⟩, H⟩
   ·rintro x e σ ⟨rfl, he, H⟩
    obtain ⟨e, rfl⟩ := he.ex
    refine .whether (v := y3) rfl ?_ ?_ <;> intro hc5
    ·replace h := Z9 hc5 h
     refine .then (.Z0 1 rfl H fun b7 σ H => (.assign (v := (vb false)) rfl rfl (.nila H fun H => (.ret ?_))))
     replace h := sj h; subst h
     exact (.inr ⟨_, rfl, rfl, (Ends.H (xs := [(vb false)]) (.inr rfl) H (.tmp (v := (vb false)) rfl .nil) (.one (.c (.v _))))⟩)
    ·replace h := Z6 hc5 h
     refine .skip ?_
     replace h := sj h; subst h
     exact (.inl ⟨_, rfl, rfl, trivial, H⟩)
  ·rintro x e σ (⟨a3, rfl, rfl, he, H⟩ | ⟨r', rfl, rfl, hE⟩)
   ·skip
    replace h := jgo h
    obtain ⟨e, rfl⟩ := he.ex
    replace h := sj h; subst h
    exact (.inl ⟨_, rfl, rfl, trivial, H⟩)
   ·skip
    replace h := jret h
    replace h := sj h; subst h
    exact (.inr ⟨_, rfl, rfl, hE⟩)
 ·rintro x e σ (⟨a4, rfl, rfl, he, H⟩ | ⟨r', rfl, rfl, hE⟩)
  ·skip
   replace h := jgo h
   obtain ⟨e, rfl⟩ := he.ex
   refine .then (.Z0 1 rfl H fun b8 σ H => (.assign (v := (vb true)) rfl rfl (.nila H fun H => (.ret ?_))))
   replace h := sj h; subst h
   exact (Ends.H (xs := [(vb true)]) (.inr rfl) H (.tmp (v := (vb true)) rfl .nil) (.one (.c (.v _))))
  ·skip
   replace h := jret h
   replace h := sj h; subst h
   exact hE

theorem Z51 {p1' : Net} {p2' : (List Int)} {S : Type} {C : S → List Res → Prop} {yield : S → Int → Option (S × Bool)} {yid : Nat} {id0' : Nat} {id1' : Nat} (hy : YldH CX yid C (fun z => [(vi z)]) yield) (hcap : ∀ s L, C s L → Sub [.blk id0' 36 [(vi p1'.Vars), (vl Form.cs p1'.Forms), (vl Con.cs p1'.Cons)], .blk id1' 37 [(vl (cI .i64) p2')]] L) {st' r : S} (h : Z0X p1' p2' yield st' = some r) : ItF CX 44 [(.yld yid), (.ptr id0' 3 0), (.ptr id1' 1 0)] C st' r := by
 refine ItF.of Try.func44 rfl rfl rfl rfl rfl rfl rfl rfl ?_
 intro σ L hC H
 have hc0 := hcap _ _ hC
 obtain ⟨k0', hk0', hc0⟩ := hc0.inv
 obtain ⟨k1', hk1', hc0⟩ := hc0.inv
 unfold Z0X at h
 refine .then (.Z0 4 rfl H fun b1 σ H => (.Z2 (off := 0) (fo := 2) H k0' hk0' rfl rfl rfl rfl nofun rfl (.ZR (off := 2) (v := (vl Con.cs p1'.Cons)) H k0' hk0' rfl rfl rfl rfl nofun rfl (.Z0T (c := Con.cs) (xs := p1'.Cons) rfl rfl rfl (.move (v := (vi 0)) rfl rfl ?_)))))
 refine .nila H fun H => (.inBlock ?_)
 obtain ⟨y1, hj1, h⟩ := bind_some h
 obtain ⟨n1, hj1⟩ := Ze.1 hj1
 refine .mono (Runs.ZK hj1 (fun s1 e σ => ∃ (L : List Res), C s1.2 L ∧ Z5 e [(0, (.yld yid)), (1, (.ptr id0' 3 0)), (2, (.ptr id1' 1 0)), (7, (vl Con.cs p1'.Cons)), (8, (vi (p1'.Cons.length : Int))), (9, (vi s1.1))] ∧ Hs σ (L)) (fun y1 x e σ => (∃ a1, ∃ (L : List Res), C a1 L ∧ y1 = (.go a1) ∧ x = .exit 0 ∧ Z5 e [] ∧ Hs σ (L)) ∨ (∃ r', y1 = (.ret r') ∧ x = .ret ∧ EndsI C r' x e σ)) ⟨_, hC, ⟨rfl, rfl, rfl, rfl, rfl, rfl, trivial⟩, H⟩ ?_) ?_
 ·intro s1 e σ hI z h
  obtain ⟨L, hC, he, H⟩ := hI
  obtain ⟨e, rfl⟩ := he.ex
  have hc0 := hcap _ _ hC
  obtain ⟨k0', hk0', hc0⟩ := hc0.inv
  obtain ⟨k1', hk1', hc0⟩ := hc0.inv
  unfold Z0X.s0 at h
  refine .then (.Z0 1 rfl H fun b2 σ H => (.int (m := s1.1) (m' := (p1'.Cons.length : Int)) (r := .bool (decide (s1.1 < (p1'.Cons.length : Int)))) rfl rfl rfl rfl rfl (.nila H fun H => (.then ?_))))
  refine .whether (v := (decide (s1.1 < (p1'.Cons.length : Int)))) rfl ?_ ?_ <;> intro hc1
  ·replace h := Z9 hc1 h
   refine .skip (.then (.inBlock (.then (.Z0 6 rfl H fun b3 σ H => (.move (v := (vi s1.1)) rfl rfl ?_)))))
   obtain ⟨x1, q1, h⟩ := bind_some h
   refine .Z0H (c := Con.cs) (u := x1) rfl rfl q1 rfl rfl rfl rfl (.Z2g (cs := [(.int .i64 x1.X), (.int .i64 x1.Y), (.int .i64 x1.Form), (.int .i64 x1.Range.Low), (.int .i64 x1.Range.High), (.bool x1.Range.HasLow), (.bool x1.Range.HasHigh)]) rfl rfl rfl rfl rfl rfl (.Z0p (cs := [(vi 0), (vi 0), (vi 0), (vi 0), (vi 0), (vb false), (vb false)]) H (by omega) (by omega) rfl rfl fun σ H => (.assign (v := (vi s1.1)) rfl rfl (.Z0e (off := 0) (cells' := [(vi x1.X), (vi x1.Y), (vi x1.Form), (vi x1.Range.Low), (vi x1.Range.High), (vb x1.Range.HasLow), (vb x1.Range.HasHigh)]) H 0 rfl rfl rfl rfl rfl rfl rfl rfl rfl nofun fun σ H => (.nila H fun H => ?_)))))
   refine .then (.Z0 11 rfl H fun b4 σ H => (.ZP (off := 0) (cs := [(vi p1'.Vars), (vl Form.cs p1'.Forms), (vl Con.cs p1'.Cons)]) H (k0' + 1) hk0' rfl rfl rfl rfl rfl rfl nofun rfl (.ZP (off := 0) (cs := [(vi x1.X), (vi x1.Y), (vi x1.Form), (vi x1.Range.Low), (vi x1.Range.High), (vb x1.Range.HasLow), (vb x1.Range.HasHigh)]) H 0 rfl rfl rfl rfl rfl rfl rfl nofun rfl (.ZR (off := 0) (v := (vl (cI .i64) p2')) H (k1' + 1) hk1' rfl rfl rfl rfl nofun rfl ?_))))
   obtain ⟨x2, q2, h⟩ := bind_some h
   refine .call (ys := [(.agg [(vi p1'.Vars), (vl Form.cs p1'.Forms), (vl Con.cs p1'.Cons)]), (.agg [(vi x1.X), (vi x1.Y), (vi x1.Form), (vi x1.Range.Low), (vi x1.Range.High), (vb x1.Range.HasLow), (vb x1.Range.HasHigh)]), (vl (cI .i64) p2')]) (r := (vb x2)) rfl (Z9Q q2) rfl (.not (b := x2) rfl rfl (.move (v := (vb (!x2))) rfl rfl ?_))
   obtain ⟨y2, hj2, h⟩ := bind_some h
   refine .mid 5 (K1 := fun e σ => ∃ L, C y2.2 L ∧ Z5 e [(24, (vb y2.1)), (0, (.yld yid)), (1, (.ptr id0' 3 0)), (2, (.ptr id1' 1 0)), (7, (vl Con.cs p1'.Cons)), (8, (vi (p1'.Cons.length : Int))), (9, (vi s1.1))] ∧ Hs σ (L)) rfl ?_ ?_
   ·refine .split rfl rfl ?_ ?_ <;> intro hc2
    ·replace h := Z9 hc2 hj2
     refine .wanted rfl rfl (.move (v := (.yld yid)) rfl rfl (.wanted rfl rfl (.move (v := (vi s1.1)) rfl rfl (.wanted rfl rfl ?_))))
     obtain ⟨x3, q3, h⟩ := bind_some h
     refine .callY (z := s1.1) (s' := x3.1) (b := x3.2) [.blk (b3 + 3) 48 [(vi x1.X), (vi x1.Y), (vi x1.Form), (vi x1.Range.Low), (vi x1.Range.High), (vb x1.Range.HasLow), (vb x1.Range.HasHigh)]] H hC rfl rfl hy q3 rfl rfl fun σ L hC H => ?_
     have hc0 := hcap _ _ hC
     obtain ⟨k0', hk0', hc0⟩ := hc0.inv
     obtain ⟨k1', hk1', hc0⟩ := hc0.inv
     refine .wanted rfl rfl (.not (b := x3.2) rfl rfl (.Zg (v := (vb (!x3.2))) rfl rfl rfl (.nil ?_)))
     replace h := sj h; subst h
     exact ⟨_, hC, ⟨rfl, rfl, rfl, rfl, rfl, rfl, rfl, trivial⟩, (H.erase 0).all⟩
    ·replace h := Z6 hc2 hj2
     refine .pass rfl rfl rfl (.pass rfl rfl rfl (.pass rfl rfl rfl (.pass rfl rfl rfl (.Zn (v := (vb false)) rfl rfl rfl (.nil ?_)))))
     replace h := sj h; subst h
     exact ⟨_, hC, ⟨rfl, rfl, rfl, rfl, rfl, rfl, rfl, trivial⟩, (H.erase 0).all⟩
   ·rintro e σ ⟨L, hC, he, H⟩
    obtain ⟨e, rfl⟩ := he.ex
    have hc0 := hcap _ _ hC
    obtain ⟨k0', hk0', hc0⟩ := hc0.inv
    obtain ⟨k1', hk1', hc0⟩ := hc0.inv
    refine .nila H fun H => ?_
    refine .whether (v := y2.1) rfl ?_ ?_ <;> intro hc3
    ·replace h := Z9 hc3 h
     refine .ret ?_
     replace h := sj h; subst h
     exact ⟨nofun, (.inr ⟨_, rfl, rfl, (EndsI.H (.inr rfl) H 0 rfl hC)⟩)⟩
    ·replace h := Z6 hc3 h
     refine .skip (.Z0 2 rfl H fun b5 σ H => (.int (m := s1.1) (m' := 1) (r := .int .i64 (w64 (s1.1 + 1))) rfl rfl rfl rfl rfl (.move (v := (vi (w64 (s1.1 + 1)))) rfl rfl (.nila H fun H => ?_))))
     replace h := sj h; subst h
     exact ⟨rfl, _, hC, ⟨rfl, rfl, rfl, rfl, rfl, rfl, trivial⟩, H⟩
  ·replace h := Z6 hc1 h
   refine .exit ?_
   replace h := sj h; subst h
   exact ⟨nofun, (.inl ⟨_, _, hC, rfl, rfl, trivial, H⟩)⟩
 ·rintro x e σ (⟨a2, L, hC, rfl, rfl, he, H⟩ | ⟨r', rfl, rfl, hE⟩)
  ·skip
   replace h := jgo h
   obtain ⟨e, rfl⟩ := he.ex
   have hc0 := hcap _ _ hC
   obtain ⟨k0', hk0', hc0⟩ := hc0.inv
   obtain ⟨k1', hk1', hc0⟩ := hc0.inv
   replace h := sj h; subst h
   exact (EndsI.H (.inl rfl) H 0 rfl hC)
  ·skip
   replace h := jret h
   replace h := sj h; subst h
   exact hE

theorem Z7b {n : Net} {ticks : (List Int)} {r : (List Int) × Int} (h : Z0M n ticks = some r) : Fn CX 11 [(.agg (vs (Net.cs n))), (vl (cI .i64) ticks)] (.tup [(vl (cI .i64) r.1), (vi r.2)]) := by
 refine Fn.ends Try.func11 rfl rfl rfl rfl rfl rfl ?_
 have H : Hs (⟨0, fun _ => .none⟩ : Heap) [] := Has.nil (Nat.le_refl _)
 generalize (⟨0, fun _ => .none⟩ : Heap) = σ at H ⊢
 unfold Z0M at h
 refine .then (.Z0 3 rfl H fun b1 σ H => (.boxH (cs := [(vi n.Vars), (vl Form.cs n.Forms), (vl Con.cs n.Cons)]) H (by omega) (by omega) rfl rfl rfl fun σ H => (.assign (v := .nils) rfl rfl (.assign (v := (vi 0)) rfl rfl (.nila H fun H => ?_)))))
 refine .then (.then (.Z0 4 rfl H fun b2 σ H => (.ZP (off := 0) (cs := [(vi n.Vars), (vl Form.cs n.Forms), (vl Con.cs n.Cons)]) H 0 rfl rfl rfl rfl rfl rfl rfl nofun rfl (.move (v := (vl (cI .i64) ticks)) rfl rfl ?_))))
 obtain ⟨x1, q1, h⟩ := bind_some h
 refine .call (ys := [(.agg [(vi n.Vars), (vl Form.cs n.Forms), (vl Con.cs n.Cons)]), (vl (cI .i64) ticks)]) (r := (vb x1)) rfl (Z6r q1) rfl (.not (b := x1) rfl rfl (.nila H fun H => ?_))
 refine .whether (v := (!x1)) rfl ?_ ?_ <;> intro hc1
 ·replace h := Z9 hc1 h
  refine .then (.Z0 2 rfl H fun b3 σ H => (.assign (v := .nils) rfl rfl (.assign (v := (vi 230)) rfl rfl (.nila H fun H => (.ret ?_)))))
  replace h := sj h; subst h
  exact (Ends.H (xs := [.nils, (vi 230)]) (.inr rfl) H (.tmp (v := .nils) rfl (.tmp (v := (vi 230)) rfl .nil)) (.two (.cons (.c .n) (.cons (.c (.v _)) .nil))))
 ·replace h := Z6 hc1 h
  refine .skip (.then (.Z0 1 rfl H fun b4 σ H => (.Z0p (cs := [.nils]) H (by omega) (by omega) rfl rfl fun σ H => (.nila H fun H => (.then ?_)))))
  refine .then (.Z0 3 rfl H fun b5 σ H => (.ZP (off := 0) (cs := [(vi n.Vars), (vl Form.cs n.Forms), (vl Con.cs n.Cons)]) H 1 rfl rfl rfl rfl rfl rfl rfl nofun rfl (.move (v := (vl (cI .i64) ticks)) rfl rfl ?_)))
  refine .callO (ys := [(.agg (vs (Net.cs n))), (vl (cI .i64) ticks)]) rfl (Z5s H) nofun rfl ?_; rintro _ σ ⟨id1, id2, rfl, H⟩
  refine .nila H fun H => (.inBlock ?_)
  replace H := H.pushNil 3 1 true
  replace H := (H.erase 4)
  obtain ⟨y1, hj1, h⟩ := bind_some h
  refine .rangeH H rfl (fun s2 M => ∃ (w3 : PV), M = [.sl w3 3 1 (s2.map (cI .i64)) true, .blk id1 37 [(vl (cI .i64) ticks)], .blk id2 36 [(vi n.Vars), (vl Form.cs n.Forms), (vl Con.cs n.Cons)], .blk (b4 + 0) 37 [w3]]) (fun z2 => [(vi z2)]) Z0M.b0 (fun p => none) rfl (fun p => ⟨_, rfl⟩) (r := y1) ⟨.nils, rfl⟩ (fun _ => rfl) (fun _ => rfl) ?_ (fun id hy => Z51 hy (fun s L hL => by obtain ⟨M, hM, rfl⟩ := hL; obtain ⟨_, rfl⟩ := hM; exact (.cons 3 rfl (.cons 2 rfl .nil))) hj1) ?_
  ·intro R0 R1 s2 z2 s' p h σ M O hM H
   obtain ⟨w3, rfl⟩ := hM
   unfold Z0M.b0 at h
   refine .env [(15, (vi z2)), (4, .nils), (5, (vi 0)), (6, (.ptr (b4 + 0) 1 0)), (14, (.clo 44 [] [(.ptr id2 3 0), (.ptr id1 1 0)]))] ⟨rfl, rfl, rfl, rfl, rfl, trivial⟩ fun e => (.Z0 1 rfl H fun b6 σ H => (.assign (v := (vi z2)) rfl rfl (.nila H fun H => ?_)))
   refine ⟨rfl, [.sl w3 3 1 (s2.map (cI .i64)) true, .blk id1 37 [(vl (cI .i64) ticks)], .blk id2 36 [(vi n.Vars), (vl Form.cs n.Forms), (vl Con.cs n.Cons)], .blk (b4 + 0) 37 [w3]], H, ?_⟩; intro σ H
   refine .inBlock (.Z0 5 rfl H fun b7 σ H => (.ZR (off := 0) (v := w3) H 4 rfl rfl rfl rfl rfl nofun rfl (.move (v := (vi z2)) rfl rfl (.Z3K (sz := 1) ([z2].map (cI .i64)) H (by omega) (by omega) rfl rfl rfl rfl rfl rfl rfl rfl rfl fun σ H => ?_))))
   obtain ⟨x2, q2, h⟩ := bind_some h
   refine .appendSt (c := (cI .i64)) (v := w3) (w := (.buf (b7 + 2) 1 1)) (xs := s2) (ys := [z2]) H (by omega) (by omega) 2 rfl rfl rfl (.s 0 rfl) q2 rfl rfl rfl rfl rfl nofun rfl fun w4 σ H => (.Z0e (off := 0) (v := w4) (ys := [w4]) (cells' := [w4]) H 5 rfl rfl rfl rfl (H.slCells (k := 2) rfl) rfl rfl rfl rfl nofun fun σ H => (.nila H fun H => ?_))
   obtain ⟨rfl, rfl⟩ := Prod.mk.inj (Option.some.inj h)
   exact ⟨⟨rfl, (iff_of_true rfl rfl)⟩, _, ⟨w4, rfl⟩, (H.erase 0)⟩
  ·intro x σ M hx hM H
   obtain ⟨w5, rfl⟩ := hM
   cases hx
   refine .then (.Z0 3 rfl H fun b8 σ H => (.ZR (off := 0) (v := w5) H 3 rfl rfl rfl rfl rfl nofun rfl (.assign (v := w5) rfl rfl (.assign (v := (vi 0)) rfl rfl (.nila H fun H => ?_)))))
   refine .ret ?_
   replace h := sj h; subst h
   exact (Ends.H (xs := [w5, (vi 0)]) (.inr rfl) H (.tmp (v := w5) rfl (.tmp (v := (vi 0)) rfl .nil)) (.two (.cons (.c (.s 0 rfl)) (.cons (.c (.v _)) .nil))))

theorem Z3w {i : Int} {many : Int} {r : Bool} (h : ZV i many = r) : Fn CX 36 [(vi i), (vi many)] (vb r) := by
 refine Fn.ends Try.func36 rfl rfl rfl rfl rfl rfl ?_
 have H : Hs (⟨0, fun _ => .none⟩ : Heap) [] := Has.nil (Nat.le_refl _)
 generalize (⟨0, fun _ => .none⟩ : Heap) = σ at H ⊢
 unfold ZV at h
 refine .then (.Z0 1 rfl H fun b1 σ H => (.assign (v := (vb false)) rfl rfl (.nila H fun H => (.then (.Z0 8 rfl H fun b2 σ H => ?_)))))
 refine .move (v := (vi i)) rfl rfl (.int (m := i) (m' := 0) (r := .bool (decide (i ≥ 0))) rfl rfl rfl rfl rfl (.move (v := (vb (decide (i ≥ 0)))) rfl rfl ?_))
 refine .mid 4 (K1 := fun e σ => Z5 e [(11, (vb ((decide (i ≥ 0)) && (decide (i < many)))))] ∧ Has σ (b2 + 7) (b2 + 8) []) rfl ?_ ?_
 ·refine .split rfl rfl ?_ ?_ <;> intro hc1
  ·skip
   refine .wanted rfl rfl (.move (v := (vi i)) rfl rfl (.wanted rfl rfl (.move (v := (vi many)) rfl rfl (.wanted rfl rfl (.int (m := i) (m' := many) (r := .bool (decide (i < many))) rfl rfl rfl rfl rfl ?_)))))
   refine .Zg (v := (vb (decide (i < many)))) rfl rfl rfl (.nil ?_)
   exact ⟨⟨Z1f hc1, trivial⟩, H.weak (by omega) (Nat.le_refl _)⟩
  ·skip
   refine .pass rfl rfl rfl (.pass rfl rfl rfl (.pass rfl rfl rfl (.Zn (v := (vb false)) rfl rfl rfl (.nil ?_))))
   exact ⟨⟨Z1e hc1, trivial⟩, H.weak (by omega) (Nat.le_refl _)⟩
 ·rintro e σ ⟨he, H⟩
  obtain ⟨e, rfl⟩ := he.ex
  refine .assign (v := (vb ((decide (i ≥ 0)) && (decide (i < many))))) rfl rfl (.nila H fun H => (.ret ?_))
  subst h
  exact (Ends.H (xs := [(vb ((decide (i ≥ 0)) && (decide (i < many))))]) (.inr rfl) H (.tmp (v := (vb ((decide (i ≥ 0)) && (decide (i < many))))) rfl .nil) (.one (.c (.v _))))

theorem Z3M {s : (List Form)} {f : Form → Option Bool} {C : List Res} {cv0 : PV} (hs0 : cv0.still = true) (hp0 : cv0.pure = true → C = []) (hf0 : ∀ z0 y, f z0 = some y → CloH CX cv0 [(.agg (vs (Form.cs z0)))] (vb y) C) {r : Int} (h : ZX s f = some r) : FnH CX 50 [(vl Form.cs s), cv0] (vi r) C := by
 refine FnH.of Try.func50 rfl rfl rfl rfl (Z2O rfl (Z2O hs0 all_nil)) rfl (fun h => hp0 (Z2y h 1 rfl)) ?_
 intro σ L hC H
 unfold ZX at h
 refine .then (.Z0 1 rfl H fun b1 σ H => (.assign (v := (vi 0)) rfl rfl (.nila H fun H => (.then (.then ?_)))))
 refine .Z0 3 rfl H fun b2 σ H => (.move (v := (vl Form.cs s)) rfl rfl (.Z0T (c := Form.cs) (xs := s) rfl rfl rfl (.move (v := (vi 0)) rfl rfl (.nila H fun H => (.inBlock ?_)))))
 obtain ⟨y1, hj1, h⟩ := bind_some h
 obtain ⟨n1, hj1⟩ := Ze.1 hj1
 refine .mono (Runs.ZK hj1 (fun s1 e σ => Z5 e [(0, (vl Form.cs s)), (1, cv0), (7, (vi (s.length : Int))), (8, (vi s1))] ∧ Hs σ (L)) (fun y1 x e σ => (∃ a1, y1 = (.go a1) ∧ x = .exit 0 ∧ Z5 e [] ∧ Hs σ (L)) ∨ (∃ r', y1 = (.ret r') ∧ x = .ret ∧ EndsH CX Try.f50.results.toList (vi r') L x e σ)) ⟨⟨rfl, rfl, rfl, rfl, trivial⟩, H⟩ ?_) ?_
 ·intro s1 e σ hI z h
  obtain ⟨he, H⟩ := hI
  obtain ⟨e, rfl⟩ := he.ex
  unfold ZX.s0 at h
  refine .then (.Z0 1 rfl H fun b3 σ H => (.int (m := s1) (m' := (s.length : Int)) (r := .bool (decide (s1 < (s.length : Int)))) rfl rfl rfl rfl rfl (.nila H fun H => (.then ?_))))
  refine .whether (v := (decide (s1 < (s.length : Int)))) rfl ?_ ?_ <;> intro hc1
  ·replace h := Z9 hc1 h
   refine .skip (.then (.inBlock (.then (.Z0 2 rfl H fun b4 σ H => (.move (v := (vi s1)) rfl rfl ?_)))))
   refine .assign (v := (vi s1)) rfl rfl (.nila H fun H => (.then (.Z0 6 rfl H fun b5 σ H => (.move (v := cv0) rfl rfl (.move (v := (vl Form.cs s)) rfl rfl ?_)))))
   refine .move (v := (vi s1)) rfl rfl ?_
   obtain ⟨x1, q1, h⟩ := bind_some h
   refine .Z0H (c := Form.cs) (u := x1) rfl rfl q1 rfl rfl rfl rfl (.Z2g (cs := [(.int .i64 x1.Period), (.int .i64 x1.Count), (.sl (x1.Core.map (cL Span.cs))), (.sl (x1.Odd.map Granule.cs))]) rfl rfl rfl rfl rfl rfl ?_)
   obtain ⟨x2, q2, h⟩ := bind_some h
   refine .callV (cv := cv0) (ys := [(.agg (vs (Form.cs x1)))]) (r := (vb x2)) H rfl rfl (hf0 x1 _ q2) hC nofun rfl fun σ H => (.nila H fun H => ?_)
   refine .whether (v := x2) rfl ?_ ?_ <;> intro hc2
   ·replace h := Z9 hc2 h
    refine .then (.Z0 2 rfl H fun b6 σ H => (.move (v := (vi s1)) rfl rfl (.assign (v := (vi s1)) rfl rfl (.nila H fun H => (.ret ?_)))))
    replace h := sj h; subst h
    exact ⟨nofun, (.inr ⟨_, rfl, rfl, (EndsH.H (xs := [(vi s1)]) (.inr rfl) H (.tmp (v := (vi s1)) rfl .nil) (.one (.c (.v _))) 0 rfl)⟩)⟩
   ·replace h := Z6 hc2 h
    refine .skip (.Z0 2 rfl H fun b7 σ H => (.int (m := s1) (m' := 1) (r := .int .i64 (w64 (s1 + 1))) rfl rfl rfl rfl rfl (.move (v := (vi (w64 (s1 + 1)))) rfl rfl (.nila H fun H => ?_))))
    replace h := sj h; subst h
    exact ⟨rfl, ⟨rfl, rfl, rfl, rfl, trivial⟩, H⟩
  ·replace h := Z6 hc1 h
   refine .exit ?_
   replace h := sj h; subst h
   exact ⟨nofun, (.inl ⟨_, rfl, rfl, trivial, H⟩)⟩
 ·rintro x e σ (⟨a2, rfl, rfl, he, H⟩ | ⟨r', rfl, rfl, hE⟩)
  ·skip
   replace h := jgo h
   obtain ⟨e, rfl⟩ := he.ex
   refine .then (.Z0 1 rfl H fun b8 σ H => (.assign (v := (vi (-1))) rfl rfl (.nila H fun H => (.ret ?_))))
   replace h := sj h; subst h
   exact (EndsH.H (xs := [(vi (-1))]) (.inr rfl) H (.tmp (v := (vi (-1))) rfl .nil) (.one (.c (.v _))) 0 rfl)
  ·skip
   replace h := jret h
   replace h := sj h; subst h
   exact hE

theorem Z2p {s : (List Form)} {f : Form → Option Bool} {C : List Res} {cv0 : PV} (hs0 : cv0.still = true) (hp0 : cv0.pure = true → C = []) (hf0 : ∀ z0 y, f z0 = some y → CloH CX cv0 [(.agg (vs (Form.cs z0)))] (vb y) C) {r : Bool} (h : Z05 s f = some r) : FnH CX 37 [(vl Form.cs s), cv0] (vb r) C := by
 refine FnH.of Try.func37 rfl rfl rfl rfl (Z2O rfl (Z2O hs0 all_nil)) rfl (fun h => hp0 (Z2y h 1 rfl)) ?_
 intro σ L hC H
 unfold Z05 at h
 refine .then (.Z0 1 rfl H fun b1 σ H => (.assign (v := (vb false)) rfl rfl (.nila H fun H => (.then (.Z0 5 rfl H fun b2 σ H => ?_)))))
 refine .move (v := (vl Form.cs s)) rfl rfl (.move (v := cv0) rfl rfl ?_)
 obtain ⟨x1, q1, h⟩ := bind_some h
 refine .Z6h (ys := [(vl Form.cs s), cv0]) (r := (vi x1)) H rfl (Z3M (C := C) hs0 hp0 hf0 q1) hC nofun rfl fun σ H => (.int (m := x1) (m' := 0) (r := .bool (decide (x1 ≥ 0))) rfl rfl rfl rfl rfl (.assign (v := (vb (decide (x1 ≥ 0)))) rfl rfl (.nila H fun H => (.ret ?_))))
 replace h := sj h; subst h
 exact (EndsH.H (xs := [(vb (decide (x1 ≥ 0)))]) (.inr rfl) H (.tmp (v := (vb (decide (x1 ≥ 0)))) rfl .nil) (.one (.c (.v _))) 0 rfl)

theorem Z8u {f : Form} {r : Bool} (h : Z3g f = some r) : Fn CX 35 [(.agg (vs (Form.cs f)))] (vb r) := by
 refine Fn.ends Try.func35 rfl rfl rfl rfl rfl rfl ?_
 have H : Hs (⟨0, fun _ => .none⟩ : Heap) [] := Has.nil (Nat.le_refl _)
 generalize (⟨0, fun _ => .none⟩ : Heap) = σ at H ⊢
 unfold Z3g at h
 refine .then (.Z0 2 rfl H fun b1 σ H => (.boxH (cs := (vF f)) H (by omega) (by omega) rfl rfl rfl fun σ H => (.assign (v := (vb false)) rfl rfl (.nila H fun H => (.then ?_)))))
 refine .Z0 4 rfl H fun b2 σ H => (.ZP (off := 0) (cs := (vF f)) H 0 rfl rfl rfl rfl rfl rfl rfl nofun rfl ?_)
 obtain ⟨x1, q1, h⟩ := bind_some h
 refine .call (ys := [(.agg (vF f))]) (r := (vi x1)) rfl (Z6V q1) rfl (.int (m := x1) (m' := 0) (r := .bool (x1 != 0)) rfl rfl rfl rfl rfl (.assign (v := (vb (x1 != 0))) rfl rfl (.nila H fun H => (.ret ?_))))
 replace h := sj h; subst h
 exact (Ends.H (xs := [(vb (x1 != 0))]) (.inr rfl) H (.tmp (v := (vb (x1 != 0))) rfl .nil) (.one (.c (.v _))))

theorem Z3o {s : (List Con)} {f : Con → Option Bool} {C : List Res} {cv0 : PV} (hs0 : cv0.still = true) (hp0 : cv0.pure = true → C = []) (hf0 : ∀ z0 y, f z0 = some y → CloH CX cv0 [(.agg (vs (Con.cs z0)))] (vb y) C) {r : Int} (h : ZZ s f = some r) : FnH CX 51 [(vl Con.cs s), cv0] (vi r) C := by
 refine FnH.of Try.func51 rfl rfl rfl rfl (Z2O rfl (Z2O hs0 all_nil)) rfl (fun h => hp0 (Z2y h 1 rfl)) ?_
 intro σ L hC H
 unfold ZZ at h
 refine .then (.Z0 1 rfl H fun b1 σ H => (.assign (v := (vi 0)) rfl rfl (.nila H fun H => (.then (.then ?_)))))
 refine .Z0 3 rfl H fun b2 σ H => (.move (v := (vl Con.cs s)) rfl rfl (.Z0T (c := Con.cs) (xs := s) rfl rfl rfl (.move (v := (vi 0)) rfl rfl (.nila H fun H => (.inBlock ?_)))))
 obtain ⟨y1, hj1, h⟩ := bind_some h
 obtain ⟨n1, hj1⟩ := Ze.1 hj1
 refine .mono (Runs.ZK hj1 (fun s1 e σ => Z5 e [(0, (vl Con.cs s)), (1, cv0), (7, (vi (s.length : Int))), (8, (vi s1))] ∧ Hs σ (L)) (fun y1 x e σ => (∃ a1, y1 = (.go a1) ∧ x = .exit 0 ∧ Z5 e [] ∧ Hs σ (L)) ∨ (∃ r', y1 = (.ret r') ∧ x = .ret ∧ EndsH CX Try.f51.results.toList (vi r') L x e σ)) ⟨⟨rfl, rfl, rfl, rfl, trivial⟩, H⟩ ?_) ?_
 ·intro s1 e σ hI z h
  obtain ⟨he, H⟩ := hI
  obtain ⟨e, rfl⟩ := he.ex
  unfold ZZ.s0 at h
  refine .then (.Z0 1 rfl H fun b3 σ H => (.int (m := s1) (m' := (s.length : Int)) (r := .bool (decide (s1 < (s.length : Int)))) rfl rfl rfl rfl rfl (.nila H fun H => (.then ?_))))
  refine .whether (v := (decide (s1 < (s.length : Int)))) rfl ?_ ?_ <;> intro hc1
  ·replace h := Z9 hc1 h
   refine .skip (.then (.inBlock (.then (.Z0 2 rfl H fun b4 σ H => (.move (v := (vi s1)) rfl rfl ?_)))))
   refine .assign (v := (vi s1)) rfl rfl (.nila H fun H => (.then (.Z0 6 rfl H fun b5 σ H => (.move (v := cv0) rfl rfl (.move (v := (vl Con.cs s)) rfl rfl ?_)))))
   refine .move (v := (vi s1)) rfl rfl ?_
   obtain ⟨x1, q1, h⟩ := bind_some h
   refine .Z0H (c := Con.cs) (u := x1) rfl rfl q1 rfl rfl rfl rfl (.Z2g (cs := [(.int .i64 x1.X), (.int .i64 x1.Y), (.int .i64 x1.Form), (.int .i64 x1.Range.Low), (.int .i64 x1.Range.High), (.bool x1.Range.HasLow), (.bool x1.Range.HasHigh)]) rfl rfl rfl rfl rfl rfl ?_)
   obtain ⟨x2, q2, h⟩ := bind_some h
   refine .callV (cv := cv0) (ys := [(.agg (vs (Con.cs x1)))]) (r := (vb x2)) H rfl rfl (hf0 x1 _ q2) hC nofun rfl fun σ H => (.nila H fun H => ?_)
   refine .whether (v := x2) rfl ?_ ?_ <;> intro hc2
   ·replace h := Z9 hc2 h
    refine .then (.Z0 2 rfl H fun b6 σ H => (.move (v := (vi s1)) rfl rfl (.assign (v := (vi s1)) rfl rfl (.nila H fun H => (.ret ?_)))))
    replace h := sj h; subst h
    exact ⟨nofun, (.inr ⟨_, rfl, rfl, (EndsH.H (xs := [(vi s1)]) (.inr rfl) H (.tmp (v := (vi s1)) rfl .nil) (.one (.c (.v _))) 0 rfl)⟩)⟩
   ·replace h := Z6 hc2 h
    refine .skip (.Z0 2 rfl H fun b7 σ H => (.int (m := s1) (m' := 1) (r := .int .i64 (w64 (s1 + 1))) rfl rfl rfl rfl rfl (.move (v := (vi (w64 (s1 + 1)))) rfl rfl (.nila H fun H => ?_))))
    replace h := sj h; subst h
    exact ⟨rfl, ⟨rfl, rfl, rfl, rfl, trivial⟩, H⟩
  ·replace h := Z6 hc1 h
   refine .exit ?_
   replace h := sj h; subst h
   exact ⟨nofun, (.inl ⟨_, rfl, rfl, trivial, H⟩)⟩
 ·rintro x e σ (⟨a2, rfl, rfl, he, H⟩ | ⟨r', rfl, rfl, hE⟩)
  ·skip
   replace h := jgo h
   obtain ⟨e, rfl⟩ := he.ex
   refine .then (.Z0 1 rfl H fun b8 σ H => (.assign (v := (vi (-1))) rfl rfl (.nila H fun H => (.ret ?_))))
   replace h := sj h; subst h
   exact (EndsH.H (xs := [(vi (-1))]) (.inr rfl) H (.tmp (v := (vi (-1))) rfl .nil) (.one (.c (.v _))) 0 rfl)
  ·skip
   replace h := jret h
   replace h := sj h; subst h
   exact hE

theorem Z38 {s : (List Con)} {f : Con → Option Bool} {C : List Res} {cv0 : PV} (hs0 : cv0.still = true) (hp0 : cv0.pure = true → C = []) (hf0 : ∀ z0 y, f z0 = some y → CloH CX cv0 [(.agg (vs (Con.cs z0)))] (vb y) C) {r : Bool} (h : Z0E s f = some r) : FnH CX 38 [(vl Con.cs s), cv0] (vb r) C := by
 refine FnH.of Try.func38 rfl rfl rfl rfl (Z2O rfl (Z2O hs0 all_nil)) rfl (fun h => hp0 (Z2y h 1 rfl)) ?_
 intro σ L hC H
 unfold Z0E at h
 refine .then (.Z0 1 rfl H fun b1 σ H => (.assign (v := (vb false)) rfl rfl (.nila H fun H => (.then (.Z0 5 rfl H fun b2 σ H => ?_)))))
 refine .move (v := (vl Con.cs s)) rfl rfl (.move (v := cv0) rfl rfl ?_)
 obtain ⟨x1, q1, h⟩ := bind_some h
 refine .Z6h (ys := [(vl Con.cs s), cv0]) (r := (vi x1)) H rfl (Z3o (C := C) hs0 hp0 hf0 q1) hC nofun rfl fun σ H => (.int (m := x1) (m' := 0) (r := .bool (decide (x1 ≥ 0))) rfl rfl rfl rfl rfl (.assign (v := (vb (decide (x1 ≥ 0)))) rfl rfl (.nila H fun H => (.ret ?_))))
 replace h := sj h; subst h
 exact (EndsH.H (xs := [(vb (decide (x1 ≥ 0)))]) (.inr rfl) H (.tmp (v := (vb (decide (x1 ≥ 0)))) rfl .nil) (.one (.c (.v _))) 0 rfl)

theorem tag_scoped_fn {r' : Range} {r : Bool} (h : Z1U r' = r) : Fn CX 49 [(.agg (vs (Range.cs r')))] (vb r) := by
 refine Fn.ends Try.func49 rfl rfl rfl rfl rfl rfl ?_
 have H : Hs (⟨0, fun _ => .none⟩ : Heap) [] := Has.nil (Nat.le_refl _)
 generalize (⟨0, fun _ => .none⟩ : Heap) = σ at H ⊢
 unfold Z1U at h
 refine .then (.Z0 2 rfl H fun b1 σ H => (.boxH (cs := [(vi r'.Low), (vi r'.High), (vb r'.HasLow), (vb r'.HasHigh)]) H (by omega) (by omega) rfl rfl rfl fun σ H => (.assign (v := (vb false)) rfl rfl (.nila H fun H => (.then ?_)))))
 refine .Z0 17 rfl H fun b2 σ H => (.Z2 (off := 0) (fo := 2) H 0 rfl rfl rfl rfl rfl nofun rfl (.ZR (off := 2) (v := (vb r'.HasLow)) H 0 rfl rfl rfl rfl rfl nofun rfl (.move (v := (vb r'.HasLow)) rfl rfl ?_)))
 refine .mid 4 (K1 := fun e σ => Z5 e [(9, (vb (r'.HasLow || (r'.Low == 0)))), (1, (.ptr (b1 + 0) 4 0))] ∧ Has σ (b2 + 7) (b2 + 17) [.blk (b1 + 0) 45 [(vi r'.Low), (vi r'.High), (vb r'.HasLow), (vb r'.HasHigh)]]) rfl ?_ ?_
 ·refine .split rfl rfl ?_ ?_ <;> intro hc1
  ·skip
   refine .pass rfl rfl rfl (.pass rfl rfl rfl (.pass rfl rfl rfl (.Zg (v := (vb true)) rfl rfl rfl (.nil ?_))))
   exact ⟨⟨or_T hc1, rfl, trivial⟩, H.weak (by omega) (Nat.le_refl _)⟩
  ·skip
   refine .wanted rfl rfl (.Z2 (off := 0) (fo := 0) H 0 rfl rfl rfl rfl rfl nofun rfl (.wanted rfl rfl (.ZR (off := 0) (v := (vi r'.Low)) H 0 rfl rfl rfl rfl rfl nofun rfl (.wanted rfl rfl (.int (m := r'.Low) (m' := 0) (r := .bool (r'.Low == 0)) rfl rfl rfl rfl rfl ?_)))))
   refine .Zn (v := (vb (r'.Low == 0))) rfl rfl rfl (.nil ?_)
   exact ⟨⟨or_F hc1, rfl, trivial⟩, H.weak (by omega) (Nat.le_refl _)⟩
 ·rintro e σ ⟨he, H⟩
  obtain ⟨e, rfl⟩ := he.ex
  refine .move (v := (vb (r'.HasLow || (r'.Low == 0)))) rfl rfl ?_
  refine .mid 8 (K1 := fun e σ => Z5 e [(18, (vb ((r'.HasLow || (r'.Low == 0)) && (r'.HasHigh || (r'.High == 0)))))] ∧ Has σ (b2 + 16) (b2 + 17) []) rfl ?_ ?_
  ·refine .split rfl rfl ?_ ?_ <;> intro hc2
   ·skip
    refine .wanted rfl rfl (.Z2 (off := 0) (fo := 3) H 0 rfl rfl rfl rfl rfl nofun rfl (.wanted rfl rfl (.ZR (off := 3) (v := (vb r'.HasHigh)) H 0 rfl rfl rfl rfl rfl nofun rfl (.wanted rfl rfl (.move (v := (vb r'.HasHigh)) rfl rfl ?_)))))
    refine .mid 4 (K1 := fun e σ => Z5 e [(17, (vb (r'.HasHigh || (r'.High == 0)))), (10, (vb true))] ∧ Has σ (b2 + 15) (b2 + 17) []) rfl ?_ ?_
    ·refine .split rfl rfl ?_ ?_ <;> intro hc3
     ·skip
      refine .pass rfl rfl rfl (.pass rfl rfl rfl (.pass rfl rfl rfl (.wanted rfl rfl (.Zg (v := (vb true)) rfl rfl rfl (.nil ?_)))))
      exact ⟨⟨or_T hc3, rfl, trivial⟩, (H.erase 0).weak (by omega) (Nat.le_refl _)⟩
     ·skip
      refine .wanted rfl rfl (.Z2 (off := 0) (fo := 1) H 0 rfl rfl rfl rfl rfl nofun rfl (.wanted rfl rfl (.ZR (off := 1) (v := (vi r'.High)) H 0 rfl rfl rfl rfl rfl nofun rfl (.wanted rfl rfl (.int (m := r'.High) (m' := 0) (r := .bool (r'.High == 0)) rfl rfl rfl rfl rfl ?_)))))
      refine .wanted rfl rfl (.Zn (v := (vb (r'.High == 0))) rfl rfl rfl (.nil ?_))
      exact ⟨⟨or_F hc3, rfl, trivial⟩, (H.erase 0).weak (by omega) (Nat.le_refl _)⟩
    ·rintro e σ ⟨he, H⟩
     obtain ⟨e, rfl⟩ := he.ex
     refine .Zg (v := (vb (r'.HasHigh || (r'.High == 0)))) rfl rfl rfl (.nil ?_)
     exact ⟨⟨Z1f hc2, trivial⟩, H.weak (by omega) (Nat.le_refl _)⟩
   ·skip
    refine .pass rfl rfl rfl (.pass rfl rfl rfl (.pass rfl rfl rfl (.Z0v rfl rfl rfl (.Z0v rfl rfl rfl (.Z0v rfl rfl rfl ?_)))))
    refine .pass rfl rfl rfl (.Zn (v := (vb false)) rfl rfl rfl (.nil ?_))
    exact ⟨⟨Z1e hc2, trivial⟩, (H.erase 0).weak (by omega) (Nat.le_refl _)⟩
  ·rintro e σ ⟨he, H⟩
   obtain ⟨e, rfl⟩ := he.ex
   refine .assign (v := (vb ((r'.HasLow || (r'.Low == 0)) && (r'.HasHigh || (r'.High == 0))))) rfl rfl (.nila H fun H => (.ret ?_))
   subst h
   exact (Ends.H (xs := [(vb ((r'.HasLow || (r'.Low == 0)) && (r'.HasHigh || (r'.High == 0))))]) (.inr rfl) H (.tmp (v := (vb ((r'.HasLow || (r'.Low == 0)) && (r'.HasHigh || (r'.High == 0))))) rfl .nil) (.one (.c (.v _))))

theorem tag_right_fn {n : Net} {c : Con} {r : Bool} (h : Z2F n c = r) : Fn CX 34 [(.agg (vs (Net.cs n))), (.agg (vs (Con.cs c)))] (vb r) := by
 refine Fn.ends Try.func34 rfl rfl rfl rfl rfl rfl ?_
 have H : Hs (⟨0, fun _ => .none⟩ : Heap) [] := Has.nil (Nat.le_refl _)
 generalize (⟨0, fun _ => .none⟩ : Heap) = σ at H ⊢
 unfold Z2F at h
 refine .then (.Z0 3 rfl H fun b1 σ H => (.boxH (cs := [(vi n.Vars), (vl Form.cs n.Forms), (vl Con.cs n.Cons)]) H (by omega) (by omega) rfl rfl rfl fun σ H => (.boxH (cs := [(vi c.X), (vi c.Y), (vi c.Form), (vi c.Range.Low), (vi c.Range.High), (vb c.Range.HasLow), (vb c.Range.HasHigh)]) H (by omega) (by omega) rfl rfl rfl fun σ H => (.assign (v := (vb false)) rfl rfl (.nila H fun H => ?_)))))
 refine .then (.Z0 26 rfl H fun b2 σ H => (.Z2 (off := 0) (fo := 0) H 0 rfl rfl rfl rfl rfl nofun rfl (.ZR (off := 0) (v := (vi c.X)) H 0 rfl rfl rfl rfl rfl nofun rfl (.Z2 (off := 0) (fo := 0) H 1 rfl rfl rfl rfl rfl nofun rfl (.ZR (off := 0) (v := (vi n.Vars)) H 1 rfl rfl rfl rfl rfl nofun rfl ?_)))))
 refine .call (ys := [(vi c.X), (vi n.Vars)]) (r := (vb (ZV c.X n.Vars))) rfl (Z3w rfl) rfl (.move (v := (vb (ZV c.X n.Vars))) rfl rfl ?_)
 refine .mid 6 (K1 := fun e σ => Z5 e [(16, (vb ((ZV c.X n.Vars) && (ZV c.Y n.Vars)))), (2, (.ptr (b1 + 0) 3 0)), (3, (.ptr (b1 + 1) 7 0))] ∧ Has σ (b2 + 12) (b2 + 26) [.blk (b1 + 1) 48 [(vi c.X), (vi c.Y), (vi c.Form), (vi c.Range.Low), (vi c.Range.High), (vb c.Range.HasLow), (vb c.Range.HasHigh)], .blk (b1 + 0) 36 [(vi n.Vars), (vl Form.cs n.Forms), (vl Con.cs n.Cons)]]) rfl ?_ ?_
 ·refine .split rfl rfl ?_ ?_ <;> intro hc1
  ·skip
   refine .wanted rfl rfl (.Z2 (off := 0) (fo := 1) H 0 rfl rfl rfl rfl rfl nofun rfl (.wanted rfl rfl (.ZR (off := 1) (v := (vi c.Y)) H 0 rfl rfl rfl rfl rfl nofun rfl (.wanted rfl rfl (.Z2 (off := 0) (fo := 0) H 1 rfl rfl rfl rfl rfl nofun rfl ?_)))))
   refine .wanted rfl rfl (.ZR (off := 0) (v := (vi n.Vars)) H 1 rfl rfl rfl rfl rfl nofun rfl (.wanted rfl rfl (.call (ys := [(vi c.Y), (vi n.Vars)]) (r := (vb (ZV c.Y n.Vars))) rfl (Z3w rfl) rfl (.Zg (v := (vb (ZV c.Y n.Vars))) rfl rfl rfl (.nil ?_)))))
   exact ⟨⟨Z1f hc1, rfl, rfl, trivial⟩, H.weak (by omega) (Nat.le_refl _)⟩
  ·skip
   refine .pass rfl rfl rfl (.pass rfl rfl rfl (.pass rfl rfl rfl (.pass rfl rfl rfl (.pass rfl rfl rfl (.Zn (v := (vb false)) rfl rfl rfl ?_)))))
   refine .nil ?_
   exact ⟨⟨Z1e hc1, rfl, rfl, trivial⟩, H.weak (by omega) (Nat.le_refl _)⟩
 ·rintro e σ ⟨he, H⟩
  obtain ⟨e, rfl⟩ := he.ex
  refine .move (v := (vb ((ZV c.X n.Vars) && (ZV c.Y n.Vars)))) rfl rfl ?_
  refine .mid 7 (K1 := fun e σ => Z5 e [(24, (vb (((ZV c.X n.Vars) && (ZV c.Y n.Vars)) && (ZV c.Form (n.Forms.length : Int))))), (3, (.ptr (b1 + 1) 7 0))] ∧ Has σ (b2 + 20) (b2 + 26) [.blk (b1 + 1) 48 [(vi c.X), (vi c.Y), (vi c.Form), (vi c.Range.Low), (vi c.Range.High), (vb c.Range.HasLow), (vb c.Range.HasHigh)]]) rfl ?_ ?_
  ·refine .split rfl rfl ?_ ?_ <;> intro hc2
   ·skip
    refine .wanted rfl rfl (.Z2 (off := 0) (fo := 2) H 0 rfl rfl rfl rfl rfl nofun rfl (.wanted rfl rfl (.ZR (off := 2) (v := (vi c.Form)) H 0 rfl rfl rfl rfl rfl nofun rfl (.wanted rfl rfl (.Z2 (off := 0) (fo := 1) H 1 rfl rfl rfl rfl rfl nofun rfl ?_)))))
    refine .wanted rfl rfl (.ZR (off := 1) (v := (vl Form.cs n.Forms)) H 1 rfl rfl rfl rfl rfl nofun rfl (.wanted rfl rfl (.Z0T (c := Form.cs) (xs := n.Forms) rfl rfl rfl (.wanted rfl rfl (.call (ys := [(vi c.Form), (vi (n.Forms.length : Int))]) (r := (vb (ZV c.Form (n.Forms.length : Int)))) rfl (Z3w rfl) rfl ?_)))))
    refine .Zg (v := (vb (ZV c.Form (n.Forms.length : Int)))) rfl rfl rfl (.nil ?_)
    exact ⟨⟨Z1f hc2, rfl, trivial⟩, (H.erase 1).weak (by omega) (Nat.le_refl _)⟩
   ·skip
    refine .pass rfl rfl rfl (.pass rfl rfl rfl (.pass rfl rfl rfl (.pass rfl rfl rfl (.pass rfl rfl rfl (.pass rfl rfl rfl ?_)))))
    refine .Zn (v := (vb false)) rfl rfl rfl (.nil ?_)
    exact ⟨⟨Z1e hc2, rfl, trivial⟩, (H.erase 1).weak (by omega) (Nat.le_refl _)⟩
  ·rintro e σ ⟨he, H⟩
   obtain ⟨e, rfl⟩ := he.ex
   refine .move (v := (vb (((ZV c.X n.Vars) && (ZV c.Y n.Vars)) && (ZV c.Form (n.Forms.length : Int))))) rfl rfl ?_
   refine .mid 4 (K1 := fun e σ => Z5 e [(29, (vb ((((ZV c.X n.Vars) && (ZV c.Y n.Vars)) && (ZV c.Form (n.Forms.length : Int))) && (Z1U c.Range))))] ∧ Has σ (b2 + 25) (b2 + 26) []) rfl ?_ ?_
   ·refine .split rfl rfl ?_ ?_ <;> intro hc3
    ·skip
     refine .wanted rfl rfl (.Z2 (off := 0) (fo := 3) H 0 rfl rfl rfl rfl rfl nofun rfl (.wanted rfl rfl (.ZP (off := 3) (cs := [(vi c.Range.Low), (vi c.Range.High), (vb c.Range.HasLow), (vb c.Range.HasHigh)]) H 0 rfl rfl rfl rfl rfl rfl rfl nofun rfl (.wanted rfl rfl (.call (ys := [(.agg [(vi c.Range.Low), (vi c.Range.High), (vb c.Range.HasLow), (vb c.Range.HasHigh)])]) (r := (vb (Z1U c.Range))) rfl (tag_scoped_fn (rfl : Z1U c.Range = _)) rfl ?_)))))
     refine .Zg (v := (vb (Z1U c.Range))) rfl rfl rfl (.nil ?_)
     exact ⟨⟨Z1f hc3, trivial⟩, (H.erase 0).weak (by omega) (Nat.le_refl _)⟩
    ·skip
     refine .pass rfl rfl rfl (.pass rfl rfl rfl (.pass rfl rfl rfl (.Zn (v := (vb false)) rfl rfl rfl (.nil ?_))))
     exact ⟨⟨Z1e hc3, trivial⟩, (H.erase 0).weak (by omega) (Nat.le_refl _)⟩
   ·rintro e σ ⟨he, H⟩
    obtain ⟨e, rfl⟩ := he.ex
    refine .assign (v := (vb ((((ZV c.X n.Vars) && (ZV c.Y n.Vars)) && (ZV c.Form (n.Forms.length : Int))) && (Z1U c.Range)))) rfl rfl (.nila H fun H => (.ret ?_))
    subst h
    exact (Ends.H (xs := [(vb ((((ZV c.X n.Vars) && (ZV c.Y n.Vars)) && (ZV c.Form (n.Forms.length : Int))) && (Z1U c.Range)))]) (.inr rfl) H (.tmp (v := (vb ((((ZV c.X n.Vars) && (ZV c.Y n.Vars)) && (ZV c.Form (n.Forms.length : Int))) && (Z1U c.Range)))) rfl .nil) (.one (.c (.v _))))

theorem Z99 {c : Con} {p1' : Net} {id0' : Nat} {r : Bool} (h : Z4g c p1' = r) : FnH CX 33 [(.agg (vs (Con.cs c))), (.ptr id0' 3 0)] (vb r) [.blk id0' 36 [(vi p1'.Vars), (vl Form.cs p1'.Forms), (vl Con.cs p1'.Cons)]] := by
 refine FnH.of Try.func33 rfl rfl rfl rfl rfl rfl (fun h => by have := Z2y h 1 rfl; cases this) ?_
 intro σ L hC H
 have hC0 := hC
 obtain ⟨k0', hk0', hC⟩ := hC.inv
 unfold Z4g at h
 refine .then (.Z0 2 rfl H fun b1 σ H => (.boxH (cs := [(vi c.X), (vi c.Y), (vi c.Form), (vi c.Range.Low), (vi c.Range.High), (vb c.Range.HasLow), (vb c.Range.HasHigh)]) H (by omega) (by omega) rfl rfl rfl fun σ H => (.assign (v := (vb false)) rfl rfl (.nila H fun H => (.then ?_)))))
 refine .Z0 5 rfl H fun b2 σ H => (.ZP (off := 0) (cs := [(vi p1'.Vars), (vl Form.cs p1'.Forms), (vl Con.cs p1'.Cons)]) H (k0' + 1) hk0' rfl rfl rfl rfl rfl rfl nofun rfl (.ZP (off := 0) (cs := [(vi c.X), (vi c.Y), (vi c.Form), (vi c.Range.Low), (vi c.Range.High), (vb c.Range.HasLow), (vb c.Range.HasHigh)]) H 0 rfl rfl rfl rfl rfl rfl rfl nofun rfl (.call (ys := [(.agg [(vi p1'.Vars), (vl Form.cs p1'.Forms), (vl Con.cs p1'.Cons)]), (.agg [(vi c.X), (vi c.Y), (vi c.Form), (vi c.Range.Low), (vi c.Range.High), (vb c.Range.HasLow), (vb c.Range.HasHigh)])]) (r := (vb (Z2F p1' c))) rfl (tag_right_fn (rfl : Z2F p1' c = _)) rfl (.not (b := (Z2F p1' c)) rfl rfl (.assign (v := (vb (!(Z2F p1' c)))) rfl rfl ?_)))))
 refine .nila H fun H => (.ret ?_)
 subst h
 exact (EndsH.H (xs := [(vb (!(Z2F p1' c)))]) (.inr rfl) H (.tmp (v := (vb (!(Z2F p1' c)))) rfl .nil) (.one (.c (.v _))) 1 rfl)

theorem tag_Right_fn {n : Net} {r : Int} (h : Z47 n = some r) : Fn CX 21 [(.agg (vs (Net.cs n)))] (vi r) := by
 refine Fn.ends Try.func21 rfl rfl rfl rfl rfl rfl ?_
 have H : Hs (⟨0, fun _ => .none⟩ : Heap) [] := Has.nil (Nat.le_refl _)
 generalize (⟨0, fun _ => .none⟩ : Heap) = σ at H ⊢
 unfold Z47 at h
 refine .then (.Z0 2 rfl H fun b1 σ H => (.boxH (cs := [(vi n.Vars), (vl Form.cs n.Forms), (vl Con.cs n.Cons)]) H (by omega) (by omega) rfl rfl rfl fun σ H => (.assign (v := (vi 0)) rfl rfl (.nila H fun H => (.then ?_)))))
 refine .Z0 2 rfl H fun b2 σ H => (.makeClo (fs := []) (cs := [(.ptr (b1 + 0) 3 0)]) rfl rfl rfl rfl (.assign (v := (.clo 33 [] [(.ptr (b1 + 0) 3 0)])) rfl rfl (.nila H fun H => (.then (.Z0 1 rfl H fun b3 σ H => ?_)))))
 refine .assign (v := (.v (.fn 35))) rfl rfl (.nila H fun H => (.then ?_))
 obtain ⟨y1, hj1, h⟩ := bind_some h
 refine .mono (Q := fun x e σ => (∃ a1, y1 = (.go a1) ∧ x = .normal ∧ Z5 e [] ∧ Hs σ []) ∨ (∃ r', y1 = (.ret r') ∧ x = .ret ∧ Ends CX Try.f21.results.toList (vi r') x e σ)) ?_ ?_
 ·replace h := hj1
  refine .inBlock ?_
  obtain ⟨y2, hj2, h⟩ := bind_some h
  refine .mono (Q := fun x e σ => (∃ a2, y2 = (.go a2) ∧ x = .normal ∧ Z5 e [] ∧ Hs σ []) ∨ (∃ r', y2 = (.ret r') ∧ x = .ret ∧ Ends CX Try.f21.results.toList (vi r') x e σ)) ?_ ?_
  ·replace h := hj2
   refine .then ?_
   obtain ⟨y3, hj3, h⟩ := bind_some h
   refine .mono (Q := fun x e σ => x = .normal ∧ Z5 e [(1, (.ptr (b1 + 0) 3 0)), (3, (.clo 33 [] [(.ptr (b1 + 0) 3 0)])), (4, (.v (.fn 35))), (6, (vb y3))] ∧ Hs σ [.blk (b1 + 0) 36 [(vi n.Vars), (vl Form.cs n.Forms), (vl Con.cs n.Cons)]]) ?_ ?_
   ·replace h := hj3
    refine .then (.Z0 5 rfl H fun b4 σ H => (.Z2 (off := 0) (fo := 0) H 0 rfl rfl rfl rfl rfl nofun rfl (.ZR (off := 0) (v := (vi n.Vars)) H 0 rfl rfl rfl rfl rfl nofun rfl (.call (ys := [(vi n.Vars), (vi 25)]) (r := (vb (ZV n.Vars 25))) rfl (Z3w rfl) rfl (.not (b := (ZV n.Vars 25)) rfl rfl ?_)))))
    refine .assign (v := (vb (!(ZV n.Vars 25)))) rfl rfl (.nila H fun H => ?_)
    refine .whether (v := (!(ZV n.Vars 25))) rfl ?_ ?_ <;> intro hc1
    ·replace h := Z9 hc1 h
     refine .skip ?_
     replace h := sj h; subst h
     exact ⟨rfl, ⟨rfl, rfl, rfl, rfl, trivial⟩, H⟩
    ·replace h := Z6 hc1 h
     refine .then (.Z0 5 rfl H fun b5 σ H => (.Z2 (off := 0) (fo := 1) H 0 rfl rfl rfl rfl rfl nofun rfl (.ZR (off := 1) (v := (vl Form.cs n.Forms)) H 0 rfl rfl rfl rfl rfl nofun rfl (.Z0T (c := Form.cs) (xs := n.Forms) rfl rfl rfl (.int (m := (n.Forms.length : Int)) (m' := 20) (r := .bool (decide ((n.Forms.length : Int) > 20))) rfl rfl rfl rfl rfl ?_)))))
     refine .assign (v := (vb (decide ((n.Forms.length : Int) > 20)))) rfl rfl (.nila H fun H => ?_)
     refine .whether (v := (decide ((n.Forms.length : Int) > 20))) rfl ?_ ?_ <;> intro hc2
     ·replace h := Z9 hc2 h
      refine .skip ?_
      replace h := sj h; subst h
      exact ⟨rfl, ⟨rfl, rfl, rfl, rfl, trivial⟩, H⟩
     ·replace h := Z6 hc2 h
      refine .Z0 5 rfl H fun b6 σ H => (.Z2 (off := 0) (fo := 2) H 0 rfl rfl rfl rfl rfl nofun rfl (.ZR (off := 2) (v := (vl Con.cs n.Cons)) H 0 rfl rfl rfl rfl rfl nofun rfl (.Z0T (c := Con.cs) (xs := n.Cons) rfl rfl rfl (.int (m := (n.Cons.length : Int)) (m' := 200) (r := .bool (decide ((n.Cons.length : Int) > 200))) rfl rfl rfl rfl rfl (.assign (v := (vb (decide ((n.Cons.length : Int) > 200)))) rfl rfl ?_)))))
      refine .nila H fun H => ?_
      replace h := sj h; subst h
      exact ⟨rfl, ⟨rfl, rfl, rfl, rfl, trivial⟩, H⟩
   ·rintro x e σ ⟨rfl, he, H⟩
    obtain ⟨e, rfl⟩ := he.ex
    refine .whether (v := y3) rfl ?_ ?_ <;> intro hc3
    ·replace h := Z9 hc3 h
     refine .then (.Z0 1 rfl H fun b7 σ H => (.assign (v := (vi 230)) rfl rfl (.nila H fun H => (.ret ?_))))
     replace h := sj h; subst h
     exact (.inr ⟨_, rfl, rfl, (Ends.H (xs := [(vi 230)]) (.inr rfl) H (.tmp (v := (vi 230)) rfl .nil) (.one (.c (.v _))))⟩)
    ·replace h := Z6 hc3 h
     refine .then ?_
     obtain ⟨y4, hj4, h⟩ := bind_some h
     refine .mono (Q := fun x e σ => x = .normal ∧ Z5 e [(19, (vb y4))] ∧ Hs σ []) ?_ ?_
     ·replace h := hj4
      refine .then (.Z0 5 rfl H fun b8 σ H => (.Z2 (off := 0) (fo := 1) H 0 rfl rfl rfl rfl rfl nofun rfl (.ZR (off := 1) (v := (vl Form.cs n.Forms)) H 0 rfl rfl rfl rfl rfl nofun rfl (.move (v := (.v (.fn 35))) rfl rfl ?_))))
      obtain ⟨x1, q1, h⟩ := bind_some h
      refine .Z6h (ys := [(vl Form.cs n.Forms), (.v (.fn 35))]) (r := (vb x1)) H rfl (Z2p (C := []) rfl (fun _ => rfl) (fun z0 y hz => (CloH.fn (Fn.toH (Z8u hz) _))) q1) .nil nofun rfl fun σ H => (.assign (v := (vb x1)) rfl rfl (.nila H fun H => ?_))
      refine .whether (v := x1) rfl ?_ ?_ <;> intro hc4
      ·replace h := Z9 hc4 h
       refine .skip ?_
       replace h := sj h; subst h
       exact ⟨rfl, ⟨rfl, trivial⟩, (H.erase 0)⟩
      ·replace h := Z6 hc4 h
       refine .Z0 5 rfl H fun b9 σ H => (.Z2 (off := 0) (fo := 2) H 0 rfl rfl rfl rfl rfl nofun rfl (.ZR (off := 2) (v := (vl Con.cs n.Cons)) H 0 rfl rfl rfl rfl rfl nofun rfl (.move (v := (.clo 33 [] [(.ptr (b1 + 0) 3 0)])) rfl rfl ?_)))
       obtain ⟨x2, q2, h⟩ := bind_some h
       refine .Z6h (ys := [(vl Con.cs n.Cons), (.clo 33 [] [(.ptr (b1 + 0) 3 0)])]) (r := (vb x2)) H rfl (Z38 (C := [.blk (b1 + 0) 36 [(vi n.Vars), (vl Form.cs n.Forms), (vl Con.cs n.Cons)]]) rfl (fun h => by simp [PV.pure] at h) (fun z0 y hz => (CloH.clo (Z99 (Option.some.inj hz)))) q2) (.cons 0 rfl .nil) nofun rfl fun σ H => (.assign (v := (vb x2)) rfl rfl (.nila H fun H => ?_))
       replace h := sj h; subst h
       exact ⟨rfl, ⟨rfl, trivial⟩, (H.erase 0)⟩
     ·rintro x e σ ⟨rfl, he, H⟩
      obtain ⟨e, rfl⟩ := he.ex
      refine .whether (v := y4) rfl ?_ ?_ <;> intro hc5
      ·replace h := Z9 hc5 h
       refine .then (.Z0 1 rfl H fun b10 σ H => (.assign (v := (vi 230)) rfl rfl (.nila H fun H => (.ret ?_))))
       replace h := sj h; subst h
       exact (.inr ⟨_, rfl, rfl, (Ends.H (xs := [(vi 230)]) (.inr rfl) H (.tmp (v := (vi 230)) rfl .nil) (.one (.c (.v _))))⟩)
      ·replace h := Z6 hc5 h
       refine .skip ?_
       replace h := sj h; subst h
       exact (.inl ⟨_, rfl, rfl, trivial, H⟩)
  ·rintro x e σ (⟨a3, rfl, rfl, he, H⟩ | ⟨r', rfl, rfl, hE⟩)
   ·skip
    replace h := jgo h
    obtain ⟨e, rfl⟩ := he.ex
    replace h := sj h; subst h
    exact (.inl ⟨_, rfl, rfl, trivial, H⟩)
   ·skip
    replace h := jret h
    replace h := sj h; subst h
    exact (.inr ⟨_, rfl, rfl, hE⟩)
 ·rintro x e σ (⟨a4, rfl, rfl, he, H⟩ | ⟨r', rfl, rfl, hE⟩)
  ·skip
   replace h := jgo h
   obtain ⟨e, rfl⟩ := he.ex
   refine .then (.Z0 1 rfl H fun b11 σ H => (.assign (v := (vi 0)) rfl rfl (.nila H fun H => (.ret ?_))))
   replace h := sj h; subst h
   exact (Ends.H (xs := [(vi 0)]) (.inr rfl) H (.tmp (v := (vi 0)) rfl .nil) (.one (.c (.v _))))
  ·skip
   replace h := jret h
   replace h := sj h; subst h
   exact hE

end Go.Dn

namespace Go.Dn
open Go Go.Proofs
set_option maxRecDepth 100000
set_option maxHeartbeats 4000000

theorem tag_Holds_fn {n : Net} {ticks : (List Int)} {r : Bool} (h : Z09 n ticks = some r) : Fn CX 13 [(.agg (vs (Net.cs n))), (vl (cI .i64) ticks)] (vb r) := by
 refine Fn.ends Try.func13 rfl rfl rfl rfl rfl rfl ?_
 have H : Hs (⟨0, fun _ => .none⟩ : Heap) [] := Has.nil (Nat.le_refl _)
 generalize (⟨0, fun _ => .none⟩ : Heap) = σ at H ⊢
 unfold Z09 at h
 refine .then (.Z0 2 rfl H fun b1 σ H => (.boxH (cs := [(vi n.Vars), (vl Form.cs n.Forms), (vl Con.cs n.Cons)]) H (by omega) (by omega) rfl rfl rfl fun σ H => (.Z0p (cs := [(vb false)]) H (by omega) (by omega) rfl rfl fun σ H => (.nila H fun H => (.then ?_)))))
 refine .then (.Z0 4 rfl H fun b2 σ H => (.ZP (off := 0) (cs := [(vi n.Vars), (vl Form.cs n.Forms), (vl Con.cs n.Cons)]) H 1 rfl rfl rfl rfl rfl rfl rfl nofun rfl (.move (v := (vl (cI .i64) ticks)) rfl rfl ?_)))
 obtain ⟨x1, q1, h⟩ := bind_some h
 refine .call (ys := [(.agg [(vi n.Vars), (vl Form.cs n.Forms), (vl Con.cs n.Cons)]), (vl (cI .i64) ticks)]) (r := (vb x1)) rfl (Z6r q1) rfl (.not (b := x1) rfl rfl (.nila H fun H => ?_))
 refine .whether (v := (!x1)) rfl ?_ ?_ <;> intro hc1
 ·replace h := Z9 hc1 h
  refine .then (.Z0 1 rfl H fun b3 σ H => (.Z0e (off := 0) (cells' := [(vb false)]) H 0 rfl rfl rfl rfl rfl rfl rfl rfl rfl nofun fun σ H => (.nila H fun H => (.ret ?_))))
  replace h := sj h; subst h
  exact (Ends.H (xs := [(vb false)]) (.inr rfl) H (.cell (v := (vb false)) (off := 0) 0 rfl rfl rfl rfl rfl .nil) (.one (.c (.v _))))
 ·replace h := Z6 hc1 h
  refine .skip (.then (.then (.Z0 3 rfl H fun b4 σ H => (.ZP (off := 0) (cs := [(vi n.Vars), (vl Form.cs n.Forms), (vl Con.cs n.Cons)]) H 1 rfl rfl rfl rfl rfl rfl rfl nofun rfl (.move (v := (vl (cI .i64) ticks)) rfl rfl ?_)))))
  refine .callO (ys := [(.agg (vs (Net.cs n))), (vl (cI .i64) ticks)]) rfl (Z5s H) nofun rfl ?_; rintro _ σ ⟨id1, id2, rfl, H⟩
  refine .nila H fun H => (.inBlock ?_)
  replace H := (H.erase 3)
  obtain ⟨y1, hj1, h⟩ := bind_some h
  refine .rangeH H rfl (fun s1 M => M = [.blk id1 37 [(vl (cI .i64) ticks)], .blk id2 36 [(vi n.Vars), (vl Form.cs n.Forms), (vl Con.cs n.Cons)], .blk (b1 + 1) 4 [(vb false)]]) (fun z1 => [(vi z1)]) Z09.b0 (fun p => if p = 0 then none else some .ret) rfl (fun p => by (repeat' split) <;> exact ⟨_, rfl⟩) (r := y1) rfl (fun _ => rfl) (fun _ => rfl) ?_ (fun id hy => Z51 hy (fun s L hL => by obtain ⟨M, hM, rfl⟩ := hL; obtain rfl := hM; exact (.cons 2 rfl (.cons 1 rfl .nil))) hj1) ?_
  ·intro R0 R1 s1 z1 s' p h σ M O hM H
   obtain rfl := hM
   unfold Z09.b0 at h
   refine .env [(12, (vi z1)), (4, (.ptr (b1 + 1) 1 0)), (11, (.clo 44 [] [(.ptr id2 3 0), (.ptr id1 1 0)]))] ⟨rfl, rfl, rfl, trivial⟩ fun e => (.skip ?_)
   refine ⟨rfl, [.blk id1 37 [(vl (cI .i64) ticks)], .blk id2 36 [(vi n.Vars), (vl Form.cs n.Forms), (vl Con.cs n.Cons)], .blk (b1 + 1) 4 [(vb false)]], H, ?_⟩; intro σ H
   refine .inBlock (.then (.Z0 1 rfl H fun b5 σ H => (.Z0e (off := 0) (cells' := [(vb false)]) H 3 rfl rfl rfl rfl rfl rfl rfl rfl rfl nofun fun σ H => (.nila H fun H => (.ret ?_)))))
   obtain ⟨rfl, rfl⟩ := Prod.mk.inj (Option.some.inj h)
   exact ⟨⟨rfl, (iff_of_false nofun nofun)⟩, _, rfl, H⟩
  ·intro x σ M hx hM H
   obtain rfl := hM
   cases hc0_ : (y1.2 == 0)
   ·replace h := Z6 hc0_ h
    have hx : x = .ret := by simpa [ne_of_beq_false hc0_, Z5j] using hx.symm
    subst hx
    replace h := sj h; subst h
    exact (Ends.H (xs := [(vb false)]) (.inr rfl) H (.cell (v := (vb false)) (off := 0) 2 rfl rfl rfl rfl rfl .nil) (.one (.c (.v _))))
   ·replace h := Z9 hc0_ h
    have hx : x = .normal := by rw [eq_of_beq hc0_] at hx; exact (Option.some.inj hx).symm
    subst hx
    refine .then (.Z0 1 rfl H fun b6 σ H => (.Z0e (off := 0) (cells' := [(vb true)]) H 2 rfl rfl rfl rfl rfl rfl rfl rfl rfl nofun fun σ H => (.nila H fun H => (.ret ?_))))
    replace h := sj h; subst h
    exact (Ends.H (xs := [(vb true)]) (.inr rfl) H (.cell (v := (vb true)) (off := 0) 2 rfl rfl rfl rfl rfl .nil) (.one (.c (.v _))))

theorem Z4X {a : (List Int)} {b : (List Int)} {r : Bool} (h : Zu a b = some r) : Fn CX 12 [(vl (cI .i64) a), (vl (cI .i64) b)] (vb r) := by
 refine Fn.ends Try.func12 rfl rfl rfl rfl rfl rfl ?_
 have H : Hs (⟨0, fun _ => .none⟩ : Heap) [] := Has.nil (Nat.le_refl _)
 generalize (⟨0, fun _ => .none⟩ : Heap) = σ at H ⊢
 unfold Zu at h
 refine .then (.Z0 1 rfl H fun b1 σ H => (.assign (v := (vb false)) rfl rfl (.nila H fun H => (.then (.then ?_)))))
 refine .Z0 5 rfl H fun b2 σ H => (.move (v := (vl (cI .i64) a)) rfl rfl (.Z0T (c := (cI .i64)) (xs := a) rfl rfl rfl (.move (v := (vl (cI .i64) b)) rfl rfl (.Z0T (c := (cI .i64)) (xs := b) rfl rfl rfl (.int (m := (a.length : Int)) (m' := (b.length : Int)) (r := .bool ((a.length : Int) != (b.length : Int))) rfl rfl rfl rfl rfl ?_)))))
 refine .nila H fun H => ?_
 refine .whether (v := ((a.length : Int) != (b.length : Int))) rfl ?_ ?_ <;> intro hc1
 ·replace h := Z9 hc1 h
  refine .then (.Z0 1 rfl H fun b3 σ H => (.assign (v := (vb false)) rfl rfl (.nila H fun H => (.ret ?_))))
  replace h := sj h; subst h
  exact (Ends.H (xs := [(vb false)]) (.inr rfl) H (.tmp (v := (vb false)) rfl .nil) (.one (.c (.v _))))
 ·replace h := Z6 hc1 h
  refine .skip (.then (.then (.Z0 3 rfl H fun b4 σ H => (.move (v := (vl (cI .i64) a)) rfl rfl (.Z0T (c := (cI .i64)) (xs := a) rfl rfl rfl ?_)))))
  refine .move (v := (vi 0)) rfl rfl (.nila H fun H => (.inBlock ?_))
  obtain ⟨y1, hj1, h⟩ := bind_some h
  obtain ⟨n1, hj1⟩ := Ze.1 hj1
  refine .mono (Runs.ZK hj1 (fun s1 e σ => Z5 e [(0, (vl (cI .i64) a)), (1, (vl (cI .i64) b)), (12, (vi (a.length : Int))), (13, (vi s1))] ∧ Hs σ []) (fun y1 x e σ => (∃ a1, y1 = (.go a1) ∧ x = .exit 0 ∧ Z5 e [] ∧ Hs σ []) ∨ (∃ r', y1 = (.ret r') ∧ x = .ret ∧ Ends CX Try.f12.results.toList (vb r') x e σ)) ⟨⟨rfl, rfl, rfl, rfl, trivial⟩, H⟩ ?_) ?_
  ·intro s1 e σ hI z h
   obtain ⟨he, H⟩ := hI
   obtain ⟨e, rfl⟩ := he.ex
   unfold Zu.s0 at h
   refine .then (.Z0 1 rfl H fun b5 σ H => (.int (m := s1) (m' := (a.length : Int)) (r := .bool (decide (s1 < (a.length : Int)))) rfl rfl rfl rfl rfl (.nila H fun H => (.then ?_))))
   refine .whether (v := (decide (s1 < (a.length : Int)))) rfl ?_ ?_ <;> intro hc2
   ·replace h := Z9 hc2 h
    refine .skip (.then (.inBlock (.then (.Z0 2 rfl H fun b6 σ H => (.move (v := (vi s1)) rfl rfl ?_)))))
    refine .assign (v := (vi s1)) rfl rfl (.nila H fun H => (.then (.Z3n 9 rfl (by kernel_rfl) H fun b7 σ H B7 => (.move (v := (vl (cI .i64) a)) rfl rfl (.move (v := (vi s1)) rfl rfl ?_)))))
    obtain ⟨x1, q1, h⟩ := bind_some h
    refine .Z0H (c := (cI .i64)) (u := x1) rfl rfl q1 rfl rfl rfl rfl (.Z2M (u := (.int .i64 x1)) rfl rfl rfl rfl (.move (v := (vl (cI .i64) b)) rfl rfl (.move (v := (vi s1)) rfl rfl ?_)))
    obtain ⟨x2, q2, h⟩ := bind_some h
    refine .Z0H (c := (cI .i64)) (u := x2) rfl rfl q2 rfl rfl rfl rfl (.Z2M (u := (.int .i64 x2)) rfl rfl rfl rfl (.int (m := x1) (m' := x2) (r := .bool (x1 != x2)) rfl rfl rfl rfl rfl (.nila H fun H => ?_)))
    refine .whether (v := (x1 != x2)) rfl ?_ ?_ <;> intro hc3
    ·replace h := Z9 hc3 h
     refine .then (.Z0 1 rfl H fun b8 σ H => (.assign (v := (vb false)) rfl rfl (.nila H fun H => (.ret ?_))))
     replace h := sj h; subst h
     exact ⟨nofun, (.inr ⟨_, rfl, rfl, (Ends.H (xs := [(vb false)]) (.inr rfl) H (.tmp (v := (vb false)) rfl .nil) (.one (.c (.v _))))⟩)⟩
    ·replace h := Z6 hc3 h
     refine .skip (.Z0 2 rfl H fun b9 σ H => (.int (m := s1) (m' := 1) (r := .int .i64 (w64 (s1 + 1))) rfl rfl rfl rfl rfl (.move (v := (vi (w64 (s1 + 1)))) rfl rfl (.nila H fun H => ?_))))
     replace h := sj h; subst h
     exact ⟨rfl, ⟨rfl, rfl, rfl, rfl, trivial⟩, H⟩
   ·replace h := Z6 hc2 h
    refine .exit ?_
    replace h := sj h; subst h
    exact ⟨nofun, (.inl ⟨_, rfl, rfl, trivial, H⟩)⟩
  ·rintro x e σ (⟨a2, rfl, rfl, he, H⟩ | ⟨r', rfl, rfl, hE⟩)
   ·skip
    replace h := jgo h
    obtain ⟨e, rfl⟩ := he.ex
    refine .then (.Z0 1 rfl H fun b10 σ H => (.assign (v := (vb true)) rfl rfl (.nila H fun H => (.ret ?_))))
    replace h := sj h; subst h
    exact (Ends.H (xs := [(vb true)]) (.inr rfl) H (.tmp (v := (vb true)) rfl .nil) (.one (.c (.v _))))
   ·skip
    replace h := jret h
    replace h := sj h; subst h
    exact hE

theorem Z6A {r : Bool} (h : Z1L = some r) : Fn CX 8 [] (vb r) := by
 refine Fn.ends Try.func8 rfl rfl rfl rfl rfl rfl ?_
 have H : Hs (⟨0, fun _ => .none⟩ : Heap) [] := Has.nil (Nat.le_refl _)
 generalize (⟨0, fun _ => .none⟩ : Heap) = σ at H ⊢
 unfold Z1L at h
 refine .then (.Z0 1 rfl H fun b1 σ H => (.assign (v := (vb false)) rfl rfl (.nila H fun H => (.then (.Z0 3 rfl H fun b2 σ H => ?_)))))
 refine .call (ys := []) (r := (.agg (vF ZH))) rfl (Z6S rfl) rfl (.Z0p (cs := [(vi 0), (vi 0), .nils, .nils]) H (by omega) (by omega) rfl rfl fun σ H => (.Z0e (off := 0) (cells' := (vF ZH)) H 0 rfl rfl rfl rfl rfl rfl rfl rfl rfl nofun fun σ H => (.nila H fun H => (.then (.Z0 7 rfl H fun b3 σ H => ?_)))))
 refine .ZP (off := 0) (cs := (vF ZH)) H 0 rfl rfl rfl rfl rfl rfl rfl nofun rfl ?_
 obtain ⟨x1, q1, h⟩ := bind_some h
 refine .call (ys := [(.agg (vF ZH)), (vi 3), (vi 9)]) (r := (.tup [(vi x1.1), (vb x1.2)])) rfl (Z2d q1) rfl (.move (v := (.tup [(vi x1.1), (vb x1.2)])) rfl rfl (.extract (v := (vi x1.1)) rfl rfl rfl (.extract (v := (vb x1.2)) rfl rfl rfl (.assign (v := (vi x1.1)) rfl rfl (.assign (v := (vb x1.2)) rfl rfl ?_)))))
 refine .nila H fun H => (.then (.Z0 7 rfl H fun b4 σ H => (.ZP (off := 0) (cs := (vF ZH)) H 0 rfl rfl rfl rfl rfl rfl rfl nofun rfl ?_)))
 obtain ⟨x2, q2, h⟩ := bind_some h
 refine .call (ys := [(.agg (vF ZH)), (vi 3), (vi 5)]) (r := (.tup [(vi x2.1), (vb x2.2)])) rfl (Z2d q2) rfl (.move (v := (.tup [(vi x2.1), (vb x2.2)])) rfl rfl (.extract (v := (vi x2.1)) rfl rfl rfl (.extract (v := (vb x2.2)) rfl rfl rfl (.assign (v := (vi x2.1)) rfl rfl (.assign (v := (vb x2.2)) rfl rfl ?_)))))
 refine .nila H fun H => (.then (.Z0 8 rfl H fun b5 σ H => (.ZP (off := 0) (cs := (vF ZH)) H 0 rfl rfl rfl rfl rfl rfl rfl nofun rfl (.Z3K (sz := 4) ([ZH].map Form.cs) H (by omega) (by omega) rfl rfl rfl rfl rfl rfl rfl rfl rfl fun σ H => (.Z0q (cs := [(vi 1), (vi 2), (vb true), (vb true)]) rfl rfl ?_)))))
 refine .Z0q (cs := [(vi 0), (vi 1), (vi 0), (vi 1), (vi 2), (vb true), (vb true)]) rfl rfl (.Z3K (sz := 7) ([(Con.mk 0 1 0 (Range.mk 1 2 true true))].map Con.cs) H (by omega) (by omega) rfl rfl rfl rfl rfl rfl rfl rfl rfl fun σ H => (.Z0q (cs := [(vi 2), (.buf (b5 + 1) 1 4), (.buf (b5 + 4) 1 7)]) rfl rfl (.Z0p (cs := [(vi 0), .nils, .nils]) H (by omega) (by omega) rfl rfl fun σ H => (.Z0e (off := 0) (cells' := [(vi 2), (.buf (b5 + 1) 1 4), (.buf (b5 + 4) 1 7)]) H 0 rfl rfl rfl rfl rfl rfl rfl rfl rfl nofun fun σ H => (.nila H fun H => ?_)))))
 refine .then (.Z0 8 rfl H fun b6 σ H => (.ZP (off := 0) (cs := [(vi 2), (.buf (b5 + 1) 1 4), (.buf (b5 + 4) 1 7)]) H 0 rfl rfl rfl rfl rfl rfl rfl nofun rfl (.Z3K (sz := 1) ([3, 4].map (cI .i64)) H (by omega) (by omega) rfl rfl rfl rfl rfl rfl rfl rfl rfl fun σ H => ?_)))
 obtain ⟨x3, q3, h⟩ := bind_some h
 refine .Z32 (xs := [(.agg [(vi 2), (.buf (b5 + 1) 1 4), (.buf (b5 + 4) 1 7)]), (.buf (b6 + 1) 2 1)]) (ys := [(.agg (vs (Net.cs (Net.mk 2 [ZH] [(Con.mk 0 1 0 (Range.mk 1 2 true true))])))), (vl (cI .i64) [3, 4])]) H rfl (.cons (.a (.cons (.v _) (.cons (.s 3 rfl) (.cons (.s 2 rfl) .nil)))) (.cons (.c (.s 0 rfl)) .nil)) (Z7b q3) rfl rfl nofun rfl fun σ H => (.move (v := (.tup [(vl (cI .i64) x3.1), (vi x3.2)])) rfl rfl (.extract (v := (vl (cI .i64) x3.1)) rfl rfl rfl (.extract (v := (vi x3.2)) rfl rfl rfl (.assign (v := (vl (cI .i64) x3.1)) rfl rfl (.assign (v := (vi x3.2)) rfl rfl ?_)))))
 refine .nila H fun H => (.then (.Z0 8 rfl H fun b7 σ H => (.ZP (off := 0) (cs := [(vi 2), (.buf (b5 + 1) 1 4), (.buf (b5 + 4) 1 7)]) H 1 rfl rfl rfl rfl rfl rfl rfl nofun rfl (.Z3K (sz := 1) ([3, 5].map (cI .i64)) H (by omega) (by omega) rfl rfl rfl rfl rfl rfl rfl rfl rfl fun σ H => ?_))))
 obtain ⟨x4, q4, h⟩ := bind_some h
 refine .Z32 (xs := [(.agg [(vi 2), (.buf (b5 + 1) 1 4), (.buf (b5 + 4) 1 7)]), (.buf (b7 + 1) 2 1)]) (ys := [(.agg (vs (Net.cs (Net.mk 2 [ZH] [(Con.mk 0 1 0 (Range.mk 1 2 true true))])))), (vl (cI .i64) [3, 5])]) H rfl (.cons (.a (.cons (.v _) (.cons (.s 4 rfl) (.cons (.s 3 rfl) .nil)))) (.cons (.c (.s 0 rfl)) .nil)) (Z7b q4) rfl rfl nofun rfl fun σ H => (.move (v := (.tup [(vl (cI .i64) x4.1), (vi x4.2)])) rfl rfl (.extract (v := (vl (cI .i64) x4.1)) rfl rfl rfl (.extract (v := (vi x4.2)) rfl rfl rfl (.assign (v := (vl (cI .i64) x4.1)) rfl rfl (.assign (v := (vi x4.2)) rfl rfl ?_)))))
 refine .nila H fun H => (.then (.Z0 38 rfl H fun b8 σ H => (.move (v := (vb x1.2)) rfl rfl (.move (v := (vb x1.2)) rfl rfl ?_))))
 refine .mid 3 (K1 := fun e σ => Z5 e [(44, (vb (x1.2 && (x1.1 == 1)))), (5, (vb x2.2)), (6, (.ptr (b5 + 6) 3 0)), (7, (vl (cI .i64) x3.1)), (8, (vi x3.2)), (9, (vl (cI .i64) x4.1)), (10, (vi x4.2))] ∧ Has σ (b8 + 5) (b8 + 38) [.blk (b5 + 6) 36 [(vi 2), (.buf (b5 + 1) 1 4), (.buf (b5 + 4) 1 7)], .sl (.buf (b5 + 4) 1 7) 48 7 ([(Con.mk 0 1 0 (Range.mk 1 2 true true))].map Con.cs) false, .sl (.buf (b5 + 1) 1 4) 25 4 ([ZH].map Form.cs) false]) rfl ?_ ?_
 ·refine .split rfl rfl ?_ ?_ <;> intro hc1
  ·skip
   refine .wanted rfl rfl (.move (v := (vi x1.1)) rfl rfl (.wanted rfl rfl (.int (m := x1.1) (m' := 1) (r := .bool (x1.1 == 1)) rfl rfl rfl rfl rfl (.Zg (v := (vb (x1.1 == 1))) rfl rfl rfl (.nil ?_)))))
   exact ⟨⟨Z1f hc1, rfl, rfl, rfl, rfl, rfl, rfl, trivial⟩, (((H.erase 5).erase 1).erase 0).weak (by omega) (Nat.le_refl _)⟩
  ·skip
   refine .pass rfl rfl rfl (.pass rfl rfl rfl (.Zn (v := (vb false)) rfl rfl rfl (.nil ?_)))
   exact ⟨⟨Z1e hc1, rfl, rfl, rfl, rfl, rfl, rfl, trivial⟩, (((H.erase 5).erase 1).erase 0).weak (by omega) (Nat.le_refl _)⟩
 ·rintro e σ ⟨he, H⟩
  obtain ⟨e, rfl⟩ := he.ex
  refine .move (v := (vb (x1.2 && (x1.1 == 1)))) rfl rfl ?_
  refine .mid 3 (K1 := fun e σ => Z5 e [(48, (vb ((x1.2 && (x1.1 == 1)) && (!x2.2)))), (6, (.ptr (b5 + 6) 3 0)), (7, (vl (cI .i64) x3.1)), (8, (vi x3.2)), (9, (vl (cI .i64) x4.1)), (10, (vi x4.2))] ∧ Has σ (b8 + 9) (b8 + 38) [.blk (b5 + 6) 36 [(vi 2), (.buf (b5 + 1) 1 4), (.buf (b5 + 4) 1 7)], .sl (.buf (b5 + 4) 1 7) 48 7 ([(Con.mk 0 1 0 (Range.mk 1 2 true true))].map Con.cs) false, .sl (.buf (b5 + 1) 1 4) 25 4 ([ZH].map Form.cs) false]) rfl ?_ ?_
  ·refine .split rfl rfl ?_ ?_ <;> intro hc2
   ·skip
    refine .wanted rfl rfl (.move (v := (vb x2.2)) rfl rfl (.wanted rfl rfl (.not (b := x2.2) rfl rfl (.Zg (v := (vb (!x2.2))) rfl rfl rfl (.nil ?_)))))
    exact ⟨⟨Z1f hc2, rfl, rfl, rfl, rfl, rfl, trivial⟩, H.weak (by omega) (Nat.le_refl _)⟩
   ·skip
    refine .pass rfl rfl rfl (.pass rfl rfl rfl (.Zn (v := (vb false)) rfl rfl rfl (.nil ?_)))
    exact ⟨⟨Z1e hc2, rfl, rfl, rfl, rfl, rfl, trivial⟩, H.weak (by omega) (Nat.le_refl _)⟩
  ·rintro e σ ⟨he, H⟩
   obtain ⟨e, rfl⟩ := he.ex
   refine .move (v := (vb ((x1.2 && (x1.1 == 1)) && (!x2.2)))) rfl rfl ?_
   obtain ⟨y1, hj1, h⟩ := bind_some h
   refine .mid 4 (K1 := fun e σ => Z5 e [(53, (vb y1)), (6, (.ptr (b5 + 6) 3 0)), (7, (vl (cI .i64) x3.1)), (8, (vi x3.2)), (9, (vl (cI .i64) x4.1)), (10, (vi x4.2))] ∧ Has σ (b8 + 14) (b8 + 38) [.blk (b5 + 6) 36 [(vi 2), (.buf (b5 + 1) 1 4), (.buf (b5 + 4) 1 7)], .sl (.buf (b5 + 4) 1 7) 48 7 ([(Con.mk 0 1 0 (Range.mk 1 2 true true))].map Con.cs) false, .sl (.buf (b5 + 1) 1 4) 25 4 ([ZH].map Form.cs) false]) rfl ?_ ?_
   ·refine .split rfl rfl ?_ ?_ <;> intro hc3
    ·replace h := Z9 hc3 hj1
     refine .wanted rfl rfl (.ZP (off := 0) (cs := [(vi 2), (.buf (b5 + 1) 1 4), (.buf (b5 + 4) 1 7)]) H 0 rfl rfl rfl rfl rfl rfl rfl nofun rfl (.wanted rfl rfl ?_))
     obtain ⟨x5, q5, h⟩ := bind_some h
     refine .Z32 (xs := [(.agg [(vi 2), (.buf (b5 + 1) 1 4), (.buf (b5 + 4) 1 7)])]) (ys := [(.agg (vs (Net.cs (Net.mk 2 [ZH] [(Con.mk 0 1 0 (Range.mk 1 2 true true))]))))]) H rfl (.cons (.a (.cons (.v _) (.cons (.s 2 rfl) (.cons (.s 1 rfl) .nil)))) .nil) (tag_Right_fn q5) rfl rfl nofun rfl fun σ H => (.wanted rfl rfl (.int (m := x5) (m' := 0) (r := .bool (x5 == 0)) rfl rfl rfl rfl rfl (.Zg (v := (vb (x5 == 0))) rfl rfl rfl (.nil ?_))))
     replace h := sj h; subst h
     exact ⟨⟨rfl, rfl, rfl, rfl, rfl, rfl, trivial⟩, H.weak (by omega) (Nat.le_refl _)⟩
    ·replace h := Z6 hc3 hj1
     refine .pass rfl rfl rfl (.pass rfl rfl rfl (.pass rfl rfl rfl (.Zn (v := (vb false)) rfl rfl rfl (.nil ?_))))
     replace h := sj h; subst h
     exact ⟨⟨rfl, rfl, rfl, rfl, rfl, rfl, trivial⟩, H.weak (by omega) (Nat.le_refl _)⟩
   ·rintro e σ ⟨he, H⟩
    obtain ⟨e, rfl⟩ := he.ex
    refine .move (v := (vb y1)) rfl rfl ?_
    obtain ⟨y2, hj2, h⟩ := bind_some h
    refine .mid 4 (K1 := fun e σ => Z5 e [(58, (vb y2)), (7, (vl (cI .i64) x3.1)), (8, (vi x3.2)), (9, (vl (cI .i64) x4.1)), (10, (vi x4.2))] ∧ Has σ (b8 + 19) (b8 + 38) []) rfl ?_ ?_
    ·refine .split rfl rfl ?_ ?_ <;> intro hc4
     ·replace h := Z9 hc4 hj2
      refine .wanted rfl rfl (.ZP (off := 0) (cs := [(vi 2), (.buf (b5 + 1) 1 4), (.buf (b5 + 4) 1 7)]) H 0 rfl rfl rfl rfl rfl rfl rfl nofun rfl (.wanted rfl rfl (.Z3K (sz := 1) ([3, 9].map (cI .i64)) H (by omega) (by omega) rfl rfl rfl rfl rfl rfl rfl rfl rfl fun σ H => (.wanted rfl rfl ?_))))
      obtain ⟨x6, q6, h⟩ := bind_some h
      refine .Z32 (xs := [(.agg [(vi 2), (.buf (b5 + 1) 1 4), (.buf (b5 + 4) 1 7)]), (.buf (b8 + 16) 2 1)]) (ys := [(.agg (vs (Net.cs (Net.mk 2 [ZH] [(Con.mk 0 1 0 (Range.mk 1 2 true true))])))), (vl (cI .i64) [3, 9])]) H rfl (.cons (.a (.cons (.v _) (.cons (.s 3 rfl) (.cons (.s 2 rfl) .nil)))) (.cons (.c (.s 0 rfl)) .nil)) (tag_Holds_fn q6) rfl rfl nofun rfl fun σ H => (.Zg (v := (vb x6)) rfl rfl rfl (.nil ?_))
      replace h := sj h; subst h
      exact ⟨⟨rfl, rfl, rfl, rfl, rfl, trivial⟩, ((((H.erase 3).erase 2).erase 1).erase 0).weak (by omega) (Nat.le_refl _)⟩
     ·replace h := Z6 hc4 hj2
      refine .pass rfl rfl rfl (.pass rfl rfl rfl (.pass rfl rfl rfl (.Zn (v := (vb false)) rfl rfl rfl (.nil ?_))))
      replace h := sj h; subst h
      exact ⟨⟨rfl, rfl, rfl, rfl, rfl, trivial⟩, (((H.erase 2).erase 1).erase 0).weak (by omega) (Nat.le_refl _)⟩
    ·rintro e σ ⟨he, H⟩
     obtain ⟨e, rfl⟩ := he.ex
     refine .move (v := (vb y2)) rfl rfl ?_
     refine .mid 3 (K1 := fun e σ => Z5 e [(62, (vb (y2 && (x3.2 == 0)))), (7, (vl (cI .i64) x3.1)), (9, (vl (cI .i64) x4.1)), (10, (vi x4.2))] ∧ Has σ (b8 + 23) (b8 + 38) []) rfl ?_ ?_
     ·refine .split rfl rfl ?_ ?_ <;> intro hc5
      ·skip
       refine .wanted rfl rfl (.move (v := (vi x3.2)) rfl rfl (.wanted rfl rfl (.int (m := x3.2) (m' := 0) (r := .bool (x3.2 == 0)) rfl rfl rfl rfl rfl (.Zg (v := (vb (x3.2 == 0))) rfl rfl rfl (.nil ?_)))))
       exact ⟨⟨Z1f hc5, rfl, rfl, rfl, trivial⟩, H.weak (by omega) (Nat.le_refl _)⟩
      ·skip
       refine .pass rfl rfl rfl (.pass rfl rfl rfl (.Zn (v := (vb false)) rfl rfl rfl (.nil ?_)))
       exact ⟨⟨Z1e hc5, rfl, rfl, rfl, trivial⟩, H.weak (by omega) (Nat.le_refl _)⟩
     ·rintro e σ ⟨he, H⟩
      obtain ⟨e, rfl⟩ := he.ex
      refine .move (v := (vb (y2 && (x3.2 == 0)))) rfl rfl ?_
      obtain ⟨y3, hj3, h⟩ := bind_some h
      refine .mid 4 (K1 := fun e σ => Z5 e [(67, (vb y3)), (9, (vl (cI .i64) x4.1)), (10, (vi x4.2))] ∧ Has σ (b8 + 28) (b8 + 38) []) rfl ?_ ?_
      ·refine .split rfl rfl ?_ ?_ <;> intro hc6
       ·replace h := Z9 hc6 hj3
        refine .wanted rfl rfl (.move (v := (vl (cI .i64) x3.1)) rfl rfl (.wanted rfl rfl (.Z3K (sz := 1) ([0].map (cI .i64)) H (by omega) (by omega) rfl rfl rfl rfl rfl rfl rfl rfl rfl fun σ H => (.wanted rfl rfl ?_))))
        obtain ⟨x7, q7, h⟩ := bind_some h
        refine .Z32 (xs := [(vl (cI .i64) x3.1), (.buf (b8 + 25) 1 1)]) (ys := [(vl (cI .i64) x3.1), (vl (cI .i64) [0])]) H rfl (.cons (.c (.v _)) (.cons (.c (.s 0 rfl)) .nil)) (Z4X q7) rfl rfl nofun rfl fun σ H => (.Zg (v := (vb x7)) rfl rfl rfl (.nil ?_))
        replace h := sj h; subst h
        exact ⟨⟨rfl, rfl, rfl, trivial⟩, (H.erase 0).weak (by omega) (Nat.le_refl _)⟩
       ·replace h := Z6 hc6 hj3
        refine .pass rfl rfl rfl (.pass rfl rfl rfl (.pass rfl rfl rfl (.Zn (v := (vb false)) rfl rfl rfl (.nil ?_))))
        replace h := sj h; subst h
        exact ⟨⟨rfl, rfl, rfl, trivial⟩, H.weak (by omega) (Nat.le_refl _)⟩
      ·rintro e σ ⟨he, H⟩
       obtain ⟨e, rfl⟩ := he.ex
       refine .move (v := (vb y3)) rfl rfl ?_
       refine .mid 3 (K1 := fun e σ => Z5 e [(71, (vb (y3 && (x4.2 == 0)))), (9, (vl (cI .i64) x4.1))] ∧ Has σ (b8 + 32) (b8 + 38) []) rfl ?_ ?_
       ·refine .split rfl rfl ?_ ?_ <;> intro hc7
        ·skip
         refine .wanted rfl rfl (.move (v := (vi x4.2)) rfl rfl (.wanted rfl rfl (.int (m := x4.2) (m' := 0) (r := .bool (x4.2 == 0)) rfl rfl rfl rfl rfl (.Zg (v := (vb (x4.2 == 0))) rfl rfl rfl (.nil ?_)))))
         exact ⟨⟨Z1f hc7, rfl, trivial⟩, H.weak (by omega) (Nat.le_refl _)⟩
        ·skip
         refine .pass rfl rfl rfl (.pass rfl rfl rfl (.Zn (v := (vb false)) rfl rfl rfl (.nil ?_)))
         exact ⟨⟨Z1e hc7, rfl, trivial⟩, H.weak (by omega) (Nat.le_refl _)⟩
       ·rintro e σ ⟨he, H⟩
        obtain ⟨e, rfl⟩ := he.ex
        refine .move (v := (vb (y3 && (x4.2 == 0)))) rfl rfl ?_
        obtain ⟨y4, hj4, h⟩ := bind_some h
        refine .mid 4 (K1 := fun e σ => Z5 e [(76, (vb y4))] ∧ Has σ (b8 + 37) (b8 + 38) []) rfl ?_ ?_
        ·refine .split rfl rfl ?_ ?_ <;> intro hc8
         ·replace h := Z9 hc8 hj4
          refine .wanted rfl rfl (.move (v := (vl (cI .i64) x4.1)) rfl rfl (.wanted rfl rfl (.Z3K (sz := 1) ([0].map (cI .i64)) H (by omega) (by omega) rfl rfl rfl rfl rfl rfl rfl rfl rfl fun σ H => (.wanted rfl rfl ?_))))
          obtain ⟨x8, q8, h⟩ := bind_some h
          refine .Z32 (xs := [(vl (cI .i64) x4.1), (.buf (b8 + 34) 1 1)]) (ys := [(vl (cI .i64) x4.1), (vl (cI .i64) [0])]) H rfl (.cons (.c (.v _)) (.cons (.c (.s 0 rfl)) .nil)) (Z4X q8) rfl rfl nofun rfl fun σ H => (.Zg (v := (vb x8)) rfl rfl rfl (.nil ?_))
          replace h := sj h; subst h
          exact ⟨⟨rfl, trivial⟩, (H.erase 0).weak (by omega) (Nat.le_refl _)⟩
         ·replace h := Z6 hc8 hj4
          refine .pass rfl rfl rfl (.pass rfl rfl rfl (.pass rfl rfl rfl (.Zn (v := (vb false)) rfl rfl rfl (.nil ?_))))
          replace h := sj h; subst h
          exact ⟨⟨rfl, trivial⟩, H.weak (by omega) (Nat.le_refl _)⟩
        ·rintro e σ ⟨he, H⟩
         obtain ⟨e, rfl⟩ := he.ex
         refine .assign (v := (vb y4)) rfl rfl (.nila H fun H => (.ret ?_))
         replace h := sj h; subst h
         exact (Ends.H (xs := [(vb y4)]) (.inr rfl) H (.tmp (v := (vb y4)) rfl .nil) (.one (.c (.v _))))

theorem Z2Q {r : Bool} (h : ZM = r) : Fn CX 8 [] (vb r) := by
 subst h
 exact Z6A Z5b

theorem Z11 {n : Net} {c : Con} {ticks : (List Int)} {r : Bool} (h : Z0w n c ticks = some r) : Fn CX 15 [(.agg (vs (Net.cs n))), (.agg (vs (Con.cs c))), (vl (cI .i64) ticks)] (vb r) := by
 refine Fn.ends Try.func15 rfl rfl rfl rfl rfl rfl ?_
 have H : Hs (⟨0, fun _ => .none⟩ : Heap) [] := Has.nil (Nat.le_refl _)
 generalize (⟨0, fun _ => .none⟩ : Heap) = σ at H ⊢
 unfold Z0w at h
 refine .then (.Z0 3 rfl H fun b1 σ H => (.boxH (cs := [(vi n.Vars), (vl Form.cs n.Forms), (vl Con.cs n.Cons)]) H (by omega) (by omega) rfl rfl rfl fun σ H => (.boxH (cs := [(vi c.X), (vi c.Y), (vi c.Form), (vi c.Range.Low), (vi c.Range.High), (vb c.Range.HasLow), (vb c.Range.HasHigh)]) H (by omega) (by omega) rfl rfl rfl fun σ H => (.assign (v := (vb false)) rfl rfl (.nila H fun H => ?_)))))
 refine .then (.Z0 10 rfl H fun b2 σ H => (.ZP (off := 0) (cs := [(vi n.Vars), (vl Form.cs n.Forms), (vl Con.cs n.Cons)]) H 1 rfl rfl rfl rfl rfl rfl rfl nofun rfl (.move (v := (vl (cI .i64) ticks)) rfl rfl ?_)))
 obtain ⟨x1, q1, h⟩ := bind_some h
 refine .call (ys := [(.agg [(vi n.Vars), (vl Form.cs n.Forms), (vl Con.cs n.Cons)]), (vl (cI .i64) ticks)]) (r := (vb x1)) rfl (Z6r q1) rfl (.move (v := (vb x1)) rfl rfl ?_)
 obtain ⟨y1, hj1, h⟩ := bind_some h
 refine .mid 5 (K1 := fun e σ => Z5 e [(15, (vb y1))] ∧ Has σ (b2 + 9) (b2 + 10) []) rfl ?_ ?_
 ·refine .split rfl rfl ?_ ?_ <;> intro hc1
  ·replace h := Z9 hc1 hj1
   refine .wanted rfl rfl (.ZP (off := 0) (cs := [(vi n.Vars), (vl Form.cs n.Forms), (vl Con.cs n.Cons)]) H 1 rfl rfl rfl rfl rfl rfl rfl nofun rfl (.wanted rfl rfl (.ZP (off := 0) (cs := [(vi c.X), (vi c.Y), (vi c.Form), (vi c.Range.Low), (vi c.Range.High), (vb c.Range.HasLow), (vb c.Range.HasHigh)]) H 0 rfl rfl rfl rfl rfl rfl rfl nofun rfl (.wanted rfl rfl (.move (v := (vl (cI .i64) ticks)) rfl rfl ?_)))))
   refine .wanted rfl rfl ?_
   obtain ⟨x2, q2, h⟩ := bind_some h
   refine .call (ys := [(.agg [(vi n.Vars), (vl Form.cs n.Forms), (vl Con.cs n.Cons)]), (.agg [(vi c.X), (vi c.Y), (vi c.Form), (vi c.Range.Low), (vi c.Range.High), (vb c.Range.HasLow), (vb c.Range.HasHigh)]), (vl (cI .i64) ticks)]) (r := (vb x2)) rfl (Z9Q q2) rfl (.Zg (v := (vb x2)) rfl rfl rfl (.nil ?_))
   replace h := sj h; subst h
   exact ⟨⟨rfl, trivial⟩, ((H.erase 1).erase 0).weak (by omega) (Nat.le_refl _)⟩
  ·replace h := Z6 hc1 hj1
   refine .pass rfl rfl rfl (.pass rfl rfl rfl (.pass rfl rfl rfl (.pass rfl rfl rfl (.Zn (v := (vb false)) rfl rfl rfl (.nil ?_)))))
   replace h := sj h; subst h
   exact ⟨⟨rfl, trivial⟩, ((H.erase 1).erase 0).weak (by omega) (Nat.le_refl _)⟩
 ·rintro e σ ⟨he, H⟩
  obtain ⟨e, rfl⟩ := he.ex
  refine .assign (v := (vb y1)) rfl rfl (.nila H fun H => (.ret ?_))
  replace h := sj h; subst h
  exact (Ends.H (xs := [(vb y1)]) (.inr rfl) H (.tmp (v := (vb y1)) rfl .nil) (.one (.c (.v _))))

theorem Z58 {f : Form} {a : Int} {b : Int} {r' : Range} {r : Bool} (h : Z1I f a b r' = some r) : Fn CX 5 [(.agg (vs (Form.cs f))), (vi a), (vi b), (.agg (vs (Range.cs r')))] (vb r) := by
 refine Fn.ends Try.func5 rfl rfl rfl rfl rfl rfl ?_
 have H : Hs (⟨0, fun _ => .none⟩ : Heap) [] := Has.nil (Nat.le_refl _)
 generalize (⟨0, fun _ => .none⟩ : Heap) = σ at H ⊢
 unfold Z1I at h
 refine .then (.Z0 3 rfl H fun b1 σ H => (.boxH (cs := (vF f)) H (by omega) (by omega) rfl rfl rfl fun σ H => (.boxH (cs := [(vi r'.Low), (vi r'.High), (vb r'.HasLow), (vb r'.HasHigh)]) H (by omega) (by omega) rfl rfl rfl fun σ H => (.assign (v := (vb false)) rfl rfl (.nila H fun H => ?_)))))
 refine .then (.Z0 6 rfl H fun b2 σ H => (.move (v := (vi a)) rfl rfl (.rem (m := a) (m' := 1099511627776) rfl rfl (by decide) rfl (.move (v := (vi b)) rfl rfl (.rem (m := b) (m' := 1099511627776) rfl rfl (by decide) rfl ?_)))))
 refine .assign (v := (vi (a.tmod 1099511627776))) rfl rfl (.assign (v := (vi (b.tmod 1099511627776))) rfl rfl (.nila H fun H => (.then (.then (.Z0 8 rfl H fun b3 σ H => ?_)))))
 refine .ZP (off := 0) (cs := (vF f)) H 1 rfl rfl rfl rfl rfl rfl rfl nofun rfl ?_
 obtain ⟨x1, q1, h⟩ := bind_some h
 refine .call (ys := [(.agg (vF f))]) (r := (vb x1)) rfl (Z6Q q1) rfl (.not (b := x1) rfl rfl (.move (v := (vb (!x1))) rfl rfl ?_))
 obtain ⟨y1, hj1, h⟩ := bind_some h
 refine .mid 4 (K1 := fun e σ => Z5 e [(33, (vb y1)), (4, (.ptr (b1 + 0) 4 0)), (7, (.ptr (b1 + 1) 4 0)), (9, (vi (a.tmod 1099511627776))), (10, (vi (b.tmod 1099511627776)))] ∧ Has σ (b3 + 8) (b3 + 8) [.blk (b1 + 1) 45 [(vi r'.Low), (vi r'.High), (vb r'.HasLow), (vb r'.HasHigh)], .blk (b1 + 0) 25 (vF f)]) rfl ?_ ?_
 ·refine .split rfl rfl ?_ ?_ <;> intro hc1
  ·replace h := Z9 hc1 hj1
   refine .pass rfl rfl rfl (.pass rfl rfl rfl (.pass rfl rfl rfl (.Zg (v := (vb true)) rfl rfl rfl (.nil ?_))))
   replace h := sj h; subst h
   exact ⟨⟨rfl, rfl, rfl, rfl, rfl, trivial⟩, H.weak (by omega) (Nat.le_refl _)⟩
  ·replace h := Z6 hc1 hj1
   refine .wanted rfl rfl (.ZP (off := 0) (cs := (vF f)) H 1 rfl rfl rfl rfl rfl rfl rfl nofun rfl (.wanted rfl rfl ?_))
   obtain ⟨x2, q2, h⟩ := bind_some h
   refine .call (ys := [(.agg (vF f))]) (r := (vi x2)) rfl (Z6V q2) rfl (.wanted rfl rfl (.int (m := x2) (m' := 0) (r := .bool (x2 != 0)) rfl rfl rfl rfl rfl (.Zn (v := (vb (x2 != 0))) rfl rfl rfl (.nil ?_))))
   replace h := sj h; subst h
   exact ⟨⟨rfl, rfl, rfl, rfl, rfl, trivial⟩, H.weak (by omega) (Nat.le_refl _)⟩
 ·rintro e σ ⟨he, H⟩
  obtain ⟨e, rfl⟩ := he.ex
  refine .nila H fun H => ?_
  refine .whether (v := y1) rfl ?_ ?_ <;> intro hc2
  ·replace h := Z9 hc2 h
   refine .then (.Z0 2 rfl H fun b4 σ H => (.call (ys := []) (r := (vb ZM)) rfl (Z2Q rfl) rfl (.assign (v := (vb ZM)) rfl rfl (.nila H fun H => (.ret ?_)))))
   replace h := sj h; subst h
   exact (Ends.H (xs := [(vb ZM)]) (.inr rfl) H (.tmp (v := (vb ZM)) rfl .nil) (.one (.c (.v _))))
  ·replace h := Z6 hc2 h
   refine .skip (.then (.Z0 5 rfl H fun b5 σ H => (.ZP (off := 0) (cs := (vF f)) H 1 rfl rfl rfl rfl rfl rfl rfl nofun rfl (.Z3K (sz := 4) ([f].map Form.cs) H (by omega) (by omega) rfl rfl rfl rfl rfl rfl rfl rfl rfl fun σ H => (.Z0q (cs := [(vi 2), (.buf (b5 + 1) 1 4), .nils]) rfl rfl ?_)))))
   refine .Z0p (cs := [(vi 0), .nils, .nils]) H (by omega) (by omega) rfl rfl fun σ H => (.Z0e (off := 0) (cells' := [(vi 2), (.buf (b5 + 1) 1 4), .nils]) H 0 rfl rfl rfl rfl rfl rfl rfl rfl rfl nofun fun σ H => (.nila H fun H => (.then (.Z0 5 rfl H fun b6 σ H => (.move (v := (vi (a.tmod 1099511627776))) rfl rfl ?_)))))
   refine .move (v := (vi (b.tmod 1099511627776))) rfl rfl (.Z3K (sz := 1) ([(a.tmod 1099511627776), (b.tmod 1099511627776)].map (cI .i64)) H (by omega) (by omega) rfl rfl rfl rfl rfl rfl rfl rfl rfl fun σ H => (.Z0p (cs := [.nils]) H (by omega) (by omega) rfl rfl fun σ H => (.Z0e (off := 0) (cells' := [(.buf (b6 + 2) 2 1)]) H 0 rfl rfl rfl rfl rfl rfl rfl rfl rfl nofun fun σ H => (.nila H fun H => (.then ?_)))))
   refine .Z0 2 rfl H fun b7 σ H => (.makeClo (fs := []) (cs := [(.ptr (b5 + 3) 3 0), (.ptr (b6 + 3) 1 0)]) rfl rfl rfl rfl (.assign (v := (.clo 14 [] [(.ptr (b5 + 3) 3 0), (.ptr (b6 + 3) 1 0)])) rfl rfl (.nila H fun H => (.then (.Z0 9 rfl H fun b8 σ H => ?_)))))
   refine .ZP (off := 0) (cs := (vF f)) H 5 rfl rfl rfl rfl rfl rfl rfl nofun rfl (.move (v := (vi (a.tmod 1099511627776))) rfl rfl (.move (v := (vi (b.tmod 1099511627776))) rfl rfl ?_))
   obtain ⟨x3, q3, h⟩ := bind_some h
   refine .call (ys := [(.agg (vF f)), (vi (a.tmod 1099511627776)), (vi (b.tmod 1099511627776))]) (r := (.tup [(vi x3.1), (vb x3.2)])) rfl (Z2d q3) rfl (.move (v := (.tup [(vi x3.1), (vb x3.2)])) rfl rfl (.extract (v := (vi x3.1)) rfl rfl rfl (.extract (v := (vb x3.2)) rfl rfl rfl (.assign (v := (vi x3.1)) rfl rfl (.assign (v := (vb x3.2)) rfl rfl ?_)))))
   refine .nila H fun H => (.then (.then (.Z0 5 rfl H fun b9 σ H => (.move (v := (.clo 14 [] [(.ptr (b5 + 3) 3 0), (.ptr (b6 + 3) 1 0)])) rfl rfl (.Z0q (cs := [(vi 0), (vi 0), (vb false), (vb false)]) rfl rfl ?_)))))
   obtain ⟨y2, hj2, h⟩ := bind_some h
   refine .callI (PostA := fun r A => r = (vb y2) ∧ A = [.blk (b6 + 3) 37 [(.buf (b6 + 2) 2 1)], .sl (.buf (b6 + 2) 2 1) 3 1 ([(a.tmod 1099511627776), (b.tmod 1099511627776)].map (cI .i64)) false, .blk (b5 + 3) 36 [(vi 2), (.buf (b5 + 1) 1 4), .nils], .sl (.buf (b5 + 1) 1 4) 25 4 ([f].map Form.cs) false, .blk (b1 + 1) 45 [(vi r'.Low), (vi r'.High), (vb r'.HasLow), (vb r'.HasHigh)], .blk (b1 + 0) 25 (vF f)]) (cv := (.clo 14 [] [(.ptr (b5 + 3) 3 0), (.ptr (b6 + 3) 1 0)])) (ys := [(.agg [(vi 0), (vi 0), (vb false), (vb false)])]) (L := []) [.blk (b6 + 3) 37 [(.buf (b6 + 2) 2 1)], .sl (.buf (b6 + 2) 2 1) 3 1 ([(a.tmod 1099511627776), (b.tmod 1099511627776)].map (cI .i64)) true, .blk (b5 + 3) 36 [(vi 2), (.buf (b5 + 1) 1 4), .nils], .sl (.buf (b5 + 1) 1 4) 25 4 ([f].map Form.cs) true, .blk (b1 + 1) 45 [(vi r'.Low), (vi r'.High), (vb r'.HasLow), (vb r'.HasHigh)], .blk (b1 + 0) 25 (vF f)] H rfl rfl (fun T1 hT H => Z35 Try.func14 rfl (fun _ => rfl) rfl rfl rfl rfl ?_) nofun rfl ?_
   ·replace h := hj2
    refine .then (.Z0 2 rfl H fun b10 σ H => (.boxH (cs := [(vi 0), (vi 0), (vb false), (vb false)]) H (by omega) (by omega) rfl rfl rfl fun σ H => (.assign (v := (vb false)) rfl rfl (.nila H fun H => (.then ?_)))))
    refine .Z0 6 rfl H fun b11 σ H => (.ZP (off := 0) (cs := [(vi 2), (.buf (b5 + 1) 1 4), .nils]) H 3 rfl rfl rfl rfl rfl rfl rfl nofun rfl (.ZP (off := 0) (cs := [(vi 0), (vi 0), (vb false), (vb false)]) H 0 rfl rfl rfl rfl rfl rfl rfl nofun rfl (.Z0q (cs := [(vi 0), (vi 1), (vi 0), (vi 0), (vi 0), (vb false), (vb false)]) rfl rfl (.ZR (off := 0) (v := (.buf (b6 + 2) 2 1)) H 1 rfl rfl rfl rfl rfl nofun rfl ?_))))
    obtain ⟨x4, q4, h⟩ := bind_some h
    refine .Z32 (xs := [(.agg [(vi 2), (.buf (b5 + 1) 1 4), .nils]), (.agg [(vi 0), (vi 1), (vi 0), (vi 0), (vi 0), (vb false), (vb false)]), (.buf (b6 + 2) 2 1)]) (ys := [(.agg (vs (Net.cs (Net.mk 2 [f] [])))), (.agg (vs (Con.cs (Con.mk 0 1 0 (Range.mk 0 0 false false))))), (vl (cI .i64) [(a.tmod 1099511627776), (b.tmod 1099511627776)])]) H rfl (.cons (.a (.cons (.v _) (.cons (.s 4 rfl) (.cons (.n) .nil)))) (.cons (.p rfl) (.cons (.c (.s 2 rfl)) .nil))) (Z11 q4) rfl rfl nofun rfl fun σ H => (.assign (v := (vb x4)) rfl rfl (.nila H fun H => (.ret ?_)))
    replace h := sj h; subst h
    exact ⟨.inr rfl, _, Z2Z H (.tmp (v := (vb x4)) rfl .nil), _, ⟨rfl, rfl⟩, (H.erase 0)⟩
   ·rintro _ _ σ ⟨rfl, rfl⟩ H
    refine .move (v := (vb x3.2)) rfl rfl (.neB (b := y2) (b' := x3.2) rfl rfl rfl rfl (.nila H fun H => ?_))
    refine .whether (v := (y2 != x3.2)) rfl ?_ ?_ <;> intro hc3
    ·replace h := Z9 hc3 h
     refine .then (.Z0 1 rfl H fun b12 σ H => (.assign (v := (vb false)) rfl rfl (.nila H fun H => (.ret ?_))))
     replace h := sj h; subst h
     exact (Ends.H (xs := [(vb false)]) (.inr rfl) H (.tmp (v := (vb false)) rfl .nil) (.one (.c (.v _))))
    ·replace h := Z6 hc3 h
     refine .skip (.then (.Z3n 10 rfl (by kernel_rfl) H fun b13 σ H B13 => (.Z2 (off := 0) (fo := 0) H 4 rfl rfl rfl rfl rfl (fun _ => .inl ⟨B13 4 _ rfl _ rfl, nofun, (fun _ => by kernel_rfl)⟩) rfl (.ZR (off := 0) (v := (vi r'.Low)) H 4 rfl rfl rfl rfl rfl (fun _ => .inl ⟨B13 4 _ rfl _ rfl, nofun, (fun _ => by kernel_rfl)⟩) rfl (.Z0q (cs := [(vi r'.Low), (vi 0), (vb true), (vb false)]) rfl rfl ?_)))))
     refine .Z2 (off := 0) (fo := 1) H 4 rfl rfl rfl rfl rfl (fun _ => .inl ⟨B13 4 _ rfl _ rfl, nofun, (fun _ => by kernel_rfl)⟩) rfl (.loadHR (off := 1) (v := (vi r'.High)) H 4 rfl rfl rfl rfl rfl (fun _ => ⟨B13 4 _ rfl _ rfl, _, rfl, mem_one⟩) rfl (.Z0q (cs := [(vi 0), (vi r'.High), (vb false), (vb true)]) rfl rfl (.Z0p (cs := [(vi 0), (vi 0), (vb false), (vb false)]) H (by omega) (by omega) rfl rfl fun σ H => (.Z0p (cs := [(vi 0), (vi 0), (vb false), (vb false)]) H (by omega) (by omega) rfl rfl fun σ H => (.Z0e (off := 0) (cells' := [(vi r'.Low), (vi 0), (vb true), (vb false)]) H 1 rfl rfl rfl rfl rfl rfl rfl rfl rfl (fun _ => .inr ⟨6, rfl, by kernel_rfl, by decide⟩) fun σ H => ?_)))))
     refine .Z0e (off := 0) (cells' := [(vi 0), (vi r'.High), (vb false), (vb true)]) H 0 rfl rfl rfl rfl rfl rfl rfl rfl rfl (fun _ => .inr ⟨7, rfl, by kernel_rfl, by decide⟩) fun σ H => (.nila H fun H => (.then (.Z0 7 rfl H fun b14 σ H => (.Z2 (off := 0) (fo := 0) H 6 rfl rfl rfl rfl rfl nofun rfl (.ZR (off := 0) (v := (vi r'.Low)) H 6 rfl rfl rfl rfl rfl nofun rfl ?_)))))
     refine .Z2 (off := 0) (fo := 1) H 6 rfl rfl rfl rfl rfl nofun rfl (.ZR (off := 1) (v := (vi r'.High)) H 6 rfl rfl rfl rfl rfl nofun rfl (.Z0q (cs := [(vi r'.Low), (vi r'.High), (vb true), (vb true)]) rfl rfl (.Z0p (cs := [(vi 0), (vi 0), (vb false), (vb false)]) H (by omega) (by omega) rfl rfl fun σ H => (.Z0e (off := 0) (cells' := [(vi r'.Low), (vi r'.High), (vb true), (vb true)]) H 0 rfl rfl rfl rfl rfl rfl rfl rfl rfl nofun fun σ H => (.nila H fun H => ?_)))))
     refine .then (.then (.Z3n 26 rfl (by kernel_rfl) H fun b15 σ H B15 => (.move (v := (.clo 14 [] [(.ptr (b5 + 3) 3 0), (.ptr (b6 + 3) 1 0)])) rfl rfl (.ZP (off := 0) (cs := [(vi r'.Low), (vi 0), (vb true), (vb false)]) H 2 rfl rfl rfl rfl rfl rfl rfl (fun _ => .inl ⟨B15 2 _ rfl _ rfl, nofun, (fun _ => by kernel_rfl)⟩) rfl ?_))))
     obtain ⟨y3, hj3, h⟩ := bind_some h
     refine .callI (PostA := fun r A => r = (vb y3) ∧ A = [.blk (b14 + 5) 45 [(vi r'.Low), (vi r'.High), (vb true), (vb true)], .blk (b13 + 7) 45 [(vi 0), (vi r'.High), (vb false), (vb true)], .blk (b13 + 6) 45 [(vi r'.Low), (vi 0), (vb true), (vb false)], .blk (b6 + 3) 37 [(.buf (b6 + 2) 2 1)], .sl (.buf (b6 + 2) 2 1) 3 1 ([(a.tmod 1099511627776), (b.tmod 1099511627776)].map (cI .i64)) false, .blk (b5 + 3) 36 [(vi 2), (.buf (b5 + 1) 1 4), .nils], .sl (.buf (b5 + 1) 1 4) 25 4 ([f].map Form.cs) false, .blk (b1 + 1) 45 [(vi r'.Low), (vi r'.High), (vb r'.HasLow), (vb r'.HasHigh)], .blk (b1 + 0) 25 (vF f)]) (cv := (.clo 14 [] [(.ptr (b5 + 3) 3 0), (.ptr (b6 + 3) 1 0)])) (ys := [(.agg [(vi r'.Low), (vi 0), (vb true), (vb false)])]) (L := []) [.blk (b14 + 5) 45 [(vi r'.Low), (vi r'.High), (vb true), (vb true)], .blk (b13 + 7) 45 [(vi 0), (vi r'.High), (vb false), (vb true)], .blk (b13 + 6) 45 [(vi r'.Low), (vi 0), (vb true), (vb false)], .blk (b6 + 3) 37 [(.buf (b6 + 2) 2 1)], .sl (.buf (b6 + 2) 2 1) 3 1 ([(a.tmod 1099511627776), (b.tmod 1099511627776)].map (cI .i64)) false, .blk (b5 + 3) 36 [(vi 2), (.buf (b5 + 1) 1 4), .nils], .sl (.buf (b5 + 1) 1 4) 25 4 ([f].map Form.cs) false, .blk (b1 + 1) 45 [(vi r'.Low), (vi r'.High), (vb r'.HasLow), (vb r'.HasHigh)], .blk (b1 + 0) 25 (vF f)] H rfl rfl (fun T2 hT H => Z35 Try.func14 rfl (fun _ => rfl) rfl rfl rfl rfl ?_) (fun _ => by kernel_rfl) rfl ?_
     ·replace h := hj3
      refine .then (.Z0 2 rfl H fun b16 σ H => (.boxH (cs := [(vi r'.Low), (vi 0), (vb true), (vb false)]) H (by omega) (by omega) rfl rfl rfl fun σ H => (.assign (v := (vb false)) rfl rfl (.nila H fun H => (.then ?_)))))
      refine .Z0 6 rfl H fun b17 σ H => (.ZP (off := 0) (cs := [(vi 2), (.buf (b5 + 1) 1 4), .nils]) H 6 rfl rfl rfl rfl rfl rfl rfl nofun rfl (.ZP (off := 0) (cs := [(vi r'.Low), (vi 0), (vb true), (vb false)]) H 0 rfl rfl rfl rfl rfl rfl rfl nofun rfl (.Z0q (cs := [(vi 0), (vi 1), (vi 0), (vi r'.Low), (vi 0), (vb true), (vb false)]) rfl rfl (.ZR (off := 0) (v := (.buf (b6 + 2) 2 1)) H 4 rfl rfl rfl rfl rfl nofun rfl ?_))))
      obtain ⟨x5, q5, h⟩ := bind_some h
      refine .Z32 (xs := [(.agg [(vi 2), (.buf (b5 + 1) 1 4), .nils]), (.agg [(vi 0), (vi 1), (vi 0), (vi r'.Low), (vi 0), (vb true), (vb false)]), (.buf (b6 + 2) 2 1)]) (ys := [(.agg (vs (Net.cs (Net.mk 2 [f] [])))), (.agg (vs (Con.cs (Con.mk 0 1 0 (Range.mk r'.Low 0 true false))))), (vl (cI .i64) [(a.tmod 1099511627776), (b.tmod 1099511627776)])]) H rfl (.cons (.a (.cons (.v _) (.cons (.s 7 rfl) (.cons (.n) .nil)))) (.cons (.p rfl) (.cons (.c (.s 5 rfl)) .nil))) (Z11 q5) rfl rfl nofun rfl fun σ H => (.assign (v := (vb x5)) rfl rfl (.nila H fun H => (.ret ?_)))
      replace h := sj h; subst h
      exact ⟨.inr rfl, _, Z2Z H (.tmp (v := (vb x5)) rfl .nil), _, ⟨rfl, rfl⟩, (H.erase 0)⟩
     ·rintro _ _ σ ⟨rfl, rfl⟩ H
      refine .move (v := (vb y3)) rfl rfl ?_
      obtain ⟨y4, hj4, h⟩ := bind_some h
      refine .mid 4 (K1 := fun e σ => Z5 e [(72, (vb y4)), (13, (.clo 14 [] [(.ptr (b5 + 3) 3 0), (.ptr (b6 + 3) 1 0)])), (14, (vi x3.1)), (15, (vb x3.2)), (16, (.ptr (b13 + 6) 4 0)), (17, (.ptr (b13 + 7) 4 0)), (18, (.ptr (b14 + 5) 4 0))] ∧ Has σ (b15 + 8) (b15 + 26) [.blk (b14 + 5) 45 [(vi r'.Low), (vi r'.High), (vb true), (vb true)], .blk (b13 + 7) 45 [(vi 0), (vi r'.High), (vb false), (vb true)], .blk (b13 + 6) 45 [(vi r'.Low), (vi 0), (vb true), (vb false)], .blk (b6 + 3) 37 [(.buf (b6 + 2) 2 1)], .sl (.buf (b6 + 2) 2 1) 3 1 ([(a.tmod 1099511627776), (b.tmod 1099511627776)].map (cI .i64)) false, .blk (b5 + 3) 36 [(vi 2), (.buf (b5 + 1) 1 4), .nils], .sl (.buf (b5 + 1) 1 4) 25 4 ([f].map Form.cs) false]) rfl ?_ ?_
      ·refine .split rfl rfl ?_ ?_ <;> intro hc4
       ·replace h := Z9 hc4 hj4
        refine .pass rfl rfl rfl (.pass rfl rfl rfl (.pass rfl rfl rfl (.Zg (v := (vb true)) rfl rfl rfl (.nil ?_))))
        replace h := sj h; subst h
        exact ⟨⟨rfl, rfl, rfl, rfl, rfl, rfl, rfl, trivial⟩, ((H.erase 8).erase 7).weak (by omega) (Nat.le_refl _)⟩
       ·replace h := Z6 hc4 hj4
        refine .wanted rfl rfl (.move (v := (.clo 14 [] [(.ptr (b5 + 3) 3 0), (.ptr (b6 + 3) 1 0)])) rfl rfl (.wanted rfl rfl (.ZP (off := 0) (cs := [(vi 0), (vi r'.High), (vb false), (vb true)]) H 1 rfl rfl rfl rfl rfl rfl rfl (fun _ => .inl ⟨B15 1 _ rfl _ rfl, nofun, (fun _ => by kernel_rfl)⟩) rfl (.wanted rfl rfl ?_))))
        obtain ⟨y5, hj5, h⟩ := bind_some h
        refine .callI (PostA := fun r A => r = (vb y5) ∧ A = [.blk (b14 + 5) 45 [(vi r'.Low), (vi r'.High), (vb true), (vb true)], .blk (b13 + 7) 45 [(vi 0), (vi r'.High), (vb false), (vb true)], .blk (b13 + 6) 45 [(vi r'.Low), (vi 0), (vb true), (vb false)], .blk (b6 + 3) 37 [(.buf (b6 + 2) 2 1)], .sl (.buf (b6 + 2) 2 1) 3 1 ([(a.tmod 1099511627776), (b.tmod 1099511627776)].map (cI .i64)) false, .blk (b5 + 3) 36 [(vi 2), (.buf (b5 + 1) 1 4), .nils], .sl (.buf (b5 + 1) 1 4) 25 4 ([f].map Form.cs) false, .blk (b1 + 1) 45 [(vi r'.Low), (vi r'.High), (vb r'.HasLow), (vb r'.HasHigh)], .blk (b1 + 0) 25 (vF f)]) (cv := (.clo 14 [] [(.ptr (b5 + 3) 3 0), (.ptr (b6 + 3) 1 0)])) (ys := [(.agg [(vi 0), (vi r'.High), (vb false), (vb true)])]) (L := []) [.blk (b14 + 5) 45 [(vi r'.Low), (vi r'.High), (vb true), (vb true)], .blk (b13 + 7) 45 [(vi 0), (vi r'.High), (vb false), (vb true)], .blk (b13 + 6) 45 [(vi r'.Low), (vi 0), (vb true), (vb false)], .blk (b6 + 3) 37 [(.buf (b6 + 2) 2 1)], .sl (.buf (b6 + 2) 2 1) 3 1 ([(a.tmod 1099511627776), (b.tmod 1099511627776)].map (cI .i64)) false, .blk (b5 + 3) 36 [(vi 2), (.buf (b5 + 1) 1 4), .nils], .sl (.buf (b5 + 1) 1 4) 25 4 ([f].map Form.cs) false, .blk (b1 + 1) 45 [(vi r'.Low), (vi r'.High), (vb r'.HasLow), (vb r'.HasHigh)], .blk (b1 + 0) 25 (vF f)] H rfl rfl (fun T3 hT H => Z35 Try.func14 rfl (fun _ => rfl) rfl rfl rfl rfl ?_) (fun _ => by kernel_rfl) rfl ?_
        ·replace h := hj5
         refine .then (.Z0 2 rfl H fun b18 σ H => (.boxH (cs := [(vi 0), (vi r'.High), (vb false), (vb true)]) H (by omega) (by omega) rfl rfl rfl fun σ H => (.assign (v := (vb false)) rfl rfl (.nila H fun H => (.then ?_)))))
         refine .Z0 6 rfl H fun b19 σ H => (.ZP (off := 0) (cs := [(vi 2), (.buf (b5 + 1) 1 4), .nils]) H 6 rfl rfl rfl rfl rfl rfl rfl nofun rfl (.ZP (off := 0) (cs := [(vi 0), (vi r'.High), (vb false), (vb true)]) H 0 rfl rfl rfl rfl rfl rfl rfl nofun rfl (.Z0q (cs := [(vi 0), (vi 1), (vi 0), (vi 0), (vi r'.High), (vb false), (vb true)]) rfl rfl (.ZR (off := 0) (v := (.buf (b6 + 2) 2 1)) H 4 rfl rfl rfl rfl rfl nofun rfl ?_))))
         obtain ⟨x6, q6, h⟩ := bind_some h
         refine .Z32 (xs := [(.agg [(vi 2), (.buf (b5 + 1) 1 4), .nils]), (.agg [(vi 0), (vi 1), (vi 0), (vi 0), (vi r'.High), (vb false), (vb true)]), (.buf (b6 + 2) 2 1)]) (ys := [(.agg (vs (Net.cs (Net.mk 2 [f] [])))), (.agg (vs (Con.cs (Con.mk 0 1 0 (Range.mk 0 r'.High false true))))), (vl (cI .i64) [(a.tmod 1099511627776), (b.tmod 1099511627776)])]) H rfl (.cons (.a (.cons (.v _) (.cons (.s 7 rfl) (.cons (.n) .nil)))) (.cons (.p rfl) (.cons (.c (.s 5 rfl)) .nil))) (Z11 q6) rfl rfl nofun rfl fun σ H => (.assign (v := (vb x6)) rfl rfl (.nila H fun H => (.ret ?_)))
         replace h := sj h; subst h
         exact ⟨.inr rfl, _, Z2Z H (.tmp (v := (vb x6)) rfl .nil), _, ⟨rfl, rfl⟩, (H.erase 0)⟩
        ·rintro _ _ σ ⟨rfl, rfl⟩ H
         refine .Zn (v := (vb y5)) rfl rfl rfl (.nil ?_)
         replace h := sj h; subst h
         exact ⟨⟨rfl, rfl, rfl, rfl, rfl, rfl, rfl, trivial⟩, ((H.erase 8).erase 7).weak (by omega) (Nat.le_refl _)⟩
      ·rintro e σ ⟨he, H⟩
       obtain ⟨e, rfl⟩ := he.ex
       refine .move (v := (vb y4)) rfl rfl ?_
       refine .mid 3 (K1 := fun e σ => Z5 e [(76, (vb (y4 && (!x3.2)))), (13, (.clo 14 [] [(.ptr (b5 + 3) 3 0), (.ptr (b6 + 3) 1 0)])), (14, (vi x3.1)), (15, (vb x3.2)), (16, (.ptr (b13 + 6) 4 0)), (17, (.ptr (b13 + 7) 4 0)), (18, (.ptr (b14 + 5) 4 0))] ∧ Has σ (b15 + 12) (b15 + 26) [.blk (b14 + 5) 45 [(vi r'.Low), (vi r'.High), (vb true), (vb true)], .blk (b13 + 7) 45 [(vi 0), (vi r'.High), (vb false), (vb true)], .blk (b13 + 6) 45 [(vi r'.Low), (vi 0), (vb true), (vb false)], .blk (b6 + 3) 37 [(.buf (b6 + 2) 2 1)], .sl (.buf (b6 + 2) 2 1) 3 1 ([(a.tmod 1099511627776), (b.tmod 1099511627776)].map (cI .i64)) false, .blk (b5 + 3) 36 [(vi 2), (.buf (b5 + 1) 1 4), .nils], .sl (.buf (b5 + 1) 1 4) 25 4 ([f].map Form.cs) false]) rfl ?_ ?_
       ·refine .split rfl rfl ?_ ?_ <;> intro hc5
        ·skip
         refine .wanted rfl rfl (.move (v := (vb x3.2)) rfl rfl (.wanted rfl rfl (.not (b := x3.2) rfl rfl (.Zg (v := (vb (!x3.2))) rfl rfl rfl (.nil ?_)))))
         exact ⟨⟨Z1f hc5, rfl, rfl, rfl, rfl, rfl, rfl, trivial⟩, H.weak (by omega) (Nat.le_refl _)⟩
        ·skip
         refine .pass rfl rfl rfl (.pass rfl rfl rfl (.Zn (v := (vb false)) rfl rfl rfl (.nil ?_)))
         exact ⟨⟨Z1e hc5, rfl, rfl, rfl, rfl, rfl, rfl, trivial⟩, H.weak (by omega) (Nat.le_refl _)⟩
       ·rintro e σ ⟨he, H⟩
        obtain ⟨e, rfl⟩ := he.ex
        refine .move (v := (vb (y4 && (!x3.2)))) rfl rfl ?_
        obtain ⟨y6, hj6, h⟩ := bind_some h
        refine .mid 13 (K1 := fun e σ => Z5 e [(90, (vb y6)), (13, (.clo 14 [] [(.ptr (b5 + 3) 3 0), (.ptr (b6 + 3) 1 0)])), (14, (vi x3.1)), (15, (vb x3.2))] ∧ Has σ (b15 + 26) (b15 + 26) [.blk (b6 + 3) 37 [(.buf (b6 + 2) 2 1)], .sl (.buf (b6 + 2) 2 1) 3 1 ([(a.tmod 1099511627776), (b.tmod 1099511627776)].map (cI .i64)) false, .blk (b5 + 3) 36 [(vi 2), (.buf (b5 + 1) 1 4), .nils], .sl (.buf (b5 + 1) 1 4) 25 4 ([f].map Form.cs) false]) rfl ?_ ?_
        ·refine .split rfl rfl ?_ ?_ <;> intro hc6
         ·replace h := Z9 hc6 hj6
          refine .pass rfl rfl rfl (.pass rfl rfl rfl (.pass rfl rfl rfl (.pass rfl rfl rfl (.pass rfl rfl rfl (.pass rfl rfl rfl ?_)))))
          refine .pass rfl rfl rfl (.Z0v rfl rfl rfl (.Z0v rfl rfl rfl (.Z0v rfl rfl rfl (.pass rfl rfl rfl (.pass rfl rfl rfl ?_)))))
          refine .Zg (v := (vb true)) rfl rfl rfl (.nil ?_)
          replace h := sj h; subst h
          exact ⟨⟨rfl, rfl, rfl, rfl, trivial⟩, (((H.erase 2).erase 1).erase 0).weak (by omega) (Nat.le_refl _)⟩
         ·replace h := Z6 hc6 hj6
          refine .wanted rfl rfl (.move (v := (.clo 14 [] [(.ptr (b5 + 3) 3 0), (.ptr (b6 + 3) 1 0)])) rfl rfl (.wanted rfl rfl (.ZP (off := 0) (cs := [(vi r'.Low), (vi r'.High), (vb true), (vb true)]) H 0 rfl rfl rfl rfl rfl rfl rfl (fun _ => .inl ⟨B15 0 _ rfl _ rfl, nofun, (fun _ => by kernel_rfl)⟩) rfl (.wanted rfl rfl ?_))))
          obtain ⟨y7, hj7, h⟩ := bind_some h
          refine .callIS (PostA := fun r A => r = (vb y7) ∧ A = [.blk (b14 + 5) 45 [(vi r'.Low), (vi r'.High), (vb true), (vb true)], .blk (b13 + 7) 45 [(vi 0), (vi r'.High), (vb false), (vb true)], .blk (b13 + 6) 45 [(vi r'.Low), (vi 0), (vb true), (vb false)], .blk (b6 + 3) 37 [(.buf (b6 + 2) 2 1)], .sl (.buf (b6 + 2) 2 1) 3 1 ([(a.tmod 1099511627776), (b.tmod 1099511627776)].map (cI .i64)) false, .blk (b5 + 3) 36 [(vi 2), (.buf (b5 + 1) 1 4), .nils], .sl (.buf (b5 + 1) 1 4) 25 4 ([f].map Form.cs) false]) (cv := (.clo 14 [] [(.ptr (b5 + 3) 3 0), (.ptr (b6 + 3) 1 0)])) (ys := [(.agg [(vi r'.Low), (vi r'.High), (vb true), (vb true)])]) (L := []) [.blk (b14 + 5) 45 [(vi r'.Low), (vi r'.High), (vb true), (vb true)], .blk (b13 + 7) 45 [(vi 0), (vi r'.High), (vb false), (vb true)], .blk (b13 + 6) 45 [(vi r'.Low), (vi 0), (vb true), (vb false)], .blk (b6 + 3) 37 [(.buf (b6 + 2) 2 1)], .sl (.buf (b6 + 2) 2 1) 3 1 ([(a.tmod 1099511627776), (b.tmod 1099511627776)].map (cI .i64)) false, .blk (b5 + 3) 36 [(vi 2), (.buf (b5 + 1) 1 4), .nils], .sl (.buf (b5 + 1) 1 4) 25 4 ([f].map Form.cs) false] H rfl rfl (fun T4 hT H => Z35 Try.func14 rfl (fun _ => rfl) rfl rfl rfl rfl ?_) (by rintro _ _ ⟨rfl, rfl⟩; rfl) rfl rfl (fun _ => by kernel_rfl) rfl ?_
          ·replace h := hj7
           refine .then (.Z0 2 rfl H fun b20 σ H => (.boxH (cs := [(vi r'.Low), (vi r'.High), (vb true), (vb true)]) H (by omega) (by omega) rfl rfl rfl fun σ H => (.assign (v := (vb false)) rfl rfl (.nila H fun H => (.then ?_)))))
           refine .Z0 6 rfl H fun b21 σ H => (.ZP (off := 0) (cs := [(vi 2), (.buf (b5 + 1) 1 4), .nils]) H 6 rfl rfl rfl rfl rfl rfl rfl nofun rfl (.ZP (off := 0) (cs := [(vi r'.Low), (vi r'.High), (vb true), (vb true)]) H 0 rfl rfl rfl rfl rfl rfl rfl nofun rfl (.Z0q (cs := [(vi 0), (vi 1), (vi 0), (vi r'.Low), (vi r'.High), (vb true), (vb true)]) rfl rfl (.ZR (off := 0) (v := (.buf (b6 + 2) 2 1)) H 4 rfl rfl rfl rfl rfl nofun rfl ?_))))
           obtain ⟨x7, q7, h⟩ := bind_some h
           refine .Z32 (xs := [(.agg [(vi 2), (.buf (b5 + 1) 1 4), .nils]), (.agg [(vi 0), (vi 1), (vi 0), (vi r'.Low), (vi r'.High), (vb true), (vb true)]), (.buf (b6 + 2) 2 1)]) (ys := [(.agg (vs (Net.cs (Net.mk 2 [f] [])))), (.agg (vs (Con.cs (Con.mk 0 1 0 (Range.mk r'.Low r'.High true true))))), (vl (cI .i64) [(a.tmod 1099511627776), (b.tmod 1099511627776)])]) H rfl (.cons (.a (.cons (.v _) (.cons (.s 7 rfl) (.cons (.n) .nil)))) (.cons (.p rfl) (.cons (.c (.s 5 rfl)) .nil))) (Z11 q7) rfl rfl nofun rfl fun σ H => (.assign (v := (vb x7)) rfl rfl (.nila H fun H => (.ret ?_)))
           replace h := sj h; subst h
           exact ⟨.inr rfl, _, Z2Z H (.tmp (v := (vb x7)) rfl .nil), _, ⟨rfl, rfl⟩, (H.erase 0)⟩
          ·rintro _ _ σ ⟨rfl, rfl⟩ H
           refine .wanted rfl rfl (.move (v := (.clo 14 [] [(.ptr (b5 + 3) 3 0), (.ptr (b6 + 3) 1 0)])) rfl rfl (.wanted rfl rfl (.ZP (off := 0) (cs := [(vi r'.Low), (vi 0), (vb true), (vb false)]) H 2 rfl rfl rfl rfl rfl rfl rfl (fun _ => .inl ⟨B15 2 _ rfl _ rfl, nofun, (fun _ => by kernel_rfl)⟩) rfl (.wanted rfl rfl ?_))))
           obtain ⟨y8, hj8, h⟩ := bind_some h
           refine .callI (PostA := fun r A => r = (vb y8) ∧ A = [.blk (b14 + 5) 45 [(vi r'.Low), (vi r'.High), (vb true), (vb true)], .blk (b13 + 7) 45 [(vi 0), (vi r'.High), (vb false), (vb true)], .blk (b13 + 6) 45 [(vi r'.Low), (vi 0), (vb true), (vb false)], .blk (b6 + 3) 37 [(.buf (b6 + 2) 2 1)], .sl (.buf (b6 + 2) 2 1) 3 1 ([(a.tmod 1099511627776), (b.tmod 1099511627776)].map (cI .i64)) false, .blk (b5 + 3) 36 [(vi 2), (.buf (b5 + 1) 1 4), .nils], .sl (.buf (b5 + 1) 1 4) 25 4 ([f].map Form.cs) false]) (cv := (.clo 14 [] [(.ptr (b5 + 3) 3 0), (.ptr (b6 + 3) 1 0)])) (ys := [(.agg [(vi r'.Low), (vi 0), (vb true), (vb false)])]) (L := []) [.blk (b14 + 5) 45 [(vi r'.Low), (vi r'.High), (vb true), (vb true)], .blk (b13 + 7) 45 [(vi 0), (vi r'.High), (vb false), (vb true)], .blk (b13 + 6) 45 [(vi r'.Low), (vi 0), (vb true), (vb false)], .blk (b6 + 3) 37 [(.buf (b6 + 2) 2 1)], .sl (.buf (b6 + 2) 2 1) 3 1 ([(a.tmod 1099511627776), (b.tmod 1099511627776)].map (cI .i64)) false, .blk (b5 + 3) 36 [(vi 2), (.buf (b5 + 1) 1 4), .nils], .sl (.buf (b5 + 1) 1 4) 25 4 ([f].map Form.cs) false] H rfl rfl (fun T5 hT H => Z35 Try.func14 rfl (fun _ => rfl) rfl rfl rfl rfl ?_) (fun _ => by kernel_rfl) rfl ?_
           ·replace h := hj8
            refine .then (.Z0 2 rfl H fun b22 σ H => (.boxH (cs := [(vi r'.Low), (vi 0), (vb true), (vb false)]) H (by omega) (by omega) rfl rfl rfl fun σ H => (.assign (v := (vb false)) rfl rfl (.nila H fun H => (.then ?_)))))
            refine .Z0 6 rfl H fun b23 σ H => (.ZP (off := 0) (cs := [(vi 2), (.buf (b5 + 1) 1 4), .nils]) H 6 rfl rfl rfl rfl rfl rfl rfl nofun rfl (.ZP (off := 0) (cs := [(vi r'.Low), (vi 0), (vb true), (vb false)]) H 0 rfl rfl rfl rfl rfl rfl rfl nofun rfl (.Z0q (cs := [(vi 0), (vi 1), (vi 0), (vi r'.Low), (vi 0), (vb true), (vb false)]) rfl rfl (.ZR (off := 0) (v := (.buf (b6 + 2) 2 1)) H 4 rfl rfl rfl rfl rfl nofun rfl ?_))))
            obtain ⟨x8, q8, h⟩ := bind_some h
            refine .Z32 (xs := [(.agg [(vi 2), (.buf (b5 + 1) 1 4), .nils]), (.agg [(vi 0), (vi 1), (vi 0), (vi r'.Low), (vi 0), (vb true), (vb false)]), (.buf (b6 + 2) 2 1)]) (ys := [(.agg (vs (Net.cs (Net.mk 2 [f] [])))), (.agg (vs (Con.cs (Con.mk 0 1 0 (Range.mk r'.Low 0 true false))))), (vl (cI .i64) [(a.tmod 1099511627776), (b.tmod 1099511627776)])]) H rfl (.cons (.a (.cons (.v _) (.cons (.s 7 rfl) (.cons (.n) .nil)))) (.cons (.p rfl) (.cons (.c (.s 5 rfl)) .nil))) (Z11 q8) rfl rfl nofun rfl fun σ H => (.assign (v := (vb x8)) rfl rfl (.nila H fun H => (.ret ?_)))
            replace h := sj h; subst h
            exact ⟨.inr rfl, _, Z2Z H (.tmp (v := (vb x8)) rfl .nil), _, ⟨rfl, rfl⟩, (H.erase 0)⟩
           ·rintro _ _ σ ⟨rfl, rfl⟩ H
            refine .wanted rfl rfl (.move (v := (vb y8)) rfl rfl ?_)
            obtain ⟨y9, hj9, h⟩ := bind_some h
            refine .mid 4 (K1 := fun e σ => Z5 e [(88, (vb y9)), (13, (.clo 14 [] [(.ptr (b5 + 3) 3 0), (.ptr (b6 + 3) 1 0)])), (14, (vi x3.1)), (15, (vb x3.2)), (77, (vb false)), (80, (vb y7))] ∧ Has σ (b15 + 24) (b15 + 26) [.blk (b6 + 3) 37 [(.buf (b6 + 2) 2 1)], .sl (.buf (b6 + 2) 2 1) 3 1 ([(a.tmod 1099511627776), (b.tmod 1099511627776)].map (cI .i64)) false, .blk (b5 + 3) 36 [(vi 2), (.buf (b5 + 1) 1 4), .nils], .sl (.buf (b5 + 1) 1 4) 25 4 ([f].map Form.cs) false]) rfl ?_ ?_
            ·refine .split rfl rfl ?_ ?_ <;> intro hc7
             ·replace h := Z9 hc7 hj9
              refine .wanted rfl rfl (.move (v := (.clo 14 [] [(.ptr (b5 + 3) 3 0), (.ptr (b6 + 3) 1 0)])) rfl rfl (.wanted rfl rfl (.ZP (off := 0) (cs := [(vi 0), (vi r'.High), (vb false), (vb true)]) H 1 rfl rfl rfl rfl rfl rfl rfl (fun _ => .inl ⟨B15 1 _ rfl _ rfl, nofun, (fun _ => by kernel_rfl)⟩) rfl (.wanted rfl rfl ?_))))
              obtain ⟨y10, hj10, h⟩ := bind_some h
              refine .callI (PostA := fun r A => r = (vb y10) ∧ A = [.blk (b14 + 5) 45 [(vi r'.Low), (vi r'.High), (vb true), (vb true)], .blk (b13 + 7) 45 [(vi 0), (vi r'.High), (vb false), (vb true)], .blk (b13 + 6) 45 [(vi r'.Low), (vi 0), (vb true), (vb false)], .blk (b6 + 3) 37 [(.buf (b6 + 2) 2 1)], .sl (.buf (b6 + 2) 2 1) 3 1 ([(a.tmod 1099511627776), (b.tmod 1099511627776)].map (cI .i64)) false, .blk (b5 + 3) 36 [(vi 2), (.buf (b5 + 1) 1 4), .nils], .sl (.buf (b5 + 1) 1 4) 25 4 ([f].map Form.cs) false]) (cv := (.clo 14 [] [(.ptr (b5 + 3) 3 0), (.ptr (b6 + 3) 1 0)])) (ys := [(.agg [(vi 0), (vi r'.High), (vb false), (vb true)])]) (L := []) [.blk (b14 + 5) 45 [(vi r'.Low), (vi r'.High), (vb true), (vb true)], .blk (b13 + 7) 45 [(vi 0), (vi r'.High), (vb false), (vb true)], .blk (b13 + 6) 45 [(vi r'.Low), (vi 0), (vb true), (vb false)], .blk (b6 + 3) 37 [(.buf (b6 + 2) 2 1)], .sl (.buf (b6 + 2) 2 1) 3 1 ([(a.tmod 1099511627776), (b.tmod 1099511627776)].map (cI .i64)) false, .blk (b5 + 3) 36 [(vi 2), (.buf (b5 + 1) 1 4), .nils], .sl (.buf (b5 + 1) 1 4) 25 4 ([f].map Form.cs) false] H rfl rfl (fun T6 hT H => Z35 Try.func14 rfl (fun _ => rfl) rfl rfl rfl rfl ?_) (fun _ => by kernel_rfl) rfl ?_
              ·replace h := hj10
               refine .then (.Z0 2 rfl H fun b24 σ H => (.boxH (cs := [(vi 0), (vi r'.High), (vb false), (vb true)]) H (by omega) (by omega) rfl rfl rfl fun σ H => (.assign (v := (vb false)) rfl rfl (.nila H fun H => (.then ?_)))))
               refine .Z0 6 rfl H fun b25 σ H => (.ZP (off := 0) (cs := [(vi 2), (.buf (b5 + 1) 1 4), .nils]) H 6 rfl rfl rfl rfl rfl rfl rfl nofun rfl (.ZP (off := 0) (cs := [(vi 0), (vi r'.High), (vb false), (vb true)]) H 0 rfl rfl rfl rfl rfl rfl rfl nofun rfl (.Z0q (cs := [(vi 0), (vi 1), (vi 0), (vi 0), (vi r'.High), (vb false), (vb true)]) rfl rfl (.ZR (off := 0) (v := (.buf (b6 + 2) 2 1)) H 4 rfl rfl rfl rfl rfl nofun rfl ?_))))
               obtain ⟨x9, q9, h⟩ := bind_some h
               refine .Z32 (xs := [(.agg [(vi 2), (.buf (b5 + 1) 1 4), .nils]), (.agg [(vi 0), (vi 1), (vi 0), (vi 0), (vi r'.High), (vb false), (vb true)]), (.buf (b6 + 2) 2 1)]) (ys := [(.agg (vs (Net.cs (Net.mk 2 [f] [])))), (.agg (vs (Con.cs (Con.mk 0 1 0 (Range.mk 0 r'.High false true))))), (vl (cI .i64) [(a.tmod 1099511627776), (b.tmod 1099511627776)])]) H rfl (.cons (.a (.cons (.v _) (.cons (.s 7 rfl) (.cons (.n) .nil)))) (.cons (.p rfl) (.cons (.c (.s 5 rfl)) .nil))) (Z11 q9) rfl rfl nofun rfl fun σ H => (.assign (v := (vb x9)) rfl rfl (.nila H fun H => (.ret ?_)))
               replace h := sj h; subst h
               exact ⟨.inr rfl, _, Z2Z H (.tmp (v := (vb x9)) rfl .nil), _, ⟨rfl, rfl⟩, (H.erase 0)⟩
              ·rintro _ _ σ ⟨rfl, rfl⟩ H
               refine .wanted rfl rfl (.Zg (v := (vb y10)) rfl rfl rfl (.nil ?_))
               replace h := sj h; subst h
               exact ⟨⟨rfl, rfl, rfl, rfl, rfl, rfl, trivial⟩, (((H.erase 2).erase 1).erase 0).weak (by omega) (Nat.le_refl _)⟩
             ·replace h := Z6 hc7 hj9
              refine .pass rfl rfl rfl (.pass rfl rfl rfl (.pass rfl rfl rfl (.wanted rfl rfl (.Zn (v := (vb false)) rfl rfl rfl (.nil ?_)))))
              replace h := sj h; subst h
              exact ⟨⟨rfl, rfl, rfl, rfl, rfl, rfl, trivial⟩, (((H.erase 2).erase 1).erase 0).weak (by omega) (Nat.le_refl _)⟩
            ·rintro e σ ⟨he, H⟩
             obtain ⟨e, rfl⟩ := he.ex
             refine .wanted rfl rfl (.neB (b := y7) (b' := y9) rfl rfl rfl rfl (.Zn (v := (vb (y7 != y9))) rfl rfl rfl (.nil ?_)))
             replace h := sj h; subst h
             exact ⟨⟨rfl, rfl, rfl, rfl, trivial⟩, H.weak (by omega) (Nat.le_refl _)⟩
        ·rintro e σ ⟨he, H⟩
         obtain ⟨e, rfl⟩ := he.ex
         refine .nila H fun H => ?_
         refine .whether (v := y6) rfl ?_ ?_ <;> intro hc8
         ·replace h := Z9 hc8 h
          refine .then (.Z0 1 rfl H fun b26 σ H => (.assign (v := (vb false)) rfl rfl (.nila H fun H => (.ret ?_))))
          replace h := sj h; subst h
          exact (Ends.H (xs := [(vb false)]) (.inr rfl) H (.tmp (v := (vb false)) rfl .nil) (.one (.c (.v _))))
         ·replace h := Z6 hc8 h
          refine .skip (.then (.then (.Z0 2 rfl H fun b27 σ H => (.move (v := (vb x3.2)) rfl rfl (.not (b := x3.2) rfl rfl ?_)))))
          refine .nila H fun H => ?_
          refine .whether (v := (!x3.2)) rfl ?_ ?_ <;> intro hc9
          ·replace h := Z9 hc9 h
           refine .then (.Z0 2 rfl H fun b28 σ H => (.call (ys := []) (r := (vb ZM)) rfl (Z2Q rfl) rfl (.assign (v := (vb ZM)) rfl rfl (.nila H fun H => (.ret ?_)))))
           replace h := sj h; subst h
           exact (Ends.H (xs := [(vb ZM)]) (.inr rfl) H (.tmp (v := (vb ZM)) rfl .nil) (.one (.c (.v _))))
          ·replace h := Z6 hc9 h
           refine .skip (.then (.Z0 5 rfl H fun b29 σ H => (.move (v := (vi x3.1)) rfl rfl (.move (v := (vi x3.1)) rfl rfl (.Z0q (cs := [(vi x3.1), (vi x3.1), (vb true), (vb true)]) rfl rfl ?_)))))
           refine .Z0p (cs := [(vi 0), (vi 0), (vb false), (vb false)]) H (by omega) (by omega) rfl rfl fun σ H => (.Z0e (off := 0) (cells' := [(vi x3.1), (vi x3.1), (vb true), (vb true)]) H 0 rfl rfl rfl rfl rfl rfl rfl rfl rfl nofun fun σ H => (.nila H fun H => (.then (.Z0 5 rfl H fun b30 σ H => (.move (v := (vi x3.1)) rfl rfl ?_)))))
           refine .int (m := x3.1) (m' := 1) (r := .int .i64 (w64 (x3.1 + 1))) rfl rfl rfl rfl rfl (.Z0q (cs := [(vi (w64 (x3.1 + 1))), (vi 0), (vb true), (vb false)]) rfl rfl (.Z0p (cs := [(vi 0), (vi 0), (vb false), (vb false)]) H (by omega) (by omega) rfl rfl fun σ H => (.Z0e (off := 0) (cells' := [(vi (w64 (x3.1 + 1))), (vi 0), (vb true), (vb false)]) H 0 rfl rfl rfl rfl rfl rfl rfl rfl rfl nofun fun σ H => (.nila H fun H => (.then ?_)))))
           refine .Z0 5 rfl H fun b31 σ H => (.move (v := (vi x3.1)) rfl rfl (.int (m := x3.1) (m' := 1) (r := .int .i64 (w64 (x3.1 - 1))) rfl rfl rfl rfl rfl (.Z0q (cs := [(vi 0), (vi (w64 (x3.1 - 1))), (vb false), (vb true)]) rfl rfl (.Z0p (cs := [(vi 0), (vi 0), (vb false), (vb false)]) H (by omega) (by omega) rfl rfl fun σ H => (.Z0e (off := 0) (cells' := [(vi 0), (vi (w64 (x3.1 - 1))), (vb false), (vb true)]) H 0 rfl rfl rfl rfl rfl rfl rfl rfl rfl nofun fun σ H => ?_)))))
           refine .nila H fun H => (.then (.Z0 19 rfl H fun b32 σ H => (.move (v := (.clo 14 [] [(.ptr (b5 + 3) 3 0), (.ptr (b6 + 3) 1 0)])) rfl rfl (.ZP (off := 0) (cs := [(vi x3.1), (vi x3.1), (vb true), (vb true)]) H 2 rfl rfl rfl rfl rfl rfl rfl nofun rfl ?_))))
           obtain ⟨y11, hj11, h⟩ := bind_some h
           refine .callI (PostA := fun r A => r = (vb y11.1) ∧ A = [.blk (b31 + 3) 45 [(vi 0), (vi y11.2.1), (vb false), (vb true)], .blk (b30 + 3) 45 [(vi y11.2.2), (vi 0), (vb true), (vb false)], .blk (b29 + 3) 45 [(vi x3.1), (vi x3.1), (vb true), (vb true)], .blk (b6 + 3) 37 [(.buf (b6 + 2) 2 1)], .sl (.buf (b6 + 2) 2 1) 3 1 ([(a.tmod 1099511627776), (b.tmod 1099511627776)].map (cI .i64)) false, .blk (b5 + 3) 36 [(vi 2), (.buf (b5 + 1) 1 4), .nils], .sl (.buf (b5 + 1) 1 4) 25 4 ([f].map Form.cs) false]) (cv := (.clo 14 [] [(.ptr (b5 + 3) 3 0), (.ptr (b6 + 3) 1 0)])) (ys := [(.agg [(vi x3.1), (vi x3.1), (vb true), (vb true)])]) (L := []) [.blk (b31 + 3) 45 [(vi 0), (vi (w64 (x3.1 - 1))), (vb false), (vb true)], .blk (b30 + 3) 45 [(vi (w64 (x3.1 + 1))), (vi 0), (vb true), (vb false)], .blk (b29 + 3) 45 [(vi x3.1), (vi x3.1), (vb true), (vb true)], .blk (b6 + 3) 37 [(.buf (b6 + 2) 2 1)], .sl (.buf (b6 + 2) 2 1) 3 1 ([(a.tmod 1099511627776), (b.tmod 1099511627776)].map (cI .i64)) false, .blk (b5 + 3) 36 [(vi 2), (.buf (b5 + 1) 1 4), .nils], .sl (.buf (b5 + 1) 1 4) 25 4 ([f].map Form.cs) false] H rfl rfl (fun T7 hT H => Z35 Try.func14 rfl (fun _ => rfl) rfl rfl rfl rfl ?_) nofun rfl ?_
           ·replace h := hj11
            refine .then (.Z0 2 rfl H fun b33 σ H => (.boxH (cs := [(vi x3.1), (vi x3.1), (vb true), (vb true)]) H (by omega) (by omega) rfl rfl rfl fun σ H => (.assign (v := (vb false)) rfl rfl (.nila H fun H => (.then ?_)))))
            refine .Z0 6 rfl H fun b34 σ H => (.ZP (off := 0) (cs := [(vi 2), (.buf (b5 + 1) 1 4), .nils]) H 6 rfl rfl rfl rfl rfl rfl rfl nofun rfl (.ZP (off := 0) (cs := [(vi x3.1), (vi x3.1), (vb true), (vb true)]) H 0 rfl rfl rfl rfl rfl rfl rfl nofun rfl (.Z0q (cs := [(vi 0), (vi 1), (vi 0), (vi x3.1), (vi x3.1), (vb true), (vb true)]) rfl rfl (.ZR (off := 0) (v := (.buf (b6 + 2) 2 1)) H 4 rfl rfl rfl rfl rfl nofun rfl ?_))))
            obtain ⟨x10, q10, h⟩ := bind_some h
            refine .Z32 (xs := [(.agg [(vi 2), (.buf (b5 + 1) 1 4), .nils]), (.agg [(vi 0), (vi 1), (vi 0), (vi x3.1), (vi x3.1), (vb true), (vb true)]), (.buf (b6 + 2) 2 1)]) (ys := [(.agg (vs (Net.cs (Net.mk 2 [f] [])))), (.agg (vs (Con.cs (Con.mk 0 1 0 (Range.mk x3.1 x3.1 true true))))), (vl (cI .i64) [(a.tmod 1099511627776), (b.tmod 1099511627776)])]) H rfl (.cons (.a (.cons (.v _) (.cons (.s 7 rfl) (.cons (.n) .nil)))) (.cons (.p rfl) (.cons (.c (.s 5 rfl)) .nil))) (Z11 q10) rfl rfl nofun rfl fun σ H => (.assign (v := (vb x10)) rfl rfl (.nila H fun H => (.ret ?_)))
            replace h := sj h; subst h
            exact ⟨.inr rfl, _, Z2Z H (.tmp (v := (vb x10)) rfl .nil), _, ⟨rfl, rfl⟩, (H.erase 0)⟩
           ·rintro _ _ σ ⟨rfl, rfl⟩ H
            refine .move (v := (vb y11.1)) rfl rfl ?_
            obtain ⟨y12, hj12, h⟩ := bind_some h
            refine .mid 5 (K1 := fun e σ => Z5 e [(111, (vb y12)), (13, (.clo 14 [] [(.ptr (b5 + 3) 3 0), (.ptr (b6 + 3) 1 0)])), (21, (.ptr (b31 + 3) 4 0))] ∧ Has σ (b32 + 9) (b32 + 19) [.blk (b31 + 3) 45 [(vi 0), (vi y11.2.1), (vb false), (vb true)], .blk (b6 + 3) 37 [(.buf (b6 + 2) 2 1)], .sl (.buf (b6 + 2) 2 1) 3 1 ([(a.tmod 1099511627776), (b.tmod 1099511627776)].map (cI .i64)) false, .blk (b5 + 3) 36 [(vi 2), (.buf (b5 + 1) 1 4), .nils], .sl (.buf (b5 + 1) 1 4) 25 4 ([f].map Form.cs) false]) rfl ?_ ?_
            ·refine .split rfl rfl ?_ ?_ <;> intro hc10
             ·replace h := Z9 hc10 hj12
              refine .wanted rfl rfl (.move (v := (.clo 14 [] [(.ptr (b5 + 3) 3 0), (.ptr (b6 + 3) 1 0)])) rfl rfl (.wanted rfl rfl (.ZP (off := 0) (cs := [(vi y11.2.2), (vi 0), (vb true), (vb false)]) H 1 rfl rfl rfl rfl rfl rfl rfl nofun rfl (.wanted rfl rfl ?_))))
              obtain ⟨y13, hj13, h⟩ := bind_some h
              refine .callI (PostA := fun r A => r = (vb y13) ∧ A = [.blk (b31 + 3) 45 [(vi 0), (vi y11.2.1), (vb false), (vb true)], .blk (b30 + 3) 45 [(vi y11.2.2), (vi 0), (vb true), (vb false)], .blk (b29 + 3) 45 [(vi x3.1), (vi x3.1), (vb true), (vb true)], .blk (b6 + 3) 37 [(.buf (b6 + 2) 2 1)], .sl (.buf (b6 + 2) 2 1) 3 1 ([(a.tmod 1099511627776), (b.tmod 1099511627776)].map (cI .i64)) false, .blk (b5 + 3) 36 [(vi 2), (.buf (b5 + 1) 1 4), .nils], .sl (.buf (b5 + 1) 1 4) 25 4 ([f].map Form.cs) false]) (cv := (.clo 14 [] [(.ptr (b5 + 3) 3 0), (.ptr (b6 + 3) 1 0)])) (ys := [(.agg [(vi y11.2.2), (vi 0), (vb true), (vb false)])]) (L := []) [.blk (b31 + 3) 45 [(vi 0), (vi y11.2.1), (vb false), (vb true)], .blk (b30 + 3) 45 [(vi y11.2.2), (vi 0), (vb true), (vb false)], .blk (b29 + 3) 45 [(vi x3.1), (vi x3.1), (vb true), (vb true)], .blk (b6 + 3) 37 [(.buf (b6 + 2) 2 1)], .sl (.buf (b6 + 2) 2 1) 3 1 ([(a.tmod 1099511627776), (b.tmod 1099511627776)].map (cI .i64)) false, .blk (b5 + 3) 36 [(vi 2), (.buf (b5 + 1) 1 4), .nils], .sl (.buf (b5 + 1) 1 4) 25 4 ([f].map Form.cs) false] H rfl rfl (fun T8 hT H => Z35 Try.func14 rfl (fun _ => rfl) rfl rfl rfl rfl ?_) nofun rfl ?_
              ·replace h := hj13
               refine .then (.Z0 2 rfl H fun b35 σ H => (.boxH (cs := [(vi y11.2.2), (vi 0), (vb true), (vb false)]) H (by omega) (by omega) rfl rfl rfl fun σ H => (.assign (v := (vb false)) rfl rfl (.nila H fun H => (.then ?_)))))
               refine .Z0 6 rfl H fun b36 σ H => (.ZP (off := 0) (cs := [(vi 2), (.buf (b5 + 1) 1 4), .nils]) H 6 rfl rfl rfl rfl rfl rfl rfl nofun rfl (.ZP (off := 0) (cs := [(vi y11.2.2), (vi 0), (vb true), (vb false)]) H 0 rfl rfl rfl rfl rfl rfl rfl nofun rfl (.Z0q (cs := [(vi 0), (vi 1), (vi 0), (vi y11.2.2), (vi 0), (vb true), (vb false)]) rfl rfl (.ZR (off := 0) (v := (.buf (b6 + 2) 2 1)) H 4 rfl rfl rfl rfl rfl nofun rfl ?_))))
               obtain ⟨x11, q11, h⟩ := bind_some h
               refine .Z32 (xs := [(.agg [(vi 2), (.buf (b5 + 1) 1 4), .nils]), (.agg [(vi 0), (vi 1), (vi 0), (vi y11.2.2), (vi 0), (vb true), (vb false)]), (.buf (b6 + 2) 2 1)]) (ys := [(.agg (vs (Net.cs (Net.mk 2 [f] [])))), (.agg (vs (Con.cs (Con.mk 0 1 0 (Range.mk y11.2.2 0 true false))))), (vl (cI .i64) [(a.tmod 1099511627776), (b.tmod 1099511627776)])]) H rfl (.cons (.a (.cons (.v _) (.cons (.s 7 rfl) (.cons (.n) .nil)))) (.cons (.p rfl) (.cons (.c (.s 5 rfl)) .nil))) (Z11 q11) rfl rfl nofun rfl fun σ H => (.assign (v := (vb x11)) rfl rfl (.nila H fun H => (.ret ?_)))
               replace h := sj h; subst h
               exact ⟨.inr rfl, _, Z2Z H (.tmp (v := (vb x11)) rfl .nil), _, ⟨rfl, rfl⟩, (H.erase 0)⟩
              ·rintro _ _ σ ⟨rfl, rfl⟩ H
               refine .wanted rfl rfl (.not (b := y13) rfl rfl (.Zg (v := (vb (!y13))) rfl rfl rfl (.nil ?_)))
               replace h := sj h; subst h
               exact ⟨⟨rfl, rfl, rfl, trivial⟩, ((H.erase 2).erase 1).weak (by omega) (Nat.le_refl _)⟩
             ·replace h := Z6 hc10 hj12
              refine .pass rfl rfl rfl (.pass rfl rfl rfl (.pass rfl rfl rfl (.pass rfl rfl rfl (.Zn (v := (vb false)) rfl rfl rfl (.nil ?_)))))
              replace h := sj h; subst h
              exact ⟨⟨rfl, rfl, rfl, trivial⟩, ((H.erase 2).erase 1).weak (by omega) (Nat.le_refl _)⟩
            ·rintro e σ ⟨he, H⟩
             obtain ⟨e, rfl⟩ := he.ex
             refine .move (v := (vb y12)) rfl rfl ?_
             obtain ⟨y14, hj14, h⟩ := bind_some h
             refine .mid 5 (K1 := fun e σ => Z5 e [(117, (vb y14))] ∧ Has σ (b32 + 15) (b32 + 19) []) rfl ?_ ?_
             ·refine .split rfl rfl ?_ ?_ <;> intro hc11
              ·replace h := Z9 hc11 hj14
               refine .wanted rfl rfl (.move (v := (.clo 14 [] [(.ptr (b5 + 3) 3 0), (.ptr (b6 + 3) 1 0)])) rfl rfl (.wanted rfl rfl (.ZP (off := 0) (cs := [(vi 0), (vi y11.2.1), (vb false), (vb true)]) H 0 rfl rfl rfl rfl rfl rfl rfl nofun rfl (.wanted rfl rfl ?_))))
               obtain ⟨y15, hj15, h⟩ := bind_some h
               refine .callI (PostA := fun r A => r = (vb y15) ∧ A = [.blk (b31 + 3) 45 [(vi 0), (vi y11.2.1), (vb false), (vb true)], .blk (b6 + 3) 37 [(.buf (b6 + 2) 2 1)], .sl (.buf (b6 + 2) 2 1) 3 1 ([(a.tmod 1099511627776), (b.tmod 1099511627776)].map (cI .i64)) false, .blk (b5 + 3) 36 [(vi 2), (.buf (b5 + 1) 1 4), .nils], .sl (.buf (b5 + 1) 1 4) 25 4 ([f].map Form.cs) false]) (cv := (.clo 14 [] [(.ptr (b5 + 3) 3 0), (.ptr (b6 + 3) 1 0)])) (ys := [(.agg [(vi 0), (vi y11.2.1), (vb false), (vb true)])]) (L := []) [.blk (b31 + 3) 45 [(vi 0), (vi y11.2.1), (vb false), (vb true)], .blk (b6 + 3) 37 [(.buf (b6 + 2) 2 1)], .sl (.buf (b6 + 2) 2 1) 3 1 ([(a.tmod 1099511627776), (b.tmod 1099511627776)].map (cI .i64)) false, .blk (b5 + 3) 36 [(vi 2), (.buf (b5 + 1) 1 4), .nils], .sl (.buf (b5 + 1) 1 4) 25 4 ([f].map Form.cs) false] H rfl rfl (fun T9 hT H => Z35 Try.func14 rfl (fun _ => rfl) rfl rfl rfl rfl ?_) nofun rfl ?_
               ·replace h := hj15
                refine .then (.Z0 2 rfl H fun b37 σ H => (.boxH (cs := [(vi 0), (vi y11.2.1), (vb false), (vb true)]) H (by omega) (by omega) rfl rfl rfl fun σ H => (.assign (v := (vb false)) rfl rfl (.nila H fun H => (.then ?_)))))
                refine .Z0 6 rfl H fun b38 σ H => (.ZP (off := 0) (cs := [(vi 2), (.buf (b5 + 1) 1 4), .nils]) H 4 rfl rfl rfl rfl rfl rfl rfl nofun rfl (.ZP (off := 0) (cs := [(vi 0), (vi y11.2.1), (vb false), (vb true)]) H 0 rfl rfl rfl rfl rfl rfl rfl nofun rfl (.Z0q (cs := [(vi 0), (vi 1), (vi 0), (vi 0), (vi y11.2.1), (vb false), (vb true)]) rfl rfl (.ZR (off := 0) (v := (.buf (b6 + 2) 2 1)) H 2 rfl rfl rfl rfl rfl nofun rfl ?_))))
                obtain ⟨x12, q12, h⟩ := bind_some h
                refine .Z32 (xs := [(.agg [(vi 2), (.buf (b5 + 1) 1 4), .nils]), (.agg [(vi 0), (vi 1), (vi 0), (vi 0), (vi y11.2.1), (vb false), (vb true)]), (.buf (b6 + 2) 2 1)]) (ys := [(.agg (vs (Net.cs (Net.mk 2 [f] [])))), (.agg (vs (Con.cs (Con.mk 0 1 0 (Range.mk 0 y11.2.1 false true))))), (vl (cI .i64) [(a.tmod 1099511627776), (b.tmod 1099511627776)])]) H rfl (.cons (.a (.cons (.v _) (.cons (.s 5 rfl) (.cons (.n) .nil)))) (.cons (.p rfl) (.cons (.c (.s 3 rfl)) .nil))) (Z11 q12) rfl rfl nofun rfl fun σ H => (.assign (v := (vb x12)) rfl rfl (.nila H fun H => (.ret ?_)))
                replace h := sj h; subst h
                exact ⟨.inr rfl, _, Z2Z H (.tmp (v := (vb x12)) rfl .nil), _, ⟨rfl, rfl⟩, (H.erase 0)⟩
               ·rintro _ _ σ ⟨rfl, rfl⟩ H
                refine .wanted rfl rfl (.not (b := y15) rfl rfl (.Zg (v := (vb (!y15))) rfl rfl rfl (.nil ?_)))
                replace h := sj h; subst h
                exact ⟨⟨rfl, trivial⟩, (((((H.erase 4).erase 3).erase 2).erase 1).erase 0).weak (by omega) (Nat.le_refl _)⟩
              ·replace h := Z6 hc11 hj14
               refine .pass rfl rfl rfl (.pass rfl rfl rfl (.pass rfl rfl rfl (.pass rfl rfl rfl (.Zn (v := (vb false)) rfl rfl rfl (.nil ?_)))))
               replace h := sj h; subst h
               exact ⟨⟨rfl, trivial⟩, (((((H.erase 4).erase 3).erase 2).erase 1).erase 0).weak (by omega) (Nat.le_refl _)⟩
             ·rintro e σ ⟨he, H⟩
              obtain ⟨e, rfl⟩ := he.ex
              refine .move (v := (vb y14)) rfl rfl ?_
              refine .mid 2 (K1 := fun e σ => Z5 e [(120, (vb (y14 && ZM)))] ∧ Has σ (b32 + 18) (b32 + 19) []) rfl ?_ ?_
              ·refine .split rfl rfl ?_ ?_ <;> intro hc12
               ·skip
                refine .wanted rfl rfl (.call (ys := []) (r := (vb ZM)) rfl (Z2Q rfl) rfl (.Zg (v := (vb ZM)) rfl rfl rfl (.nil ?_)))
                exact ⟨⟨Z1f hc12, trivial⟩, H.weak (by omega) (Nat.le_refl _)⟩
               ·skip
                refine .pass rfl rfl rfl (.Zn (v := (vb false)) rfl rfl rfl (.nil ?_))
                exact ⟨⟨Z1e hc12, trivial⟩, H.weak (by omega) (Nat.le_refl _)⟩
              ·rintro e σ ⟨he, H⟩
               obtain ⟨e, rfl⟩ := he.ex
               refine .assign (v := (vb (y14 && ZM))) rfl rfl (.nila H fun H => (.ret ?_))
               replace h := sj h; subst h
               exact (Ends.H (xs := [(vb (y14 && ZM))]) (.inr rfl) H (.tmp (v := (vb (y14 && ZM))) rfl .nil) (.one (.c (.v _))))

end Go.Dn

namespace Go.Dn
open Go

theorem Z16 {S R : Type} {step : S → Option (S ⊕ R)} (I : S → Prop) (m : S → Nat) (post : R → Prop)
  (h : ∀ s, I s → (∃ s', step s = some (.inl s') ∧ I s' ∧ m s' < m s) ∨ (∃ r, step s = some (.inr r) ∧ post r)) : ∀ s, I s → ∃ r, ZK step s = some r ∧ post r := by
 have key : ∀ n s, m s = n → I s → ∃ r, ZK step s = some r ∧ post r := by
  intro n
  induction n using Nat.strongRecOn with
  | _ n ih =>
   intro s hm hI
   rcases h s hI with ⟨s', h1, h2, h3⟩ | ⟨r, h1, h2⟩
   ·obtain ⟨r, q1, q2⟩ := ih (m s') (by omega) s' rfl h2
    exact ⟨r, by rw [loopO_eq, h1]; exact q1, q2⟩
   ·exact ⟨r, by rw [loopO_eq, h1], h2⟩
 exact fun s hI => key _ s rfl hI

theorem Z3G {S R : Type} {step : S → Option (S ⊕ R)} (I : S → R → Prop) (m : S → Nat)
  (h : ∀ s r, I s r → (∃ s', step s = some (.inl s') ∧ I s' r ∧ m s' < m s) ∨ step s = some (.inr r)) {s : S} {r : R} (hI : I s r) : ZK step s = some r := by
 obtain ⟨r', h1, h2⟩ := Z16 (I := fun s => I s r) m (fun r' => r' = r) (fun s hs => by
  rcases h s r hs with ⟨s', h1, h2, h3⟩ | h1
  ·exact .inl ⟨s', h1, h2, h3⟩
  ·exact .inr ⟨r, h1, rfl⟩) s hI
 rw [h1, h2]

theorem Z4Q (a : Int) : IntKind.i64.wrap a = (a + 9223372036854775808) % 18446744073709551616 - 9223372036854775808 := by
 simp [IntKind.wrap, IntKind.bits, IntKind.signed]
 split <;> omega
theorem Z56 (a : Int) : IntKind.u64.wrap a = a % 18446744073709551616 := by
 simp [IntKind.wrap, IntKind.bits, IntKind.signed]
theorem Zy {x : Int} (h : -9223372036854775808 ≤ x ∧ x ≤ 9223372036854775807) : w64 x = x := by
 unfold w64; rw [Z4Q]; omega
theorem Z89 : maxLen = 9223372036854775807 := rfl
theorem room_eq : room = 140737488355328 := rfl

theorem at?_lt {α : Type} {l : List α} {i : Int} (h0 : 0 ≤ i) (h : i < l.length) : at? l i = some (l[i.toNat]'(by omega)) := by
 unfold at?; rw [if_pos h0, List.getElem?_eq_getElem]
theorem at?_nat {α : Type} {l : List α} {k : Nat} (h : k < l.length) : at? l (k : Int) = some l[k] := by
 rw [at?_lt (by omega) (by omega)]; rfl
theorem app?_ok {α : Type} {b : Nat} {l m : List α} (h : (l.length + m.length) * b ≤ room) : app? b l m = some (l ++ m) := if_pos h
theorem nz?_ok {b : Int} (h : b ≠ 0) : nz? b = some () := if_neg h

theorem beq_t {a b : Int} (h : a = b) : (a == b) = true := by simp [h]
theorem beq_f {a b : Int} (h : a ≠ b) : (a == b) = false := by simp [h]
theorem bne_f {a b : Int} (h : a = b) : (a != b) = false := by simp [h]
theorem ibeq (a b : Int) : (a == b) = decide (a = b) := by by_cases h : a = b <;> simp [h]
theorem Zw {p : Prop} [Decidable p] (h : p) : decide p = true := by simp [h]
theorem Z0K {p : Prop} [Decidable p] (h : ¬ p) : decide p = false := by simp [h]

theorem pickB {α : Type} (c : Bool) (a b : α) : (bif c then a else b) = if c = true then a else b := by cases c <;> rfl

theorem Z7v {α : Type} {l : List α} {good : Nat → α → Prop} (h : ¬ ∀ k x, l[k]? = some x → good k x) : ∃ (k : Nat) (x : α), l[k]? = some x ∧ ¬ good k x ∧ ∀ j y, j < k → l[j]? = some y → good j y := by
 have hex : ∃ k : Nat, ∃ x, l[k]? = some x ∧ ¬ good k x := by
  apply Classical.byContradiction
  intro hn
  exact h fun k x hk => Classical.byContradiction fun hg => hn ⟨k, x, hk, hg⟩
 obtain ⟨k, hk⟩ := hex
 induction k using Nat.strongRecOn with
 | _ k ih =>
  by_cases h : ∃ j, j < k ∧ ∃ x, l[j]? = some x ∧ ¬ good j x
  ·obtain ⟨j, hj, hx⟩ := h
   exact ih j hj hx
  ·obtain ⟨x, hx, hb⟩ := hk
   exact ⟨k, x, hx, hb, fun j y hj hy => Classical.byContradiction fun hg => h ⟨j, hj, y, hy, hg⟩⟩

theorem Z65 {α R : Type} {l : List α} {step : Int → Option (Int ⊕ R)} (good : Nat → α → Prop) {no yes : R}
  (hstep : ∀ (k : Nat) (x : α), l[k]? = some x → (∀ j y, j < k → l[j]? = some y → good j y) → (step (k : Int) = some (.inl ((k : Int) + 1)) ∧ good k x) ∨ (step (k : Int) = some (.inr no) ∧ ¬ good k x))
  (hend : step (l.length : Int) = some (.inr yes)) : (ZK step 0 = some yes ∧ ∀ k x, l[k]? = some x → good k x) ∨ (ZK step 0 = some no ∧ ¬ ∀ k x, l[k]? = some x → good k x) := by
 by_cases hall : ∀ k x, l[k]? = some x → good k x
 ·refine .inl ⟨?_, hall⟩
  refine Z3G (I := fun (s : Int) r => r = yes ∧ ∃ k : Nat, s = k ∧ k ≤ l.length) (fun s => (l.length - s.toNat)) ?_ ⟨rfl, 0, rfl, Nat.zero_le _⟩
  rintro s r ⟨rfl, k, rfl, hk⟩
  by_cases hlt : k < l.length
  ·rcases hstep k l[k] (List.getElem?_eq_getElem hlt) (fun j y _ hy => hall j y hy) with ⟨h1, _⟩ | ⟨_, h2⟩
   ·exact .inl ⟨_, h1, ⟨rfl, k + 1, by push_cast; rfl, hlt⟩, by simp; omega⟩
   ·exact absurd (hall k _ (List.getElem?_eq_getElem hlt)) h2
  ·have : k = l.length := by omega
   subst this
   exact .inr hend
 ·refine .inr ⟨?_, hall⟩
  obtain ⟨k0, x0, hx0, hb0, hgood⟩ := Z7v hall
  have hlt0 := (List.getElem?_eq_some_iff.1 hx0).1
  refine Z3G (I := fun (s : Int) r => r = no ∧ ∃ k : Nat, s = k ∧ k ≤ k0) (fun s => (l.length - s.toNat)) ?_ ⟨rfl, 0, rfl, Nat.zero_le _⟩
  rintro s r ⟨rfl, k, rfl, hk⟩
  by_cases hlt : k < k0
  ·have hkl : k < l.length := by omega
   rcases hstep k l[k] (List.getElem?_eq_getElem hkl) (fun j y hj hy => hgood j y (by omega) hy) with ⟨h1, _⟩ | ⟨_, h2⟩
   ·exact .inl ⟨_, h1, ⟨rfl, k + 1, by push_cast; rfl, hlt⟩, by simp; omega⟩
   ·exact absurd (hgood k _ hlt (List.getElem?_eq_getElem hkl)) h2
  ·have : k = k0 := by omega
   subst this
   rcases hstep k x0 hx0 hgood with ⟨_, h2⟩ | ⟨h1, _⟩
   ·exact absurd h2 hb0
   ·exact .inr h1

theorem fold_loop {α A R : Type} {l : List α} {step : A × Int → Option ((A × Int) ⊕ R)} (f : A → Nat → α → A) (fin : A → R) (I : Nat → A → Prop) {a0 : A} (h0 : I 0 a0)
  (hgo : ∀ (k : Nat) (x : α) (a : A), l[k]? = some x → I k a → step (a, (k : Int)) = some (.inl (f a k x, (k : Int) + 1)) ∧ I (k + 1) (f a k x))
  (hend : ∀ a, I l.length a → step (a, (l.length : Int)) = some (.inr (fin a))) : ∃ a, ZK step (a0, 0) = some (fin a) ∧ I l.length a := by
 obtain ⟨r, h1, a, rfl, h2⟩ := Z16 (step := step) (I := fun s => ∃ (k : Nat) (a : A), s = (a, (k : Int)) ∧ k ≤ l.length ∧ I k a) (fun s => l.length - s.2.toNat) (fun r => ∃ a, r = fin a ∧ I l.length a) (by
  rintro s ⟨k, a, rfl, hk, hI⟩
  by_cases hlt : k < l.length
  ·obtain ⟨q1, q2⟩ := hgo k l[k] a (List.getElem?_eq_getElem hlt) hI
   exact .inl ⟨_, q1, ⟨k + 1, _, by push_cast; rfl, hlt, q2⟩, by simp; omega⟩
  ·have : k = l.length := by omega
   subst this
   exact .inr ⟨_, hend a hI, a, rfl, hI⟩) (a0, 0) ⟨0, a0, rfl, Nat.zero_le _, h0⟩
 exact ⟨a, h1, h2⟩
end Go.Dn

namespace Go.Dn
open Go

def In64 (a : Int) : Prop := -9223372036854775808 ≤ a ∧ a ≤ 9223372036854775807
def Z6Z (a : Int) : Prop := 0 ≤ a ∧ a ≤ 18446744073709551615
def fitS (a : Int) : Int × Int := if -9223372036854775808 ≤ a ∧ a ≤ 9223372036854775807 then (a, 0) else (0, 10)
theorem fitS_of {a : Int} (h : In64 a) : fitS a = (a, 0) := if_pos h
theorem fitS_not {a : Int} (h : ¬ In64 a) : fitS a = (0, 10) := if_neg h
theorem fit_or (x : Int) : (In64 x ∧ fitS x = (x, 0)) ∨ (¬ In64 x ∧ fitS x = (0, 10)) := by
 by_cases h : In64 x
 ·exact .inl ⟨h, fitS_of h⟩
 ·exact .inr ⟨h, fitS_not h⟩
theorem and32 (x : Int) (h : Z6Z x) : (((BitVec.ofInt 64 x &&& BitVec.ofInt 64 4294967295).toNat : Nat) : Int) = x % 4294967296 := by
 obtain ⟨n, rfl⟩ := Int.eq_ofNat_of_zero_le h.1
 have hn : n < 2 ^ 64 := by have := h.2; omega
 have h1 : (BitVec.ofInt 64 (n : Int)).toNat = n := by simp [BitVec.toNat_ofInt]; omega
 have h2 : (BitVec.ofInt 64 4294967295).toNat = 2 ^ 32 - 1 := by decide
 rw [BitVec.toNat_and, h1, h2, Nat.and_two_pow_sub_one_eq_mod]
 omega

theorem mul64_fact {x y : Int} (hx : Z6Z x) (hy : Z6Z y) :
  (x / 4294967296 * (y / 4294967296) + (x / 4294967296 * (y % 4294967296) + x % 4294967296 * (y % 4294967296) / 4294967296) / 4294967296 +
   ((x / 4294967296 * (y % 4294967296) + x % 4294967296 * (y % 4294967296) / 4294967296) % 4294967296 + x % 4294967296 * (y / 4294967296)) / 4294967296) = x * y / 18446744073709551616 ∧
  0 ≤ x % 4294967296 * (y % 4294967296) ∧ x % 4294967296 * (y % 4294967296) ≤ 18446744065119617025 ∧
  0 ≤ x / 4294967296 * (y % 4294967296) ∧ x / 4294967296 * (y % 4294967296) ≤ 18446744065119617025 ∧
  0 ≤ x % 4294967296 * (y / 4294967296) ∧ x % 4294967296 * (y / 4294967296) ≤ 18446744065119617025 ∧
  0 ≤ x / 4294967296 * (y / 4294967296) ∧ x / 4294967296 * (y / 4294967296) ≤ 18446744065119617025 := by
 have b : ∀ {u v : Int}, 0 ≤ u → u ≤ 4294967295 → 0 ≤ v → v ≤ 4294967295 → 0 ≤ u * v ∧ u * v ≤ 18446744065119617025 := by
  intro u v h1 h2 h3 h4
  exact ⟨Int.mul_nonneg h1 h3, Int.le_trans (Int.mul_le_mul h2 h4 h3 (by omega)) (by decide)⟩
 obtain ⟨hx1, hx2⟩ := hx
 obtain ⟨hy1, hy2⟩ := hy
 obtain ⟨a1, a2⟩ := b (u := x % 4294967296) (v := y % 4294967296) (by omega) (by omega) (by omega) (by omega)
 obtain ⟨b1, b2⟩ := b (u := x / 4294967296) (v := y % 4294967296) (by omega) (by omega) (by omega) (by omega)
 obtain ⟨c1, c2⟩ := b (u := x % 4294967296) (v := y / 4294967296) (by omega) (by omega) (by omega) (by omega)
 obtain ⟨d1, d2⟩ := b (u := x / 4294967296) (v := y / 4294967296) (by omega) (by omega) (by omega) (by omega)
 refine ⟨?_, a1, a2, b1, b2, c1, c2, d1, d2⟩
 have e : x * y = x / 4294967296 * (y / 4294967296) * 18446744073709551616 + (x / 4294967296 * (y % 4294967296) + x % 4294967296 * (y / 4294967296)) * 4294967296 + x % 4294967296 * (y % 4294967296) := by
  have ex : x = x / 4294967296 * 4294967296 + x % 4294967296 := by omega
  have ey : y = y / 4294967296 * 4294967296 + y % 4294967296 := by omega
  clear a1 a2 b1 b2 c1 c2 d1 d2 b hx1 hx2 hy1 hy2
  generalize x / 4294967296 = x1 at *
  generalize x % 4294967296 = x0 at *
  generalize y / 4294967296 = y1 at *
  generalize y % 4294967296 = y0 at *
  subst ex ey
  simp only [Int.add_mul, Int.mul_add]
  have h1 : x1 * 4294967296 * (y1 * 4294967296) = x1 * y1 * 18446744073709551616 := by
   rw [Int.mul_assoc, Int.mul_comm 4294967296, Int.mul_assoc y1, ← Int.mul_assoc]
   rfl
  have h2 : x1 * 4294967296 * y0 = x1 * y0 * 4294967296 := by rw [Int.mul_assoc, Int.mul_comm 4294967296, ← Int.mul_assoc]
  have h3 : x0 * (y1 * 4294967296) = x0 * y1 * 4294967296 := by rw [← Int.mul_assoc]
  rw [h1, h2, h3]
  omega
 rw [e]
 generalize x / 4294967296 * (y / 4294967296) = d at *
 generalize x / 4294967296 * (y % 4294967296) = b' at *
 generalize x % 4294967296 * (y / 4294967296) = c at *
 generalize x % 4294967296 * (y % 4294967296) = a at *
 omega

theorem Z8M {a b : Int} (ha : In64 a) (hb : In64 b) : ZB a b = fitS (a + b) := by
 unfold In64 at ha hb
 unfold ZB fitS w64
 rw [Z4Q]
 cases h : ((decide ((a + b + 9223372036854775808) % 18446744073709551616 - 9223372036854775808 > a) != decide (b > 0)) && b != 0)
 ·rw [cond_false]
  simp only [Bool.and_eq_false_iff, bne_eq_false_iff_eq, decide_eq_decide] at h
  split <;> simp only [Prod.mk.injEq, and_true] <;> omega
 ·rw [cond_true]
  simp only [Bool.and_eq_true, bne_iff_ne, ne_eq, decide_eq_decide] at h
  split <;> simp only [Prod.mk.injEq] <;> omega

theorem Z7G {a : Int} (h : In64 a) : ZD a = a.natAbs := by
 unfold In64 at h
 unfold ZD
 rw [pickB]
 simp only [decide_eq_true_eq, Z56]
 split <;> omega

theorem inU_abs {a : Int} (h : In64 a) : Z6Z a.natAbs := by unfold In64 at h; unfold Z6Z; omega
theorem natAbs_prod (a b : Int) : (a.natAbs : Int) * b.natAbs = (a * b).natAbs := by rw [Int.natAbs_mul]; simp

theorem mul64_eq {x y : Int} (hx : Z6Z x) (hy : Z6Z y) : ZI x y = (x * y / 18446744073709551616, x * y % 18446744073709551616) := by
 unfold ZI
 have hb : ∀ z : Int, z.fdiv (2 ^ 32) = z / 4294967296 := fun z => Int.fdiv_eq_ediv_of_nonneg z (by decide)
 have hm : (IntKind.u64.bits) = 64 := rfl
 obtain ⟨h1, h2, h3, h4, h5, h6, h7, h8, h9⟩ := mul64_fact hx hy
 have hw : ∀ z : Int, 0 ≤ z → z ≤ 18446744073709551615 → IntKind.u64.wrap z = z := fun z q1 q2 => by rw [Z56]; omega
 simp only [hb, iAnd]
 rw [hm, and32 x hx, and32 y hy]
 have x0 : 0 ≤ x % 4294967296 ∧ x % 4294967296 < 4294967296 := by omega
 have y0 : 0 ≤ y % 4294967296 ∧ y % 4294967296 < 4294967296 := by omega
 rw [hw (x % 4294967296) (by omega) (by omega), hw (y % 4294967296) (by omega) (by omega), hw _ h2 (by omega), hw _ h4 (by omega), hw _ h6 (by omega), hw _ h8 (by omega)]
 rw [hw (x / 4294967296 * (y % 4294967296) + x % 4294967296 * (y % 4294967296) / 4294967296) (by omega) (by omega)]
 rw [and32 _ ⟨by omega, by omega⟩]
 have t0 : 0 ≤ (x / 4294967296 * (y % 4294967296) + x % 4294967296 * (y % 4294967296) / 4294967296) % 4294967296 ∧ (x / 4294967296 * (y % 4294967296) + x % 4294967296 * (y % 4294967296) / 4294967296) % 4294967296 < 4294967296 := by omega
 rw [hw ((x / 4294967296 * (y % 4294967296) + x % 4294967296 * (y % 4294967296) / 4294967296) % 4294967296) (by omega) (by omega)]
 rw [hw ((x / 4294967296 * (y % 4294967296) + x % 4294967296 * (y % 4294967296) / 4294967296) % 4294967296 + x % 4294967296 * (y / 4294967296)) (by omega) (by omega)]
 rw [hw (x / 4294967296 * (y / 4294967296) + (x / 4294967296 * (y % 4294967296) + x % 4294967296 * (y % 4294967296) / 4294967296) / 4294967296) (by omega) (by omega)]
 rw [hw _ (by omega) (by omega), h1, Z56]

theorem Z8m {n : Int} (m : Bool) (h : Z6Z n) : Z0G n m = fitS (if m then -n else n) := by
 unfold Z6Z at h
 unfold Z0G fitS w64
 rw [pickB, pickB, Z56, Z4Q, Z4Q]
 cases m <;> simp only [Bool.true_and, Bool.false_and, Bool.not_true, Bool.not_false, decide_eq_true_eq, Bool.false_eq_true, if_false, if_true]
 ·split
  ·rw [if_pos (by omega)]; simp only [Prod.mk.injEq, and_true]; omega
  ·rw [if_neg (by omega)]
 ·split
  ·rw [if_pos (by omega)]; simp only [Prod.mk.injEq, and_true]; omega
  ·rw [if_neg (by omega)]

theorem safe_Mul_eq {a b : Int} (ha : In64 a) (hb : In64 b) : Z0J a b = fitS (a * b) := by
 unfold Z0J
 rw [Z7G ha, Z7G hb, mul64_eq (inU_abs ha) (inU_abs hb), pickB]
 simp only [natAbs_prod]
 rw [Z8m _ (by unfold Z6Z; omega)]
 by_cases h : ((a * b).natAbs : Int) / 18446744073709551616 = 0
 ·rw [if_neg (by simp [h])]
  have e : ((a * b).natAbs : Int) % 18446744073709551616 = (a * b).natAbs := by omega
  rw [e]
  show fitS _ = _
  refine congrArg fitS ?_
  by_cases h1 : a < 0 <;> by_cases h2 : b < 0 <;> simp only [h1, h2, decide_true, decide_false]
  ·have := Int.mul_nonneg_of_nonpos_of_nonpos (Int.le_of_lt h1) (Int.le_of_lt h2)
   simp; omega
  ·have := Int.mul_nonpos_of_nonpos_of_nonneg (Int.le_of_lt h1) (Int.not_lt.1 h2)
   simp; omega
  ·have := Int.mul_nonpos_of_nonneg_of_nonpos (Int.not_lt.1 h1) (Int.le_of_lt h2)
   simp; omega
  ·have := Int.mul_nonneg (Int.not_lt.1 h1) (Int.not_lt.1 h2)
   simp; omega
 ·rw [if_pos (by simp [h])]
  unfold fitS
  rw [if_neg]
  omega

def Z6m (a b : Int) : Int × Int × Int := if b = 0 then (0, 0, 11) else if b = -1 ∧ a = -9223372036854775808 then (0, 0, 10) else (a.fdiv b, a.fmod b, 0)
theorem floor_up {a b : Int} (hb : b ≠ 0) (h1 : a.tmod b ≠ 0) (h2 : ¬(a.tmod b < 0 ↔ b < 0)) : a.fdiv b = a.tdiv b - 1 ∧ a.fmod b = a.tmod b + b := by
 have q1 := Int.emod_nonneg a hb
 have q2 := Int.emod_lt a hb
 have hd : b ∣ a ↔ a % b = 0 := Int.dvd_iff_emod_eq_zero
 rw [Int.fdiv_eq_ediv, Int.fmod_eq_emod, Int.tdiv_eq_ediv]
 rw [Int.tmod_eq_emod] at h1 h2 ⊢
 simp only [hd] at h1 h2 ⊢
 rcases Int.lt_or_gt_of_ne hb with h | h
 ·rw [Int.sign_eq_neg_one_of_neg h]
  split at h1 <;> split <;> simp_all <;> omega
 ·rw [Int.sign_eq_one_of_pos h]
  split at h1 <;> split <;> simp_all <;> omega

theorem floor_same {a b : Int} (hb : b ≠ 0) (h : a.tmod b = 0 ∨ (a.tmod b < 0 ↔ b < 0)) : a.fdiv b = a.tdiv b ∧ a.fmod b = a.tmod b := by
 have q1 := Int.emod_nonneg a hb
 have q2 := Int.emod_lt a hb
 have hd : b ∣ a ↔ a % b = 0 := Int.dvd_iff_emod_eq_zero
 rw [Int.fdiv_eq_ediv, Int.fmod_eq_emod, Int.tdiv_eq_ediv]
 rw [Int.tmod_eq_emod] at h ⊢
 simp only [hd] at h ⊢
 rcases Int.lt_or_gt_of_ne hb with hh | hh
 ·rw [Int.sign_eq_neg_one_of_neg hh]
  split at h <;> split <;> simp_all <;> omega
 ·rw [Int.sign_eq_one_of_pos hh]
  split at h <;> split <;> simp_all <;> omega

theorem tdiv_in {a b : Int} (ha : In64 a) (hb : b ≠ 0) (hn : ¬(b = -1 ∧ a = -9223372036854775808)) : In64 (a.tdiv b) := by
 have h : (a.tdiv b).natAbs = a.natAbs / b.natAbs := Int.natAbs_tdiv a b
 obtain ⟨h1, h2⟩ := ha
 by_cases hb1 : b = 1
 ·subst hb1; rw [Int.tdiv_one]; exact ⟨h1, h2⟩
 ·by_cases hb2 : b = -1
  ·have ha' : a ≠ -9223372036854775808 := fun e => hn ⟨hb2, e⟩
   have : a.natAbs / b.natAbs ≤ a.natAbs := Nat.div_le_self _ _
   unfold In64; omega
  ·have h3 : a.natAbs / b.natAbs ≤ a.natAbs / 2 := Nat.div_le_div_left (by omega) (by omega)
   unfold In64; omega

theorem tdiv_in1 {a b : Int} (ha : In64 a) (hb : b ≠ 0) (h1 : a.tmod b ≠ 0) : In64 (a.tdiv b - 1) := by
 have h : (a.tdiv b).natAbs = a.natAbs / b.natAbs := Int.natAbs_tdiv a b
 obtain ⟨h2, h3⟩ := ha
 by_cases hb1 : b = 1
 ·subst hb1; simp at h1
 ·by_cases hb2 : b = -1
  ·subst hb2; simp at h1
  ·have h3 : a.natAbs / b.natAbs ≤ a.natAbs / 2 := Nat.div_le_div_left (by omega) (by omega)
   unfold In64; omega

theorem wrap_in {a : Int} (h : In64 a) : IntKind.i64.wrap a = a := by rw [Z4Q]; unfold In64 at h; omega

theorem fmod_in {a b : Int} (hb : In64 b) (hb0 : b ≠ 0) : In64 (a.fmod b) := by
 have q1 := Int.emod_nonneg a hb0
 have q2 := Int.emod_lt a hb0
 rw [Int.fmod_eq_emod]
 unfold In64 at *
 split <;> omega

theorem floor_leaf1 {a b : Int} (ha : In64 a) (hb : In64 b) (h0 : b ≠ 0) (hn : ¬(b = -1 ∧ a = -9223372036854775808)) (h1 : a.tmod b ≠ 0) (h2 : ¬(a.tmod b < 0 ↔ b < 0)) :
  (IntKind.i64.wrap (IntKind.i64.wrap (a.tdiv b) - 1), IntKind.i64.wrap (a.tmod b + b), (0 : Int)) = Z6m a b := by
 obtain ⟨e1, e2⟩ := floor_up h0 h1 h2
 rw [Z6m, if_neg h0, if_neg hn, e1, e2, wrap_in (tdiv_in ha h0 hn), wrap_in (tdiv_in1 ha h0 h1), wrap_in (by rw [← e2]; exact fmod_in hb h0)]

theorem floor_leaf2 {a b : Int} (ha : In64 a) (hb : In64 b) (h0 : b ≠ 0) (hn : ¬(b = -1 ∧ a = -9223372036854775808)) (h : a.tmod b = 0 ∨ (a.tmod b < 0 ↔ b < 0)) :
  (IntKind.i64.wrap (a.tdiv b), a.tmod b, (0 : Int)) = Z6m a b := by
 obtain ⟨e1, e2⟩ := floor_same h0 h
 rw [Z6m, if_neg h0, if_neg hn, e1, e2, wrap_in (tdiv_in ha h0 hn)]


theorem Z6X {a b : Int} (ha : In64 a) (hb : In64 b) : Z19 a b = some (Z6m a b) := by
 unfold Z19
 by_cases h0 : b = 0
 ·subst h0; rfl
 rw [beq_f h0, cond_false]
 by_cases hn : b = -1 ∧ a = -9223372036854775808
 ·obtain ⟨rfl, rfl⟩ := hn
  rfl
 have : (b == -1 && a == -9223372036854775808) = false := by
  simp only [Bool.and_eq_false_iff, beq_eq_false_iff_ne]
  by_cases h : b = -1
  ·exact .inr fun e => hn ⟨h, e⟩
  ·exact .inl h
 rw [this, cond_false, nz?_ok h0]
 simp only [Option.bind_some, pickB, Bool.and_eq_true, bne_iff_ne, ne_eq, decide_eq_decide]
 split
 ·rename_i h
  simp only [Option.bind_some]
  exact congrArg some (floor_leaf1 ha hb h0 hn h.1 h.2)
 ·rename_i h
  simp only [Option.bind_some]
  refine congrArg some (floor_leaf2 ha hb h0 hn ?_)
  by_cases h1 : a.tmod b = 0
  ·exact .inl h1
  ·exact .inr (Classical.byContradiction fun h2 => h ⟨h1, h2⟩)

theorem Z5o {a b : Int} (hb : 0 < b) : a.fdiv b = a / b ∧ a.fmod b = a % b := ⟨Int.fdiv_eq_ediv_of_nonneg a (Int.le_of_lt hb), Int.fmod_eq_emod_of_nonneg a (Int.le_of_lt hb)⟩
theorem floorS_pos {a b : Int} (hb : 0 < b) : Z6m a b = (a / b, a % b, 0) := by
 unfold Z6m
 rw [if_neg (by omega), if_neg (by omega), (Z5o hb).1, (Z5o hb).2]

end Go.Dn

namespace Go.Dn
open Go

theorem Z1d : reachBytes = 140737488351232 := rfl

def ZO (t : Int) : Prop := -1099511627776 ≤ t ∧ t ≤ 1099511627776
instance (t : Int) : Decidable (ZO t) := by unfold ZO; infer_instance
theorem Z4v (t : Int) : ZW t = decide (ZO t) := by
 rw [Bool.eq_iff_iff, decide_eq_true_iff]; simp [ZW, ZO]
theorem Z5Q (t : Int) : Zh t = decide (ZO t) := by
 rw [Bool.eq_iff_iff, decide_eq_true_iff]; simp [Zh, ZO]
theorem Z1z {t : Int} (h : ZO t) : In64 t := by unfold ZO at h; unfold In64; omega

structure RightL (l : List Span) : Prop where
 ok : ∀ (k : Nat) (s : Span), l[k]? = some s → ZO s.From ∧ ZO s.To ∧ s.From ≤ s.To
 gap : ∀ (k : Nat) (s t : Span), l[k]? = some s → l[k + 1]? = some t → s.To + 2 ≤ t.From

abbrev Len (l : List Span) : Prop := l.length * 16 ≤ reachBytes
abbrev Sp64 (l : List Span) : Prop := ∀ s ∈ l, In64 s.From ∧ In64 s.To

theorem Span.ok64 {s : Span} (h : s.ok) : In64 s.From ∧ In64 s.To := h
theorem okSpans {l : List Span} (h : okL 16 Span.ok l) : Len l ∧ Sp64 l := ⟨h.1, fun s hs => Span.ok64 (h.2 s hs)⟩
theorem RightL.sp64 {l : List Span} (h : RightL l) : Sp64 l := fun s hs => by
 obtain ⟨k, hk⟩ := List.getElem?_of_mem hs
 have := h.ok k s hk
 exact ⟨Z1z this.1, Z1z this.2.1⟩

def Z4J (l : List Span) (k : Nat) (s : Span) : Prop := ZO s.From ∧ ZO s.To ∧ s.From ≤ s.To ∧ ∀ p, k ≠ 0 → l[k - 1]? = some p → p.To + 2 ≤ s.From

theorem Z9O {l : List Span} : RightL l ↔ ∀ k s, l[k]? = some s → Z4J l k s := by
 constructor
 ·intro h k s hk
  obtain ⟨h1, h2, h3⟩ := h.ok k s hk
  refine ⟨h1, h2, h3, fun p h0 hp => ?_⟩
  have : k - 1 + 1 = k := by omega
  exact h.gap (k - 1) p s hp (by rw [this]; exact hk)
 ·intro h
  refine ⟨fun k s hk => ⟨(h k s hk).1, (h k s hk).2.1, (h k s hk).2.2.1⟩, fun k s t hs ht => (h (k + 1) t ht).2.2.2 s (by omega) (by simpa using hs)⟩

theorem Z61 {l : List Span} (hl : Len l) (h64 : Sp64 l) : ∃ b, Z02 l = some b ∧ (b = true ↔ RightL l) := by
 have hlen : l.length ≤ maxLen := by rw [Z89]; have := Z1d; unfold Len at hl; omega
 have step : ∀ (k : Nat) (s : Span), l[k]? = some s → (∀ j y, j < k → l[j]? = some y → Z4J l j y) → ∃ b, Z02.s0 l (k : Int) = (if b = true then some (.inl ((k : Int) + 1)) else some (.inr (.ret false))) ∧ (b = true ↔ Z4J l k s) := by
  intro k s hk hprev
  have hlt := (List.getElem?_eq_some_iff.1 hk).1
  have hat : at? l (k : Int) = some s := by rw [at?_nat hlt]; rw [List.getElem?_eq_getElem hlt] at hk; exact hk
  unfold Z02.s0
  rw [Zw (show (k : Int) < l.length by omega), cond_true, hat]
  simp only [Option.bind_some, Z4v]
  have hk1 : w64 ((k : Int) + 1) = k + 1 := Zy (by rw [Z89] at hlen; omega)
  by_cases h1 : ZO s.From ∧ ZO s.To ∧ s.From ≤ s.To
  ·have : (!decide (ZO s.From) || !decide (ZO s.To) || decide (s.From > s.To)) = false := by
    rw [Zw h1.1, Zw h1.2.1, Z0K (by omega)]; rfl
   rw [this, cond_false]
   by_cases h0 : k = 0
   ·subst h0
    refine ⟨true, by simp [w64]; rw [Z4Q]; rfl, by simp [Z4J, h1]⟩
   ·have hk0 : (k : Int) > 0 := by omega
    have hpl : k - 1 < l.length := by omega
    have hp : at? l (w64 ((k : Int) - 1)) = some l[k - 1] := by
     rw [Zy (by rw [Z89] at hlen; omega), show ((k : Int) - 1) = ((k - 1 : Nat) : Int) by omega, at?_nat hpl]
    have hpg := hprev (k - 1) _ (by omega) (List.getElem?_eq_getElem hpl)
    have hpt : w64 (l[k - 1].To + 2) = l[k - 1].To + 2 := by
     have := hpg.2.1; unfold ZO at this; exact Zy (by omega)
    rw [Zw hk0, cond_true, hp]
    simp only [Option.bind_some, hpt]
    refine ⟨!decide (s.From < l[k - 1].To + 2), ?_, ?_⟩
    ·cases hd : decide (s.From < l[k - 1].To + 2) <;> simp [hk1]
    ·simp only [Bool.not_eq_true', decide_eq_false_iff_not, Z4J]
     constructor
     ·intro h; refine ⟨h1.1, h1.2.1, h1.2.2, fun p _ hp' => ?_⟩
      rw [List.getElem?_eq_getElem hpl] at hp'; cases hp'; omega
     ·intro h; have := h.2.2.2 _ h0 (List.getElem?_eq_getElem hpl); omega
  ·refine ⟨false, ?_, by simp only [Bool.false_eq_true, Z4J, false_iff]; intro h; exact h1 ⟨h.1, h.2.1, h.2.2.1⟩⟩
   have : (!decide (ZO s.From) || !decide (ZO s.To) || decide (s.From > s.To)) = true := by
    by_cases a1 : ZO s.From
    ·by_cases a2 : ZO s.To
     ·have a3 : s.From > s.To := by
       apply Classical.byContradiction
       intro h
       exact h1 ⟨a1, a2, by omega⟩
      rw [Zw a3]; simp
     ·rw [Z0K a2]; simp
    ·rw [Z0K a1]; simp
   rw [this]; rfl
 unfold Z02
 rcases Z65 (l := l) (step := Z02.s0 l) (Z4J l) (no := .ret false) (yes := .go ()) (fun k x hk hp => by
   obtain ⟨b, h1, h2⟩ := step k x hk hp
   cases b
   ·exact .inr ⟨h1, fun h => by have := h2.2 h; cases this⟩
   ·exact .inl ⟨h1, h2.1 rfl⟩) (by
   unfold Z02.s0; rw [Z0K (by omega)]; rfl) with ⟨h1, h2⟩ | ⟨h1, h2⟩
 ·rw [h1]; exact ⟨true, rfl, by simp [Z9O.2 h2]⟩
 ·rw [h1]; exact ⟨false, rfl, by simp only [Bool.false_eq_true, false_iff]; exact fun h => h2 (Z9O.1 h)⟩


def Z0V (by_ : Int) (s : Span) : Span := ⟨s.From + by_, s.To + by_⟩

theorem Z6i {l : List Span} {b : Int} (hl : Len l) (h64 : Sp64 l) (hb : In64 b) :
  ((∀ s ∈ l, ZO (s.From + b) ∧ ZO (s.To + b)) ∧ Z0A l b = some (l.map (Z0V b), 0)) ∨ ((¬ ∀ s ∈ l, ZO (s.From + b) ∧ ZO (s.To + b)) ∧ Z0A l b = some ([], 20)) := by
 have hlen : (l.length : Int) < 9223372036854775807 := by have := Z1d; unfold Len at hl; omega
 have step : ∀ (k : Nat) (s : Span) (acc : List Span), l[k]? = some s → acc.length = k → Z0A.s0 l b ((k : Int), acc) = if ZO (s.From + b) ∧ ZO (s.To + b) then some (.inl ((k : Int) + 1, acc ++ [Z0V b s])) else some (.inr (.ret ([], 20))) := by
  intro k s acc hk hacc
  have hlt := (List.getElem?_eq_some_iff.1 hk).1
  have hat : at? l (k : Int) = some s := by rw [at?_nat hlt]; rw [List.getElem?_eq_getElem hlt] at hk; exact hk
  obtain ⟨f64, t64⟩ := h64 s (List.mem_of_getElem? hk)
  unfold Z0A.s0
  rw [Zw (show (k : Int) < l.length by omega), cond_true, hat]
  simp only [Option.bind_some]
  rw [Z8M f64 hb, Z8M t64 hb, Z4v, Z4v]
  have hk1 : w64 ((k : Int) + 1) = k + 1 := Zy (by omega)
  have happ : ∀ x : Span, app? 16 acc [x] = some (acc ++ [x]) := fun x => app?_ok (by
   have := Z1d; have := room_eq; unfold Len at hl; simp; omega)
  rcases fit_or (s.From + b) with ⟨q1, q2⟩ | ⟨q1, q2⟩ <;> rcases fit_or (s.To + b) with ⟨q3, q4⟩ | ⟨q3, q4⟩ <;> rw [q2, q4]
  ·by_cases h : ZO (s.From + b) ∧ ZO (s.To + b)
   ·rw [if_pos h, Zw h.1, Zw h.2]
    simp [happ, hk1, Z0V]
   ·rw [if_neg h]
    have : (!decide (ZO (s.From + b)) || !decide (ZO (s.To + b))) = true := by
     by_cases h1 : ZO (s.From + b)
     ·rw [Z0K (fun h2 => h ⟨h1, h2⟩)]; simp
     ·rw [Z0K h1]; simp
    simp only [bne_self_eq_false, Bool.false_or, Bool.or_assoc] at this ⊢
    rw [this]; rfl
  ·rw [if_neg (fun h => q3 (Z1z h.2))]; rfl
  ·rw [if_neg (fun h => q1 (Z1z h.1))]; rfl
  ·rw [if_neg (fun h => q1 (Z1z h.1))]; rfl
 have hend : ∀ acc, Z0A.s0 l b ((l.length : Int), acc) = some (.inr (.go acc)) := fun acc => by unfold Z0A.s0; rw [Z0K (by omega)]; rfl
 unfold Z0A
 by_cases hall : ∀ s ∈ l, ZO (s.From + b) ∧ ZO (s.To + b)
 ·refine .inl ⟨hall, ?_⟩
  have : ZK (Z0A.s0 l b) (0, []) = some (.go (l.map (Z0V b))) := by
   refine Z3G (I := fun (s : Int × List Span) r => r = .go (l.map (Z0V b)) ∧ ∃ k : Nat, k ≤ l.length ∧ s = ((k : Int), (l.take k).map (Z0V b))) (fun s => l.length - s.1.toNat) ?_ ⟨rfl, 0, Nat.zero_le _, by simp⟩
   rintro s r ⟨rfl, k, hk, rfl⟩
   by_cases hlt : k < l.length
   ·refine .inl ⟨_, by rw [step k l[k] _ (List.getElem?_eq_getElem hlt) (by simp; omega), if_pos (hall _ (List.getElem_mem hlt))], ⟨rfl, k + 1, hlt, ?_⟩, by simp; omega⟩
    rw [List.take_succ_eq_append_getElem hlt, List.map_append]; push_cast; rfl
   ·have : k = l.length := by omega
    subst this
    rw [List.take_length]
    exact .inr (hend _)
  rw [this]; rfl
 ·refine .inr ⟨hall, ?_⟩
  obtain ⟨k0, s0, hk0, hb0, hg⟩ := Z7v (l := l) (good := fun _ s => ZO (s.From + b) ∧ ZO (s.To + b)) (fun h => hall fun s hs => by
   obtain ⟨k, hk⟩ := List.getElem?_of_mem hs; exact h k s hk)
  have hlt0 := (List.getElem?_eq_some_iff.1 hk0).1
  have : ZK (Z0A.s0 l b) (0, []) = some (.ret ([], 20)) := by
   refine Z3G (I := fun (s : Int × List Span) r => r = .ret ([], 20) ∧ ∃ k : Nat, k ≤ k0 ∧ s.1 = (k : Int) ∧ s.2.length = k) (fun s => l.length - s.1.toNat) ?_ ⟨rfl, 0, Nat.zero_le _, rfl, rfl⟩
   rintro ⟨i, acc⟩ r ⟨rfl, k, hk, h1, h2⟩
   simp only at h1 h2
   subst h1
   by_cases hlt : k < k0
   ·have hkl : k < l.length := by omega
    exact .inl ⟨_, by rw [step k l[k] _ (List.getElem?_eq_getElem hkl) h2, if_pos (hg k _ hlt (List.getElem?_eq_getElem hkl))], ⟨rfl, k + 1, hlt, by push_cast; rfl, by simp; omega⟩, by simp; omega⟩
   ·have : k = k0 := by omega
    subst this
    exact .inr (by rw [step k s0 _ hk0 h2, if_neg hb0])
  rw [this]; rfl

theorem RightL.shift {l : List Span} {b : Int} (h : RightL l) (ht : ∀ s ∈ l, ZO (s.From + b) ∧ ZO (s.To + b)) : RightL (l.map (Z0V b)) := by
 constructor
 ·intro k s hk
  rw [List.getElem?_map, Option.map_eq_some_iff] at hk
  obtain ⟨s, hk, rfl⟩ := hk
  have h1 := h.ok k s hk
  have h2 := ht s (List.mem_of_getElem? hk)
  exact ⟨h2.1, h2.2, by simp only [Z0V]; omega⟩
 ·intro k s t hk hk1
  rw [List.getElem?_map, Option.map_eq_some_iff] at hk hk1
  obtain ⟨s, hk, rfl⟩ := hk
  obtain ⟨t, hk1, rfl⟩ := hk1
  have := h.gap k s t hk hk1
  simp only [Z0V]; omega

def Z2i (a b : List Span) : Prop := ∀ x, a.getLast? = some x → ∀ y, b.head? = some y → x.To < y.From

theorem Z4T {a b : List Span} (ha : Len a) : ∃ r, Z0W a b = some r ∧ (r = true ↔ Z2i a b) := by
 unfold Z0W
 cases a with
 | nil => exact ⟨true, by simp, by simp [Z2i]⟩
 | cons x a =>
  cases b with
  | nil => exact ⟨true, by simp, by simp [Z2i]⟩
  | cons y b =>
   have hl : ((x :: a).length : Int) < 9223372036854775807 := by have := Z1d; unfold Len at ha; omega
   have e1 : (((x :: a).length : Int) == 0 || ((y :: b).length : Int) == 0) = false := by simp; omega
   have hlt : (x :: a).length - 1 < (x :: a).length := by simp
   have e2 : at? (x :: a) (w64 (((x :: a).length : Int) - 1)) = some (x :: a)[(x :: a).length - 1] := by
    rw [Zy (by simp at hl ⊢; omega), show (((x :: a).length : Int) - 1) = (((x :: a).length - 1 : Nat) : Int) by simp, at?_nat hlt]
   have e3 : at? (y :: b) 0 = some y := rfl
   rw [e1, cond_false, e2, e3]
   refine ⟨decide ((x :: a)[(x :: a).length - 1].To < y.From), rfl, ?_⟩
   have hlast : (x :: a).getLast? = some (x :: a)[(x :: a).length - 1] := by rw [List.getLast?_eq_getElem?, List.getElem?_eq_getElem hlt]
   simp only [decide_eq_true_eq, Z2i, hlast, List.head?_cons, Option.some.injEq]
   exact ⟨fun h x' hx y' hy => by rw [← hx, ← hy]; exact h, fun h => h _ rfl _ rfl⟩

end Go.Dn

namespace Go.Dn
open Go

theorem Z9i (x y : Int) : Z0Q x y = if x < y then -1 else if y < x then 1 else 0 := by
 unfold Z0Q Zt
 simp only [bne_self_eq_false, cond_false, pickB, decide_eq_true_eq, gt_iff_lt, Bool.false_eq_true, if_false]

def Inc (l : List Granule) : Prop := ∀ (j k : Nat) (a b : Granule), j < k → l[j]? = some a → l[k]? = some b → a.Index < b.Index

theorem bsearch_eq {l : List Granule} {t : Int} (hl : l.length * 32 ≤ reachBytes) (hs : Inc l) : ∃ p : Nat, p ≤ l.length ∧ (∀ (k : Nat) (g : Granule), l[k]? = some g → (k < p ↔ g.Index < t)) ∧
  Z4 l t (fun z0 z1 => some (Z2h z0 z1)) = some ((p : Int), decide (∃ g, l[p]? = some g ∧ g.Index = t)) := by
 have hlen : (l.length : Int) < 4398046511104 * 4 := by have := Z1d; omega
 have hcmp : ∀ g i, Z2h g i = if g.Index < i then -1 else if i < g.Index then 1 else 0 := fun g i => Z9i _ _
 obtain ⟨r, h1, p, rfl, hp, hlow, hhigh⟩ := Z16 (step := Z4.s0 l t (fun z0 z1 => some (Z2h z0 z1)))
  (I := fun s => ∃ i j : Nat, s = ((i : Int), (j : Int)) ∧ i ≤ j ∧ j ≤ l.length ∧ (∀ k g, l[k]? = some g → k < i → g.Index < t) ∧ (∀ k g, l[k]? = some g → j ≤ k → t ≤ g.Index))
  (fun s => (s.2 - s.1).toNat)
  (fun r => ∃ p : Nat, r = (p : Int) ∧ p ≤ l.length ∧ (∀ k g, l[k]? = some g → k < p → g.Index < t) ∧ (∀ k g, l[k]? = some g → p ≤ k → t ≤ g.Index)) (by
  rintro s ⟨i, j, rfl, hij, hj, hlow, hhigh⟩
  unfold Z4.s0
  by_cases hlt : i < j
  ·have hm : w64 ((IntKind.u64.wrap (w64 ((i : Int) + j))).fdiv (2 ^ 1)) = ((i + j) / 2 : Nat) := by
    rw [Zy (x := (i : Int) + j) (by omega), Z56, Int.fdiv_eq_ediv_of_nonneg _ (by decide), Zy (by omega)]
    omega
   have hml : (i + j) / 2 < l.length := by omega
   simp only [hm]
   rw [Zw (show (i : Int) < j by omega), cond_true, at?_nat hml]
   simp only [Option.bind_some, hcmp]
   refine .inl ?_
   have hget := List.getElem?_eq_getElem hml
   by_cases hc : l[(i + j) / 2].Index < t
   ·rw [if_pos hc]
    refine ⟨((((i + j) / 2 + 1 : Nat) : Int), (j : Int)), ?_, ⟨(i + j) / 2 + 1, j, rfl, by omega, hj, fun k g hk hki => ?_, hhigh⟩, by simp; omega⟩
    ·rw [Zy (by omega)]; simp
    ·rcases Nat.lt_or_ge k ((i + j) / 2) with h | h
     ·have := hs k _ g _ h hk hget; omega
     ·have : k = (i + j) / 2 := by omega
      subst this; rw [hget] at hk; cases hk; exact hc
   ·rw [if_neg hc]
    refine ⟨((i : Int), (((i + j) / 2 : Nat) : Int)), ?_, ⟨i, (i + j) / 2, rfl, by omega, by omega, hlow, fun k g hk hki => ?_⟩, by simp; omega⟩
    ·split <;> simp
    ·rcases Nat.lt_or_ge ((i + j) / 2) k with h | h
     ·have := hs _ k _ g h hget hk; omega
     ·have : k = (i + j) / 2 := by omega
      subst this; rw [hget] at hk; cases hk; omega
  ·refine .inr ⟨(i : Int), by rw [Z0K (show ¬ (i : Int) < j by omega)]; rfl, i, rfl, by omega, hlow, fun k g hk hki => hhigh k g hk (by omega)⟩) (0, (l.length : Int)) ⟨0, l.length, rfl, Nat.zero_le _, Nat.le_refl _, fun k g _ h => by omega, fun k g hk h => by
    rw [List.getElem?_eq_none h] at hk; cases hk⟩
 refine ⟨p, hp, fun k g hk => ⟨fun h => hlow k g hk h, fun h => ?_⟩, ?_⟩
 ·rcases Nat.lt_or_ge k p with h2 | h2
  ·exact h2
  ·have := hhigh k g hk h2; omega
 ·unfold Z4
  rw [h1]
  simp only [Option.bind_some]
  by_cases hlt : p < l.length
  ·rw [Zw (show (p : Int) < l.length by omega), cond_true, at?_nat hlt]
   simp only [Option.bind_some, hcmp, Option.some.injEq, Prod.mk.injEq, true_and]
   have := hhigh p _ (List.getElem?_eq_getElem hlt) (Nat.le_refl _)
   rw [List.getElem?_eq_getElem hlt]
   by_cases he : l[p].Index = t
   ·rw [if_neg (by omega), if_neg (by omega)]; simp [he]
   ·rw [if_neg (by omega), if_pos (by omega)]; simp [he]
  ·rw [Z0K (show ¬ (p : Int) < l.length by omega), cond_false]
   simp only [Option.bind_some, Option.some.injEq, Prod.mk.injEq, true_and]
   rw [List.getElem?_eq_none (by omega)]
   simp

structure Shape (f : Form) : Prop where
 count : f.Count = f.Core.length
 zero : f.Count = 0 ↔ f.Period = 0
 per : 0 ≤ f.Period ∧ f.Period ≤ 1099511627776
 core : ∀ l ∈ f.Core, RightL l
 odd : ∀ g ∈ f.Odd, RightL g.Ticks ∧ ZO g.Index
 inc : Inc f.Odd

structure Lim (f : Form) : Prop where
 core : f.Core.length * 24 ≤ reachBytes
 sets : ∀ l ∈ f.Core, Len l ∧ Sp64 l
 odd : f.Odd.length * 32 ≤ reachBytes
 ticks : ∀ g ∈ f.Odd, In64 g.Index ∧ Len g.Ticks ∧ Sp64 g.Ticks
 count : In64 f.Count
 period : In64 f.Period

theorem Form.lim {f : Form} (h : f.ok) : Lim f := by
 obtain ⟨h1, h2, h3, h4⟩ := h
 exact ⟨h3.1, fun l hl => okSpans (h3.2 l hl), h4.1, fun g hg => ⟨(h4.2 g hg).1, okSpans (h4.2 g hg).2⟩, h2, h1⟩

theorem Z4l {f : Form} (hl : Lim f) (hs : Inc f.Odd) (i : Int) : ∃ p : Nat, p ≤ f.Odd.length ∧ (∀ (k : Nat) (g : Granule), f.Odd[k]? = some g → (k < p ↔ g.Index < i)) ∧ Z3e f i = some ((p : Int), decide (∃ g, f.Odd[p]? = some g ∧ g.Index = i)) := by
 obtain ⟨p, h1, h2, h3⟩ := bsearch_eq (t := i) hl.odd hs
 exact ⟨p, h1, h2, by unfold Z3e; rw [h3]; rfl⟩

def Z1B (f : Form) (i : Int) : Prop := ∃ g ∈ f.Odd, g.Index = i
def Z1G (f : Form) (i : Int) : List Span := f.Core.getD (i % f.Count).toNat []
def Z3k (f : Form) (i : Int) : Int := i / f.Count * f.Period
open Classical in
noncomputable def ZQ (f : Form) (i : Int) : List Span := if h : Z1B f i then h.choose.Ticks else if f.Count = 0 then [] else (Z1G f i).map (Z0V (Z3k f i))

theorem Inc.uniq {l : List Granule} (h : Inc l) {a b : Granule} (ha : a ∈ l) (hb : b ∈ l) (he : a.Index = b.Index) : a = b := by
 obtain ⟨j, hj⟩ := List.getElem?_of_mem ha
 obtain ⟨k, hk⟩ := List.getElem?_of_mem hb
 rcases Nat.lt_trichotomy j k with hjk | rfl | hjk
 ·have := h j k a b hjk hj hk; omega
 ·rw [hj] at hk; cases hk; rfl
 ·have := h k j b a hjk hk hj; omega

theorem Z1b {f : Form} (hs : Inc f.Odd) {g : Granule} (hg : g ∈ f.Odd) : ZQ f g.Index = g.Ticks := by
 have h : Z1B f g.Index := ⟨g, hg, rfl⟩
 unfold ZQ
 rw [dif_pos h]
 rw [hs.uniq h.choose_spec.1 hg h.choose_spec.2]
theorem Z1S {f : Form} {i : Int} (h : ¬ Z1B f i) (h0 : f.Count = 0) : ZQ f i = [] := by unfold ZQ; rw [dif_neg h, if_pos h0]
theorem Z28 {f : Form} {i : Int} (h : ¬ Z1B f i) (h0 : f.Count ≠ 0) : ZQ f i = (Z1G f i).map (Z0V (Z3k f i)) := by unfold ZQ; rw [dif_neg h, if_neg h0]

theorem Z7A {f : Form} (hs : Shape f) (h0 : f.Count ≠ 0) : 0 < f.Count := by have := hs.count; omega
theorem Z1l {f : Form} (hs : Shape f) (h0 : f.Count ≠ 0) (i : Int) : at? f.Core (i % f.Count) = some (Z1G f i) ∧ Z1G f i ∈ f.Core := by
 have hp := Z7A hs h0
 have h1 := Int.emod_nonneg i h0
 have h2 := Int.emod_lt_of_pos i hp
 have h3 : (i % f.Count).toNat < f.Core.length := by have := hs.count; omega
 unfold Z1G
 rw [at?_lt h1 (by have := hs.count; omega), List.getD_eq_getElem?_getD, List.getElem?_eq_getElem h3]
 exact ⟨rfl, List.getElem_mem h3⟩

theorem Z6j {f : Form} (hl : Lim f) (hs : Shape f) {g : Granule} (hg : g ∈ f.Odd) : Z1x f g.Index = some (g.Ticks, 0, 0) := by
 obtain ⟨p, h1, h2, h3⟩ := Z4l hl hs.inc g.Index
 obtain ⟨k, hk⟩ := List.getElem?_of_mem hg
 have hkl := (List.getElem?_eq_some_iff.1 hk).1
 have hpk : p ≤ k := by
  rcases Nat.lt_or_ge k p with h | h
  ·have := (h2 k g hk).1 h; omega
  ·exact h
 have hpl : p < f.Odd.length := by omega
 have hpg := h2 p _ (List.getElem?_eq_getElem hpl)
 have : p = k := by
  rcases Nat.lt_or_ge p k with h | h
  ·have := hs.inc p k _ g h (List.getElem?_eq_getElem hpl) hk
   exact absurd (hpg.2 this) (Nat.lt_irrefl _)
  ·omega
 subst this
 unfold Z1x
 rw [h3]
 simp only [Option.bind_some]
 rw [Zw ⟨g, hk, rfl⟩, cond_true, at?_nat hpl]
 rw [List.getElem?_eq_getElem hpl] at hk
 cases hk; rfl

theorem Z5r {f : Form} (hl : Lim f) (hs : Shape f) {i : Int} (hi : In64 i) (ho : ¬ Z1B f i) : Z1x f i = if f.Count = 0 then some ([], 0, 0) else some (Z1G f i, (fitS (Z3k f i)).1, (fitS (Z3k f i)).2) := by
 obtain ⟨p, h1, h2, h3⟩ := Z4l hl hs.inc i
 unfold Z1x
 rw [h3]
 simp only [Option.bind_some]
 rw [Z0K (by rintro ⟨g, hg, he⟩; exact ho ⟨g, List.mem_of_getElem? hg, he⟩), cond_false]
 by_cases h0 : f.Count = 0
 ·rw [beq_t h0, cond_true, if_pos h0]
 ·rw [beq_f h0, cond_false, if_neg h0, Z6X hi hl.count, floorS_pos (Z7A hs h0)]
  simp only [Option.bind_some]
  rw [(Z1l hs h0 i).1]
  simp only [Option.bind_some]
  have hq : In64 (i / f.Count) := by
   have hp := Z7A hs h0
   unfold In64 at hi ⊢
   constructor
   ·have : -9223372036854775808 ≤ i / f.Count := by
     rw [Int.le_ediv_iff_mul_le hp]
     have : (-9223372036854775808) * f.Count ≤ -9223372036854775808 := by
      have : (-9223372036854775808) * f.Count ≤ (-9223372036854775808) * 1 := Int.mul_le_mul_of_nonpos_left (by omega) (by omega)
      omega
     omega
    exact this
   ·have : i / f.Count ≤ 9223372036854775807 := by
     rcases Int.lt_or_le i 0 with h | h
     ·have : i / f.Count < 0 := Int.ediv_neg_of_neg_of_pos h hp
      omega
     ·have := Int.ediv_le_self f.Count h
      omega
    exact this
  rw [safe_Mul_eq hq hl.period]
  rfl

def fits (f : Form) (i : Int) : Prop := ∀ s ∈ ZQ f i, ZO s.From ∧ ZO s.To

theorem shift0 (l : List Span) : l.map (Z0V 0) = l := by
 have : Z0V 0 = id := by funext s; simp [Z0V]
 rw [this, List.map_id]

theorem Z1a {f : Form} {i : Int} (ho : ¬ Z1B f i) (h0 : f.Count ≠ 0) : ZQ f i = [] ↔ Z1G f i = [] := by rw [Z28 ho h0, List.map_eq_nil_iff]

open Classical in
theorem Z4e {f : Form} (hl : Lim f) (hs : Shape f) {i : Int} (hi : In64 i) : Z0F f i = some (if ZO i ∧ fits f i then (ZQ f i, 0) else ([], 20)) := by
 unfold Z0F
 rw [Z5Q]
 by_cases ht : ZO i
 ·rw [Zw ht, Bool.not_true, cond_false]
  by_cases ho : Z1B f i
  ·obtain ⟨g, hg, rfl⟩ := ho
   have hset := Z1b hs.inc hg
   have hr := (hs.odd g hg).1
   have hf : fits f g.Index := by
    intro s hsm
    rw [hset] at hsm
    obtain ⟨k, hk⟩ := List.getElem?_of_mem hsm
    exact ⟨(hr.ok k s hk).1, (hr.ok k s hk).2.1⟩
   rw [Z6j hl hs hg, if_pos ⟨ht, hf⟩, hset]
   simp only [Option.bind_some]
   by_cases hn : g.Ticks = []
   ·rw [hn]; rfl
   ·have : ((g.Ticks.length : Int) == 0) = false := beq_f (by have := List.length_pos_iff.2 hn; omega)
    rw [this, cond_false]
    simp only [bne_self_eq_false, cond_false]
    rcases Z6i (b := 0) (hl.ticks g hg).2.1 hr.sp64 ⟨by decide, by decide⟩ with ⟨_, h2⟩ | ⟨h1, _⟩
    ·rw [h2, shift0]; rfl
    ·refine absurd (fun s hsm => ?_) h1
     rw [← hset] at hsm
     simpa using hf s hsm
  ·rw [Z5r hl hs hi ho]
   by_cases h0 : f.Count = 0
   ·rw [if_pos h0, if_pos ⟨ht, by intro s hsm; rw [Z1S ho h0] at hsm; cases hsm⟩, Z1S ho h0]; rfl
   ·rw [if_neg h0]
    simp only [Option.bind_some]
    by_cases hn : Z1G f i = []
    ·rw [if_pos ⟨ht, by intro s hsm; rw [(Z1a ho h0).2 hn] at hsm; cases hsm⟩, (Z1a ho h0).2 hn, hn]; rfl
    ·have : (((Z1G f i).length : Int) == 0) = false := beq_f (by have := List.length_pos_iff.2 hn; omega)
     rw [this, cond_false]
     have hmem := (Z1l hs h0 i).2
     have hr := hs.core _ hmem
     have hfe : fits f i ↔ ∀ s ∈ Z1G f i, ZO (s.From + Z3k f i) ∧ ZO (s.To + Z3k f i) := by
      unfold fits; rw [Z28 ho h0]
      constructor
      ·intro h s hsm; exact h (Z0V (Z3k f i) s) (List.mem_map.2 ⟨s, hsm, rfl⟩)
      ·intro h s hsm
       obtain ⟨s, hsm', rfl⟩ := List.mem_map.1 hsm
       exact h s hsm'
     rcases fit_or (Z3k f i) with ⟨q1, q2⟩ | ⟨q1, q2⟩ <;> rw [q2]
     ·simp only [bne_self_eq_false, cond_false]
      rcases Z6i (b := Z3k f i) (hl.sets _ hmem).1 hr.sp64 q1 with ⟨h1, h2⟩ | ⟨h1, h2⟩
      ·rw [h2, if_pos ⟨ht, hfe.2 h1⟩, Z28 ho h0]; rfl
      ·rw [h2, if_neg (fun h => h1 (hfe.1 h.2))]; rfl
     ·rw [if_neg]
      ·rfl
      ·rintro ⟨_, h⟩
       have h := hfe.1 h
       obtain ⟨s, hsm⟩ := List.exists_mem_of_ne_nil _ hn
       have h1 := (h s hsm).1
       obtain ⟨k, hk⟩ := List.getElem?_of_mem hsm
       have h2 := (hr.ok k s hk).1
       unfold ZO at h1 h2
       exact q1 (by unfold In64; omega)
 ·rw [Z0K ht, if_neg (fun h => ht h.1)]; rfl

open Classical in
theorem Z7J {f : Form} (hl : Lim f) (hs : Shape f) {i : Int} (hi : In64 i) : Z3J f i = some (decide (ZQ f i ≠ [])) := by
 unfold Z3J
 by_cases ho : Z1B f i
 ·obtain ⟨g, hg, rfl⟩ := ho
  rw [Z6j hl hs hg, Z1b hs.inc hg]
  simp only [Option.bind_some]
  cases g.Ticks <;> simp
 ·rw [Z5r hl hs hi ho]
  by_cases h0 : f.Count = 0
  ·rw [if_pos h0, Z1S ho h0]; rfl
  ·rw [if_neg h0]
   simp only [Option.bind_some, Ne, Z1a ho h0]
   cases Z1G f i <;> simp

end Go.Dn

namespace Go.Dn
open Go

theorem Z4W {α : Type} {l : List α} {b : Nat} (h : l.length * (b + 1) ≤ reachBytes) : (l.length : Int) < 4611686018427387904 := by
 have := Z1d
 have : l.length ≤ l.length * (b + 1) := Nat.le_mul_of_pos_right _ (by omega)
 omega

theorem Z8A {α : Type} {l : List α} {k : Nat} {x : α} (h : l[k]? = some x) : at? l (k : Int) = some x ∧ (k : Int) < l.length := by
 have hlt := (List.getElem?_eq_some_iff.1 h).1
 rw [List.getElem?_eq_getElem hlt] at h
 exact ⟨by rw [at?_nat hlt]; exact h, by omega⟩

theorem shape_core {f : Form} (hl : Lim f) : (ZK (Zd.s0 f) 0 = some (.go ()) ∧ ∀ l ∈ f.Core, RightL l) ∨ (ZK (Zd.s0 f) 0 = some (.ret false) ∧ ¬ ∀ l ∈ f.Core, RightL l) := by
 have hlen := Z4W (b := 23) hl.core
 rcases Z65 (l := f.Core) (step := Zd.s0 f) (fun _ x => RightL x) (no := .ret false) (yes := .go ()) (fun k x hk _ => by
   obtain ⟨h1, h2⟩ := Z8A hk
   obtain ⟨b, hb, hr⟩ := Z61 (hl.sets x (List.mem_of_getElem? hk)).1 (hl.sets x (List.mem_of_getElem? hk)).2
   unfold Zd.s0
   rw [Zw h2, cond_true, h1]
   simp only [Option.bind_some, hb, Zy (show -9223372036854775808 ≤ (k : Int) + 1 ∧ (k : Int) + 1 ≤ 9223372036854775807 by omega)]
   cases b
   ·exact .inr ⟨rfl, fun h => by have := hr.2 h; cases this⟩
   ·exact .inl ⟨rfl, hr.1 rfl⟩) (by unfold Zd.s0; rw [Z0K (by omega)]; rfl) with ⟨h1, h2⟩ | ⟨h1, h2⟩
 ·exact .inl ⟨h1, fun l hm => by obtain ⟨k, hk⟩ := List.getElem?_of_mem hm; exact h2 k l hk⟩
 ·exact .inr ⟨h1, fun h => h2 fun k x hk => h x (List.mem_of_getElem? hk)⟩

def goodOdd (f : Form) (k : Nat) (g : Granule) : Prop := RightL g.Ticks ∧ ZO g.Index ∧ ∀ p, k ≠ 0 → f.Odd[k - 1]? = some p → p.Index < g.Index

theorem shape_odd {f : Form} (hl : Lim f) : (ZK (Zd.s1 f) 0 = some (.go ()) ∧ ∀ k g, f.Odd[k]? = some g → goodOdd f k g) ∨ (ZK (Zd.s1 f) 0 = some (.ret false) ∧ ¬ ∀ k g, f.Odd[k]? = some g → goodOdd f k g) := by
 have hlen := Z4W (b := 31) hl.odd
 refine Z65 (l := f.Odd) (step := Zd.s1 f) (goodOdd f) (no := .ret false) (yes := .go ()) (fun k x hk _ => ?_) (by unfold Zd.s1; rw [Z0K (by omega)]; rfl)
 obtain ⟨h1, h2⟩ := Z8A hk
 have hx := hl.ticks x (List.mem_of_getElem? hk)
 obtain ⟨b, hb, hr⟩ := Z61 hx.2.1 hx.2.2
 unfold Zd.s1
 rw [Zw h2, cond_true, h1]
 simp only [Option.bind_some, hb, Z5Q, Zy (show -9223372036854775808 ≤ (k : Int) + 1 ∧ (k : Int) + 1 ≤ 9223372036854775807 by omega)]
 by_cases hbt : b = true ∧ ZO x.Index
 ·rw [hbt.1, Zw hbt.2]
  simp only [Bool.not_true, Bool.or_self, cond_false]
  by_cases h0 : k = 0
  ·subst h0
   exact .inl ⟨by simp, hr.1 hbt.1, hbt.2, fun p h => absurd rfl h⟩
  ·have hpl : k - 1 < f.Odd.length := by omega
   rw [Zw (show (k : Int) > 0 by omega), cond_true, Zy (by omega), show (k : Int) - 1 = ((k - 1 : Nat) : Int) by omega, at?_nat hpl]
   simp only [Option.bind_some]
   by_cases hc : x.Index ≤ f.Odd[k - 1].Index
   ·rw [Zw hc]
    refine .inr ⟨rfl, fun h => ?_⟩
    have := h.2.2 _ h0 (List.getElem?_eq_getElem hpl); omega
   ·rw [Z0K hc]
    refine .inl ⟨rfl, hr.1 hbt.1, hbt.2, fun p _ hp => ?_⟩
    rw [List.getElem?_eq_getElem hpl] at hp; cases hp; omega
 ·have : (!b || !decide (ZO x.Index)) = true := by
   cases b
   ·rfl
   ·rw [Z0K (fun h => hbt ⟨rfl, h⟩)]; rfl
  rw [this, cond_true]
  exact .inr ⟨rfl, fun h => hbt ⟨hr.2 h.1, h.2.1⟩⟩

theorem inc_of {f : Form} (h : ∀ k g, f.Odd[k]? = some g → goodOdd f k g) : Inc f.Odd := by
 intro j k a b hjk ha hb
 induction k generalizing b with
 | zero => omega
 | succ k ih =>
  have hkl := (List.getElem?_eq_some_iff.1 hb).1
  have h1 := (h (k + 1) b hb).2.2 f.Odd[k] (by omega) (by simp [List.getElem?_eq_getElem (show k < f.Odd.length by omega)])
  rcases Nat.lt_or_ge j k with h2 | h2
  ·have := ih _ h2 (List.getElem?_eq_getElem (show k < f.Odd.length by omega)); omega
  ·have : j = k := by omega
   subst this
   rw [List.getElem?_eq_getElem (show j < f.Odd.length by omega)] at ha; cases ha; exact h1

theorem gran_shape_eq {f : Form} (hl : Lim f) : ∃ b, Zd f = some b ∧ (b = true ↔ Shape f) := by
 unfold Zd
 by_cases h1 : f.Count = f.Core.length ∧ (f.Count = 0 ↔ f.Period = 0) ∧ 0 ≤ f.Period ∧ f.Period ≤ 1099511627776
 ·have e : (f.Count != (f.Core.length : Int) || (f.Count == 0) != (f.Period == 0) || decide (f.Period < 0) || decide (f.Period > 1099511627776)) = false := by
   rw [bne_f h1.1, Z0K (show ¬ f.Period < 0 by omega), Z0K (show ¬ f.Period > 1099511627776 by omega)]
   simp only [Bool.false_or, Bool.or_false, bne_eq_false_iff_eq, ibeq, decide_eq_decide]
   exact h1.2.1
  rw [e, cond_false]
  rcases shape_core hl with ⟨h2, h3⟩ | ⟨h2, h3⟩
  ·rw [h2]
   simp only [Option.bind_some, Jx.elim]
   rcases shape_odd hl with ⟨h4, h5⟩ | ⟨h4, h5⟩
   ·rw [h4]
    exact ⟨true, rfl, fun _ => ⟨h1.1, h1.2.1, h1.2.2, h3, fun g hg => by obtain ⟨k, hk⟩ := List.getElem?_of_mem hg; exact ⟨(h5 k g hk).1, (h5 k g hk).2.1⟩, inc_of h5⟩, fun _ => rfl⟩
   ·rw [h4]
    refine ⟨false, rfl, fun h => (by cases h), fun h => absurd (fun k g hk => ⟨(h.odd g (List.mem_of_getElem? hk)).1, (h.odd g (List.mem_of_getElem? hk)).2, fun p h0 hp => h.inc (k - 1) k p g (by omega) hp hk⟩) h5⟩
  ·rw [h2]
   exact ⟨false, rfl, fun h => (by cases h), fun h => absurd h.core h3⟩
 ·have e : (f.Count != (f.Core.length : Int) || (f.Count == 0) != (f.Period == 0) || decide (f.Period < 0) || decide (f.Period > 1099511627776)) = true := by
   apply Classical.byContradiction
   intro hn
   simp only [Bool.not_eq_true, Bool.or_eq_false_iff, bne_eq_false_iff_eq, decide_eq_false_iff_not, ibeq, decide_eq_decide] at hn
   exact h1 ⟨hn.1.1.1, hn.1.1.2, by omega, by omega⟩
  rw [e, cond_true]
  exact ⟨false, rfl, fun h => (by cases h), fun h => absurd ⟨h.count, h.zero, h.per⟩ h1⟩

def fstT (l : List Span) : Int := (l.head?.map Span.From).getD 0
def lstT (l : List Span) : Int := (l.getLast?.map Span.To).getD 0

theorem Z8w {a b : List Span} (ha : a ≠ []) (hb : b ≠ []) : Z2i a b ↔ lstT a < fstT b := by
 unfold Z2i lstT fstT
 rw [List.getLast?_eq_some_getLast ha, List.head?_eq_some_head hb]
 simp

theorem RightL.tail {s : Span} {l : List Span} (h : RightL (s :: l)) : RightL l :=
 ⟨fun k x hk => h.ok (k + 1) x hk, fun k x y hx hy => h.gap (k + 1) x y hx hy⟩

theorem Z3T {l : List Span} (h : RightL l) (hn : l ≠ []) : fstT l ≤ lstT l := by
 induction l with
 | nil => exact absurd rfl hn
 | cons s l ih =>
  have h0 := h.ok 0 s rfl
  cases l with
  | nil => simp [fstT, lstT]; exact h0.2.2
  | cons t l =>
   have h1 := h.gap 0 s t rfl rfl
   have h2 := ih h.tail (by simp)
   have e1 : lstT (s :: t :: l) = lstT (t :: l) := by simp [lstT]
   have e2 : fstT (t :: l) = t.From := rfl
   have e3 : fstT (s :: t :: l) = s.From := rfl
   rw [e1, e3]; rw [e2] at h2; omega

theorem lst_tick {l : List Span} (h : RightL l) (hn : l ≠ []) : ZO (lstT l) ∧ ZO (fstT l) := by
 have h1 : l.getLast? = some (l.getLast hn) := List.getLast?_eq_some_getLast hn
 have h2 : l.head? = some (l.head hn) := List.head?_eq_some_head hn
 obtain ⟨j, hj⟩ := List.getElem?_of_mem (List.getLast_mem hn)
 obtain ⟨k, hk⟩ := List.getElem?_of_mem (List.head_mem hn)
 unfold lstT fstT
 rw [h1, h2]
 exact ⟨(h.ok j _ hj).2.1, (h.ok k _ hk).1⟩

def full (f : Form) : List (List Span) := f.Core.filter (fun l => decide (l.length > 0))
def Turns (f : Form) : Prop := (∀ (k : Nat) (a b : List Span), (full f)[k]? = some a → (full f)[k + 1]? = some b → lstT a < fstT b) ∧ ∀ a b, (full f).getLast? = some a → (full f).head? = some b → lstT a < fstT b + f.Period

theorem full_loop {f : Form} (hl : Lim f) : ZK (Z06.s0 f) (0, []) = some (full f) := by
 have hlen := Z4W (b := 23) hl.core
 refine Z3G (I := fun s r => r = full f ∧ ∃ k : Nat, k ≤ f.Core.length ∧ s = ((k : Int), (f.Core.take k).filter (fun l => decide (l.length > 0)))) (fun s => f.Core.length - s.1.toNat) ?_ ⟨rfl, 0, Nat.zero_le _, by simp⟩
 rintro s r ⟨rfl, k, hk, rfl⟩
 unfold Z06.s0
 by_cases hlt : k < f.Core.length
 ·have htake : f.Core.take (k + 1) = f.Core.take k ++ [f.Core[k]] := List.take_succ_eq_append_getElem hlt
  simp only
  rw [Zw (show (k : Int) < f.Core.length by omega), cond_true, at?_nat hlt, Zy (by omega)]
  simp only [Option.bind_some]
  refine .inl ?_
  have hfl : ((f.Core.take k).filter (fun l => decide (l.length > 0))).length ≤ k := Nat.le_trans (List.length_filter_le _ _) (by rw [List.length_take]; exact Nat.min_le_left _ _)
  by_cases hc : f.Core[k].length > 0
  ·rw [Zw (show ((f.Core[k].length : Int) > 0) by omega), cond_true, app?_ok (by have h1 := hl.core; rw [Z1d] at h1; rw [room_eq]; simp only [List.length_singleton]; omega)]
   exact ⟨_, rfl, ⟨trivial, k + 1, hlt, by rw [htake, List.filter_append]; simp [hc]⟩, by simp; omega⟩
  ·rw [Z0K (show ¬ ((f.Core[k].length : Int) > 0) by omega), cond_false]
   exact ⟨_, rfl, ⟨trivial, k + 1, hlt, by rw [htake, List.filter_append]; simp [hc]⟩, by simp; omega⟩
 ·have : k = f.Core.length := by omega
  subst this
  simp only
  rw [Z0K (show ¬ ((f.Core.length : Int) < f.Core.length) by omega), cond_false, List.take_length]
  exact .inr rfl

theorem gran_turns_eq {f : Form} (hl : Lim f) (hs : Shape f) : ∃ b, Z06 f = some b ∧ (b = true ↔ Turns f) := by
 have hlen := Z4W (b := 23) hl.core
 have hfl : (full f).length ≤ f.Core.length := List.length_filter_le _ _
 have hmem : ∀ x ∈ full f, x ∈ f.Core ∧ x ≠ [] := fun x hx => by
  have := List.mem_filter.1 hx
  exact ⟨this.1, by rintro rfl; simp at this⟩
 unfold Z06
 rw [full_loop hl]
 simp only [Option.bind_some]
 rcases Z65 (l := full f) (step := Z06.s1 f (full f)) (fun k a => ∀ b, (full f)[(k + 1) % (full f).length]? = some b → lstT a < fstT b + (if k + 1 = (full f).length then f.Period else 0)) (no := .ret false) (yes := .go ()) (fun k a hk _ => by
   obtain ⟨h1, h2⟩ := Z8A hk
   have hkl : k < (full f).length := by omega
   have hmod : (k + 1) % (full f).length < (full f).length := Nat.mod_lt _ (by omega)
   have hnext : at? (full f) ((((k + 1) % (full f).length : Nat) : Int)) = some (full f)[(k + 1) % (full f).length] := at?_nat hmod
   obtain ⟨ha1, ha2⟩ := hmem a (List.mem_of_getElem? hk)
   obtain ⟨hb1, hb2⟩ := hmem _ (List.getElem_mem hmod)
   have hra := hs.core a ha1
   have hrb := hs.core _ hb1
   have hal : a.length - 1 < a.length := by have := List.length_pos_iff.2 ha2; omega
   have hlast : at? a (w64 ((a.length : Int) - 1)) = some a[a.length - 1] := by
    have := Z4W (b := 15) (hl.sets a ha1).1
    rw [Zy (by omega), show (a.length : Int) - 1 = ((a.length - 1 : Nat) : Int) by omega, at?_nat hal]
   have hlt : lstT a = a[a.length - 1].To := by unfold lstT; rw [List.getLast?_eq_getElem?, List.getElem?_eq_getElem hal]; rfl
   unfold Z06.s1
   rw [Zw h2, cond_true, h1, nz?_ok (by omega), Zy (x := (k : Int) + 1) (by omega)]
   have htm : ((k : Int) + 1).tmod ((full f).length : Int) = (((k + 1) % (full f).length : Nat) : Int) := by
    rw [Int.tmod_eq_emod_of_nonneg (by omega)]; push_cast; rfl
   simp only [Option.bind_some, htm, hnext, hlast]
   rw [List.getElem?_eq_getElem hmod]
   generalize (full f)[(k + 1) % (full f).length] = b at *
   have hb0 : at? b 0 = some (b.head hb2) := by
    cases b with
    | nil => exact absurd rfl hb2
    | cons y b => rfl
   have hbf : fstT b = (b.head hb2).From := by unfold fstT; rw [List.head?_eq_some_head hb2]; rfl
   have htick := (lst_tick hrb hb2).2
   unfold ZO at htick
   have hper := hs.per
   by_cases hl1 : k + 1 = (full f).length
   ·have e : ((k : Int) + 1 == ((full f).length : Int)) = true := beq_t (by omega)
    rw [e, cond_true]
    simp only [Option.bind_some, hb0, ← hbf, Zy (show -9223372036854775808 ≤ fstT b + f.Period ∧ fstT b + f.Period ≤ 9223372036854775807 by omega), ← hlt, if_pos hl1]
    by_cases hc : lstT a ≥ fstT b + f.Period
    ·rw [Zw hc]; exact .inr ⟨rfl, fun h => by have := h b rfl; omega⟩
    ·rw [Z0K hc]; exact .inl ⟨rfl, fun b' hb' => by cases hb'; omega⟩
   ·have e : ((k : Int) + 1 == ((full f).length : Int)) = false := beq_f (by omega)
    rw [e, cond_false]
    simp only [Option.bind_some, hb0, ← hbf, Zy (show -9223372036854775808 ≤ fstT b + 0 ∧ fstT b + 0 ≤ 9223372036854775807 by omega), ← hlt, if_neg hl1]
    by_cases hc : lstT a ≥ fstT b + 0
    ·rw [Zw hc]; exact .inr ⟨rfl, fun h => by have := h b rfl; omega⟩
    ·rw [Z0K hc]; exact .inl ⟨rfl, fun b' hb' => by cases hb'; omega⟩) (by unfold Z06.s1; rw [Z0K (by omega)]; rfl) with ⟨h1, h2⟩ | ⟨h1, h2⟩
 ·rw [h1]
  refine ⟨true, rfl, fun _ => ⟨fun k a b ha hb => ?_, fun a b ha hb => ?_⟩, fun _ => rfl⟩
  ·have hkl := (List.getElem?_eq_some_iff.1 hb).1
   have := h2 k a ha b (by rw [Nat.mod_eq_of_lt hkl]; exact hb)
   rw [if_neg (by omega)] at this; omega
  ·have hn : full f ≠ [] := by rintro e; rw [e] at ha; simp at ha
   have hpos := List.length_pos_iff.2 hn
   rw [List.getLast?_eq_getElem?] at ha
   have e1 : (full f).length - 1 + 1 = (full f).length := by omega
   have := h2 _ a ha b (by rw [e1, Nat.mod_self, ← List.head?_eq_getElem?]; exact hb)
   rw [if_pos e1] at this; exact this
 ·rw [h1]
  refine ⟨false, rfl, fun h => (by cases h), fun h => absurd (fun k a hk b hb => ?_) h2⟩
  have hkl := (List.getElem?_eq_some_iff.1 hk).1
  by_cases hl1 : k + 1 = (full f).length
  ·rw [if_pos hl1]
   rw [hl1, Nat.mod_self, ← List.head?_eq_getElem?] at hb
   exact h.2 a b (by rw [List.getLast?_eq_getElem?, ← hl1]; exact hk) hb
  ·rw [if_neg hl1]
   rw [Nat.mod_eq_of_lt (by omega)] at hb
   have := h.1 k a b hk hb; omega

end Go.Dn

namespace Go.Dn
open Go

theorem Z8j {l : List (List Span)} {p : List Span → Bool} (hl : l.length * 24 ≤ reachBytes) : ZY l (fun z => some (p z)) = some (decide (∃ x ∈ l, p x = true)) := by
 have hlen := Z4W (b := 23) hl
 unfold ZY ZF
 by_cases hall : ∀ (k : Nat) (x : List Span), l[k]? = some x → ¬ p x = true
 ·have : ZK (ZF.s0 l (fun z => some (p z))) 0 = some (.go ()) := by
   refine Z3G (I := fun (s : Int) r => r = .go () ∧ ∃ k : Nat, s = k ∧ k ≤ l.length) (fun s => l.length - s.toNat) ?_ ⟨rfl, 0, rfl, Nat.zero_le _⟩
   rintro s r ⟨rfl, k, rfl, hk⟩
   unfold ZF.s0
   by_cases hlt : k < l.length
   ·rw [Zw (show (k : Int) < l.length by omega), cond_true, at?_nat hlt, Zy (by omega)]
    have := hall k _ (List.getElem?_eq_getElem hlt)
    simp only [Option.bind_some, Bool.not_eq_true] at this ⊢
    rw [this]
    exact .inl ⟨_, rfl, ⟨trivial, k + 1, by push_cast; rfl, hlt⟩, by simp; omega⟩
   ·rw [Z0K (show ¬ (k : Int) < l.length by omega)]; exact .inr rfl
  rw [this, Z0K (by rintro ⟨x, hx, hp⟩; obtain ⟨k, hk⟩ := List.getElem?_of_mem hx; exact hall k x hk hp)]
  rfl
 ·obtain ⟨k0, x0, hx0, hb0, hg⟩ := Z7v (good := fun _ x => ¬ p x = true) hall
  have hb0 : p x0 = true := Classical.byContradiction hb0
  have hlt0 := (List.getElem?_eq_some_iff.1 hx0).1
  have : ZK (ZF.s0 l (fun z => some (p z))) 0 = some (.ret (k0 : Int)) := by
   refine Z3G (I := fun (s : Int) r => r = .ret (k0 : Int) ∧ ∃ k : Nat, s = k ∧ k ≤ k0) (fun s => l.length - s.toNat) ?_ ⟨rfl, 0, rfl, Nat.zero_le _⟩
   rintro s r ⟨rfl, k, rfl, hk⟩
   unfold ZF.s0
   have hkl : k < l.length := by omega
   rw [Zw (show (k : Int) < l.length by omega), cond_true, at?_nat hkl, Zy (by omega)]
   by_cases hlt : k < k0
   ·have := hg k _ hlt (List.getElem?_eq_getElem hkl)
    simp only [Option.bind_some, Bool.not_eq_true] at this ⊢
    rw [this]
    exact .inl ⟨_, rfl, ⟨trivial, k + 1, by push_cast; rfl, hlt⟩, by simp; omega⟩
   ·have : k = k0 := by omega
    subst this
    rw [List.getElem?_eq_getElem hkl] at hx0
    cases hx0
    simp only [Option.bind_some, hb0]
    exact .inr rfl
  rw [this, Zw ⟨x0, List.mem_of_getElem? hx0, hb0⟩]
  simp only [Option.bind_some, Jx.elim]
  rw [Zw (by omega)]

def Bare (f : Form) : Prop := ∀ l ∈ f.Core, l = []
theorem Z7L {f : Form} (hl : Lim f) : ∃ b, Z3O f = some b ∧ (b = true ↔ Bare f) := by
 unfold Z3O
 rw [Z8j hl.core]
 refine ⟨_, rfl, ?_⟩
 simp only [Z3c, Bool.not_eq_true', decide_eq_false_iff_not, decide_eq_true_eq]
 constructor
 ·intro h l hm
  apply Classical.byContradiction
  intro hn
  exact h ⟨l, hm, by have := List.length_pos_iff.2 hn; omega⟩
 ·rintro h ⟨l, hm, hp⟩
  rw [h l hm] at hp; simp at hp

theorem Z5O {f : Form} (hs : Shape f) (hb : Bare f) {i : Int} (ho : ¬ Z1B f i) : ZQ f i = [] := by
 by_cases h0 : f.Count = 0
 ·exact Z1S ho h0
 ·exact (Z1a ho h0).2 (hb _ (Z1l hs h0 i).2)

def UpTo (f : Form) (i : Int) (r : Int × Bool) : Prop := (r.2 = true ∧ i ≤ r.1 ∧ ZO r.1 ∧ ZQ f r.1 ≠ [] ∧ ∀ k, i ≤ k → k < r.1 → ZQ f k = []) ∨ (r.2 = false ∧ r.1 = 0 ∧ ∀ k, i ≤ k → ZO k → ZQ f k = [])
def DownTo (f : Form) (i : Int) (r : Int × Bool) : Prop := (r.2 = true ∧ r.1 ≤ i ∧ ZO r.1 ∧ ZQ f r.1 ≠ [] ∧ ∀ k, k ≤ i → r.1 < k → ZQ f k = []) ∨ (r.2 = false ∧ r.1 = 0 ∧ ∀ k, k ≤ i → ZO k → ZQ f k = [])

theorem odd_split {f : Form} (hs : Shape f) {p : Nat} {i : Int} (hp : ∀ (k : Nat) (g : Granule), f.Odd[k]? = some g → (k < p ↔ g.Index < i)) {j : Int} (hj : Z1B f j) : ∃ (k : Nat) (g : Granule), f.Odd[k]? = some g ∧ g.Index = j ∧ (k < p ↔ j < i) := by
 obtain ⟨g, hg, rfl⟩ := hj
 obtain ⟨k, hk⟩ := List.getElem?_of_mem hg
 exact ⟨k, g, hk, rfl, hp k g hk⟩

theorem gran_step_up {f : Form} (hl : Lim f) (hs : Shape f) {i : Int} (hi : -1099511627776 ≤ i ∧ i ≤ 1099511627776) : ∃ r, Zq f i 1 = some r ∧ UpTo f i r := by
 have hi64 : In64 i := by unfold In64; omega
 obtain ⟨b, hb, hbb⟩ := Z7L hl
 have holen := Z4W (b := 31) hl.odd
 unfold Zq
 rw [hb]
 simp only [Option.bind_some]
 cases b with
 | true =>
  have hbare := hbb.1 rfl
  rw [cond_true]
  obtain ⟨p, h1, h2, h3⟩ := Z4l hl hs.inc i
  rw [h3]
  simp only [Option.bind_some, Z0K (show ¬ (1 : Int) < 0 by omega), Bool.false_and, cond_false]
  obtain ⟨r, hr, hpost⟩ := Z16 (step := Zq.s0 f 1) (I := fun (s : Int) => ∃ k : Nat, s = k ∧ p ≤ k ∧ k ≤ f.Odd.length ∧ ∀ (j : Nat) (g : Granule), f.Odd[j]? = some g → p ≤ j → j < k → g.Ticks = []) (fun s => f.Odd.length - s.toNat)
   (fun r => (∃ (k : Nat) (g : Granule), r = .ret (g.Index, true) ∧ f.Odd[k]? = some g ∧ p ≤ k ∧ g.Ticks ≠ [] ∧ ∀ (j : Nat) (g' : Granule), f.Odd[j]? = some g' → p ≤ j → j < k → g'.Ticks = []) ∨ (r = .go () ∧ ∀ (j : Nat) (g' : Granule), f.Odd[j]? = some g' → p ≤ j → g'.Ticks = [])) (by
   rintro s ⟨k, rfl, hpk, hk, hn⟩
   unfold Zq.s0
   by_cases hlt : k < f.Odd.length
   ·rw [Zw (show (k : Int) ≥ 0 by omega), Zw (show (k : Int) < f.Odd.length by omega), Bool.and_self, cond_true, at?_nat hlt, Zy (by omega)]
    simp only [Option.bind_some]
    have hget := List.getElem?_eq_getElem hlt
    by_cases hc : f.Odd[k].Ticks = []
    ·rw [hc]
     refine .inl ⟨(k : Int) + 1, rfl, ⟨k + 1, by push_cast; rfl, by omega, hlt, fun j g hj hpj hjk => ?_⟩, by simp; omega⟩
     rcases Nat.lt_or_ge j k with h | h
     ·exact hn j g hj hpj h
     ·have : j = k := by omega
      subst this; rw [hget] at hj; cases hj; exact hc
    ·rw [Zw (show ((f.Odd[k].Ticks.length : Int) > 0) by have := List.length_pos_iff.2 hc; omega), cond_true]
     exact .inr ⟨_, rfl, .inl ⟨k, _, rfl, hget, hpk, hc, hn⟩⟩
   ·rw [Z0K (show ¬ (k : Int) < f.Odd.length by omega), Bool.and_false, cond_false]
    refine .inr ⟨_, rfl, .inr ⟨rfl, fun j g hj hpj => hn j g hj hpj ?_⟩⟩
    have := (List.getElem?_eq_some_iff.1 hj).1; omega) (p : Int) ⟨p, rfl, Nat.le_refl _, h1, fun j g _ h h' => by omega⟩
  rw [hr]
  simp only [Option.bind_some]
  rcases hpost with ⟨k, g, rfl, hk, hpk, hne, hn⟩ | ⟨rfl, hn⟩
  ·have hset := Z1b hs.inc (List.mem_of_getElem? hk)
   have hgi : ¬ g.Index < i := fun h => by have := (h2 k g hk).2 h; omega
   refine ⟨_, rfl, .inl ⟨rfl, by simp only; omega, (hs.odd g (List.mem_of_getElem? hk)).2, by simp only; rw [hset]; exact hne, fun j hij hjg => ?_⟩⟩
   simp only at hjg
   by_cases ho : Z1B f j
   ·obtain ⟨k', g', hk', rfl, hiff⟩ := odd_split hs h2 ho
    rw [Z1b hs.inc (List.mem_of_getElem? hk')]
    refine hn k' g' hk' ?_ ?_
    ·rcases Nat.lt_or_ge k' p with h | h
     ·have := hiff.1 h; omega
     ·exact h
    ·rcases Nat.lt_or_ge k' k with h | h
     ·exact h
     ·rcases Nat.lt_or_ge k k' with h' | h'
      ·have := hs.inc k k' g g' h' hk hk'; omega
      ·have : k = k' := by omega
       subst this; rw [hk] at hk'; cases hk'; omega
   ·exact Z5O hs hbare ho
  ·refine ⟨_, rfl, .inr ⟨rfl, rfl, fun j hij _ => ?_⟩⟩
   by_cases ho : Z1B f j
   ·obtain ⟨k', g', hk', rfl, hiff⟩ := odd_split hs h2 ho
    rw [Z1b hs.inc (List.mem_of_getElem? hk')]
    refine hn k' g' hk' ?_
    rcases Nat.lt_or_ge k' p with h | h
    ·have := hiff.1 h; omega
    ·exact h
   ·exact Z5O hs hbare ho
 | false =>
  rw [cond_false]
  obtain ⟨r, hr, hpost⟩ := Z16 (step := Zq.s1 f 1) (I := fun (s : Int) => i ≤ s ∧ s ≤ 1099511627777 ∧ ∀ k, i ≤ k → k < s → ZQ f k = []) (fun s => (1099511627777 - s).toNat)
   (fun r => (∃ j, r = .ret (j, true) ∧ i ≤ j ∧ ZO j ∧ ZQ f j ≠ [] ∧ ∀ k, i ≤ k → k < j → ZQ f k = []) ∨ (r = .go () ∧ ∀ k, i ≤ k → ZO k → ZQ f k = [])) (by
   rintro s ⟨hs1, hs2, hn⟩
   unfold Zq.s1
   rw [Z5Q]
   by_cases ht : ZO s
   ·rw [Zw ht, cond_true, Z7J hl hs (Z1z ht), Zy (by unfold ZO at ht; omega)]
    simp only [Option.bind_some]
    by_cases hc : ZQ f s = []
    ·rw [hc]
     refine .inl ⟨s + 1, by simp, ⟨by omega, by unfold ZO at ht; omega, fun k hk hks => ?_⟩, by unfold ZO at ht; omega⟩
     by_cases h : k = s
     ·rw [h]; exact hc
     ·exact hn k hk (by omega)
    ·rw [Zw hc, cond_true]
     exact .inr ⟨_, rfl, .inl ⟨s, rfl, hs1, ht, hc, hn⟩⟩
   ·rw [Z0K ht, cond_false]
    exact .inr ⟨_, rfl, .inr ⟨rfl, fun k hk htk => hn k hk (by unfold ZO at ht htk; omega)⟩⟩) i ⟨Int.le_refl _, by omega, fun k h h' => by omega⟩
  rw [hr]
  simp only [Option.bind_some]
  rcases hpost with ⟨j, rfl, h1, h2, h3, h4⟩ | ⟨rfl, hn⟩
  ·exact ⟨_, rfl, .inl ⟨rfl, h1, h2, h3, h4⟩⟩
  ·exact ⟨_, rfl, .inr ⟨rfl, rfl, hn⟩⟩

theorem Z8q {f : Form} (hl : Lim f) (hs : Shape f) {i : Int} (hi : -1099511627776 ≤ i ∧ i ≤ 1099511627776) : ∃ r, Zq f i (-1) = some r ∧ DownTo f i r := by
 have hi64 : In64 i := by unfold In64; omega
 obtain ⟨b, hb, hbb⟩ := Z7L hl
 have holen := Z4W (b := 31) hl.odd
 unfold Zq
 rw [hb]
 simp only [Option.bind_some]
 cases b with
 | true =>
  have hbare := hbb.1 rfl
  rw [cond_true]
  obtain ⟨p, h1, h2, h3⟩ := Z4l hl hs.inc i
  rw [h3]
  -- the number of exceptions up to the index
  obtain ⟨q, hq1, hq2, hq3⟩ : ∃ q : Nat, q ≤ f.Odd.length ∧ (∀ (k : Nat) (g : Granule), f.Odd[k]? = some g → (k < q ↔ g.Index ≤ i)) ∧ ((bif (decide ((-1 : Int) < 0) && !decide (∃ g, f.Odd[p]? = some g ∧ g.Index = i)) then some (w64 ((p : Int) - 1)) else some (p : Int)) : Option Int) = some ((q : Int) - 1) := by
   by_cases he : ∃ g, f.Odd[p]? = some g ∧ g.Index = i
   ·obtain ⟨g, hg, hgi⟩ := he
    have hpl := (List.getElem?_eq_some_iff.1 hg).1
    refine ⟨p + 1, by omega, fun k g' hk => ?_, by rw [Zw (p := ∃ g, f.Odd[p]? = some g ∧ g.Index = i) ⟨g, hg, hgi⟩]; simp⟩
    have := h2 k g' hk
    constructor
    ·intro h
     rcases Nat.lt_or_ge k p with h' | h'
     ·have := this.1 h'; omega
     ·have : k = p := by omega
      subst this; rw [hg] at hk; cases hk; omega
    ·intro h
     rcases Nat.lt_or_ge p k with h' | h'
     ·have := hs.inc p k g g' h' hg hk; omega
     ·omega
   ·refine ⟨p, h1, fun k g' hk => ?_, by rw [Z0K (p := ∃ g, f.Odd[p]? = some g ∧ g.Index = i) he, Zy (by omega)]; simp⟩
    have := h2 k g' hk
    constructor
    ·intro h; have := this.1 h; omega
    ·intro h
     by_cases hgi : g'.Index = i
     ·exfalso
      have hkp : ¬ k < p := fun h' => by have := this.1 h'; omega
      rcases Nat.lt_or_ge p k with h' | h'
      ·have hpl : p < f.Odd.length := by have := (List.getElem?_eq_some_iff.1 hk).1; omega
       have h5 := hs.inc p k _ g' h' (List.getElem?_eq_getElem hpl) hk
       have h6 := (h2 p _ (List.getElem?_eq_getElem hpl)).2 (by omega)
       omega
      ·have : k = p := by omega
       subst this
       exact he ⟨g', hk, hgi⟩
     ·exact this.2 (by omega)
  simp only [Option.bind_some]
  rw [hq3]
  simp only [Option.bind_some]
  obtain ⟨r, hr, hpost⟩ := Z16 (step := Zq.s0 f (-1)) (I := fun (s : Int) => ∃ k : Nat, s = (k : Int) - 1 ∧ k ≤ q ∧ ∀ (j : Nat) (g : Granule), f.Odd[j]? = some g → k ≤ j → j < q → g.Ticks = []) (fun s => (s + 1).toNat)
   (fun r => (∃ (k : Nat) (g : Granule), r = .ret (g.Index, true) ∧ f.Odd[k]? = some g ∧ k < q ∧ g.Ticks ≠ [] ∧ ∀ (j : Nat) (g' : Granule), f.Odd[j]? = some g' → k < j → j < q → g'.Ticks = []) ∨ (r = .go () ∧ ∀ (j : Nat) (g' : Granule), f.Odd[j]? = some g' → j < q → g'.Ticks = [])) (by
   rintro s ⟨k, rfl, hk, hn⟩
   unfold Zq.s0
   by_cases h0 : 0 < k
   ·have hlt : k - 1 < f.Odd.length := by omega
    rw [Zw (show (k : Int) - 1 ≥ 0 by omega), Zw (show (k : Int) - 1 < f.Odd.length by omega), Bool.and_self, cond_true, show (k : Int) - 1 = ((k - 1 : Nat) : Int) by omega, at?_nat hlt, Zy (by omega)]
    simp only [Option.bind_some]
    have hget := List.getElem?_eq_getElem hlt
    by_cases hc : f.Odd[k - 1].Ticks = []
    ·rw [hc]
     refine .inl ⟨((k - 1 : Nat) : Int) + -1, rfl, ⟨k - 1, by omega, by omega, fun j g hj hpj hjk => ?_⟩, by simp; omega⟩
     rcases Nat.lt_or_ge j k with h | h
     ·have : j = k - 1 := by omega
      subst this; rw [hget] at hj; cases hj; exact hc
     ·exact hn j g hj h hjk
    ·rw [Zw (show ((f.Odd[k - 1].Ticks.length : Int) > 0) by have := List.length_pos_iff.2 hc; omega), cond_true]
     exact .inr ⟨_, rfl, .inl ⟨k - 1, _, rfl, hget, by omega, hc, fun j g hj h1 h2 => hn j g hj (by omega) h2⟩⟩
   ·rw [Z0K (show ¬ (k : Int) - 1 ≥ 0 by omega), Bool.false_and, cond_false]
    exact .inr ⟨_, rfl, .inr ⟨rfl, fun j g hj hjq => hn j g hj (by omega) hjq⟩⟩) ((q : Int) - 1) ⟨q, rfl, Nat.le_refl _, fun j g _ h h' => by omega⟩
  rw [hr]
  simp only [Option.bind_some]
  rcases hpost with ⟨k, g, rfl, hk, hkq, hne, hn⟩ | ⟨rfl, hn⟩
  ·have hset := Z1b hs.inc (List.mem_of_getElem? hk)
   have hgi := (hq2 k g hk).1 hkq
   refine ⟨_, rfl, .inl ⟨rfl, hgi, (hs.odd g (List.mem_of_getElem? hk)).2, by simp only; rw [hset]; exact hne, fun j hij hjg => ?_⟩⟩
   simp only at hjg
   by_cases ho : Z1B f j
   ·obtain ⟨g', hg', rfl⟩ := ho
    obtain ⟨k', hk'⟩ := List.getElem?_of_mem hg'
    rw [Z1b hs.inc hg']
    refine hn k' g' hk' ?_ ((hq2 k' g' hk').2 hij)
    rcases Nat.lt_or_ge k k' with h | h
    ·exact h
    ·rcases Nat.lt_or_ge k' k with h' | h'
     ·have := hs.inc k' k g' g h' hk' hk; omega
     ·have : k = k' := by omega
      subst this; rw [hk] at hk'; cases hk'; omega
   ·exact Z5O hs hbare ho
  ·refine ⟨_, rfl, .inr ⟨rfl, rfl, fun j hij _ => ?_⟩⟩
   by_cases ho : Z1B f j
   ·obtain ⟨g', hg', rfl⟩ := ho
    obtain ⟨k', hk'⟩ := List.getElem?_of_mem hg'
    rw [Z1b hs.inc hg']
    exact hn k' g' hk' ((hq2 k' g' hk').2 hij)
   ·exact Z5O hs hbare ho
 | false =>
  rw [cond_false]
  obtain ⟨r, hr, hpost⟩ := Z16 (step := Zq.s1 f (-1)) (I := fun (s : Int) => s ≤ i ∧ -1099511627777 ≤ s ∧ ∀ k, k ≤ i → s < k → ZQ f k = []) (fun s => (s + 1099511627777).toNat)
   (fun r => (∃ j, r = .ret (j, true) ∧ j ≤ i ∧ ZO j ∧ ZQ f j ≠ [] ∧ ∀ k, k ≤ i → j < k → ZQ f k = []) ∨ (r = .go () ∧ ∀ k, k ≤ i → ZO k → ZQ f k = [])) (by
   rintro s ⟨hs1, hs2, hn⟩
   unfold Zq.s1
   rw [Z5Q]
   by_cases ht : ZO s
   ·rw [Zw ht, cond_true, Z7J hl hs (Z1z ht), Zy (by unfold ZO at ht; omega)]
    simp only [Option.bind_some]
    by_cases hc : ZQ f s = []
    ·rw [hc]
     refine .inl ⟨s + -1, by simp, ⟨by omega, by unfold ZO at ht; omega, fun k hk hks => ?_⟩, by unfold ZO at ht; omega⟩
     by_cases h : k = s
     ·rw [h]; exact hc
     ·exact hn k hk (by omega)
    ·rw [Zw hc, cond_true]
     exact .inr ⟨_, rfl, .inl ⟨s, rfl, hs1, ht, hc, hn⟩⟩
   ·rw [Z0K ht, cond_false]
    exact .inr ⟨_, rfl, .inr ⟨rfl, fun k hk htk => hn k hk (by unfold ZO at ht htk; omega)⟩⟩) i ⟨Int.le_refl _, by omega, fun k h h' => by omega⟩
  rw [hr]
  simp only [Option.bind_some]
  rcases hpost with ⟨j, rfl, h1, h2, h3, h4⟩ | ⟨rfl, hn⟩
  ·exact ⟨_, rfl, .inl ⟨rfl, h1, h2, h3, h4⟩⟩
  ·exact ⟨_, rfl, .inr ⟨rfl, rfl, hn⟩⟩

def Above (f : Form) (i : Int) (r : Int × Bool) : Prop := (r.2 = true ∧ i < r.1 ∧ ZO r.1 ∧ ZQ f r.1 ≠ [] ∧ ∀ k, i < k → k < r.1 → ZO k → ZQ f k = []) ∨ (r.2 = false ∧ r.1 = 0 ∧ ∀ k, i < k → ZO k → ZQ f k = [])
def Under (f : Form) (i : Int) (r : Int × Bool) : Prop := (r.2 = true ∧ r.1 < i ∧ ZO r.1 ∧ ZQ f r.1 ≠ [] ∧ ∀ k, k < i → r.1 < k → ZO k → ZQ f k = []) ∨ (r.2 = false ∧ r.1 = 0 ∧ ∀ k, k < i → ZO k → ZQ f k = [])

theorem Z2B {f : Form} (hl : Lim f) (hs : Shape f) {i : Int} (hi : In64 i) : ∃ r, Z0t f i = some r ∧ Above f i r := by
 unfold Z0t
 by_cases h : i ≥ 1099511627776
 ·rw [Zw h, cond_true]
  exact ⟨_, rfl, .inr ⟨rfl, rfl, fun k hk ht => by unfold ZO at ht; omega⟩⟩
 ·rw [Z0K h, cond_false, Zy (by unfold In64 at hi; omega)]
  have hm : iMax (i + 1) (-1099511627776) = max (i + 1) (-1099511627776) := by unfold iMax; omega
  rw [hm]
  obtain ⟨r, h1, h2⟩ := gran_step_up hl hs (i := max (i + 1) (-1099511627776)) (by omega)
  rw [h1]
  refine ⟨r, rfl, ?_⟩
  rcases h2 with ⟨a, b, c, d, e⟩ | ⟨a, b, e⟩
  ·exact .inl ⟨a, by omega, c, d, fun k hk hkr ht => e k (by unfold ZO at ht; omega) hkr⟩
  ·exact .inr ⟨a, b, fun k hk ht => e k (by have := ht; unfold ZO at this; omega) ht⟩

theorem Z4M {f : Form} (hl : Lim f) (hs : Shape f) {i : Int} (hi : In64 i) : ∃ r, Z15 f i = some r ∧ Under f i r := by
 unfold Z15
 by_cases h : i ≤ -1099511627776
 ·rw [Zw h, cond_true]
  exact ⟨_, rfl, .inr ⟨rfl, rfl, fun k hk ht => by unfold ZO at ht; omega⟩⟩
 ·rw [Z0K h, cond_false, Zy (by unfold In64 at hi; omega)]
  have hm : iMin (i - 1) 1099511627776 = min (i - 1) 1099511627776 := by unfold iMin; omega
  rw [hm]
  obtain ⟨r, h1, h2⟩ := Z8q hl hs (i := min (i - 1) 1099511627776) (by omega)
  rw [h1]
  refine ⟨r, rfl, ?_⟩
  rcases h2 with ⟨a, b, c, d, e⟩ | ⟨a, b, e⟩
  ·exact .inl ⟨a, by omega, c, d, fun k hk hkr ht => e k (by unfold ZO at ht; omega) hkr⟩
  ·exact .inr ⟨a, b, fun k hk ht => e k (by have := ht; unfold ZO at this; omega) ht⟩

end Go.Dn

namespace Go.Dn
open Go

def BesideR (f : Form) (i : Int) (lo hi : Int × Bool) : Prop :=
 fits f i ∧ (lo.2 = true → fits f lo.1 ∧ Z2i (ZQ f lo.1) (ZQ f i)) ∧ (hi.2 = true → fits f hi.1 ∧ Z2i (ZQ f i) (ZQ f hi.1)) ∧ (lo.2 = true → hi.2 = true → Z2i (ZQ f lo.1) (ZQ f hi.1))

theorem aheadL_nil_l (b : List Span) : Z2i [] b := by intro x hx; cases hx
theorem aheadL_nil_r (a : List Span) : Z2i a [] := by intro x _ y hy; cases hy

theorem Z88 {f : Form} (hl : Lim f) (hs : Shape f) (i : Int) : Len (ZQ f i) := by
 by_cases ho : Z1B f i
 ·obtain ⟨g, hg, rfl⟩ := ho
  rw [Z1b hs.inc hg]; exact (hl.ticks g hg).2.1
 ·by_cases h0 : f.Count = 0
  ·rw [Z1S ho h0]; unfold Len; simp
  ·rw [Z28 ho h0]; unfold Len; rw [List.length_map]; exact (hl.sets _ (Z1l hs h0 i).2).1

theorem Z4o {f : Form} (hs : Shape f) {i : Int} (hf : fits f i) : RightL (ZQ f i) := by
 by_cases ho : Z1B f i
 ·obtain ⟨g, hg, rfl⟩ := ho
  rw [Z1b hs.inc hg]; exact (hs.odd g hg).1
 ·by_cases h0 : f.Count = 0
  ·rw [Z1S ho h0]; exact ⟨by simp, by simp⟩
  ·unfold fits at hf
   rw [Z28 ho h0] at hf ⊢
   exact (hs.core _ (Z1l hs h0 i).2).shift fun s hs' => hf (Z0V (Z3k f i) s) (List.mem_map.2 ⟨s, hs', rfl⟩)

theorem near_l {c : Bool} {X S : List Span} : Z2i (if c = true then X else []) S ↔ (c = true → Z2i X S) := by
 cases c
 ·simp [aheadL_nil_l]
 ·simp
theorem near_r {c : Bool} {X S : List Span} : Z2i S (if c = true then X else []) ↔ (c = true → Z2i S X) := by
 cases c
 ·simp [aheadL_nil_r]
 ·simp

noncomputable def sideG (f : Form) (r : Int × Bool) : Option (Jx (List Span) Bool) :=
 (bif r.2 then (Z0F f r.1).bind fun x => (bif (x.2 != 0) then some (.ret false) else some (.go x.1)) else some (.go []))

open Classical in
theorem sideG_eq {f : Form} (hl : Lim f) (hs : Shape f) {r : Int × Bool} (ht : r.2 = true → ZO r.1) : (r.2 = true ∧ ¬ fits f r.1 ∧ sideG f r = some (.ret false)) ∨ ((r.2 = true → fits f r.1) ∧ sideG f r = some (.go (if r.2 = true then ZQ f r.1 else []))) := by
 obtain ⟨j, c⟩ := r
 unfold sideG
 cases c with
 | false => exact .inr ⟨by simp, by simp⟩
 | true =>
  simp only [cond_true]
  rw [Z4e hl hs (Z1z (ht rfl))]
  by_cases hfl : fits f j
  ·rw [if_pos ⟨ht rfl, hfl⟩]; exact .inr ⟨fun _ => hfl, by simp⟩
  ·rw [if_neg (fun h => hfl h.2)]; exact .inl ⟨trivial, hfl, rfl⟩

open Classical in
theorem Z95 {f : Form} (hl : Lim f) (hs : Shape f) {i : Int} (hi : ZO i) {lo hi' : Int × Bool} (hlo : Z15 f i = some lo) (hhi : Z0t f i = some hi') (tlo : lo.2 = true → ZO lo.1) (thi : hi'.2 = true → ZO hi'.1) :
  ∃ b, Z1J f i = some b ∧ (b = true ↔ BesideR f i lo hi') := by
 have e : Z1J f i = (Z0F f i).bind fun x1 => (bif (x1.2 != 0) then some false else (sideG f lo).bind fun y1 => y1.elim (fun r' => some r') fun a2 => (sideG f hi').bind fun y2 => y2.elim (fun r' => some r') fun a4 =>
   (Z0W a2 x1.1).bind fun x6 => ((bif x6 then (Z0W x1.1 a4).bind fun x7 => some x7 else some false)).bind fun y3 => ((bif y3 then (Z0W a2 a4).bind fun x8 => some x8 else some false)).bind fun y4 => some y4) := by
  unfold Z1J sideG
  rw [hlo, hhi]
  simp only [Option.bind_some]
 rw [e, Z4e hl hs (Z1z hi)]
 clear e
 by_cases hf : fits f i
 ·rw [if_pos ⟨hi, hf⟩]
  simp only [Option.bind_some, bne_self_eq_false, cond_false]
  rcases sideG_eq hl hs tlo with ⟨h1, h2, h0⟩ | ⟨h1, h0⟩
  ·rw [h0]
   exact ⟨false, rfl, fun h => (by cases h), fun h => absurd (h.2.1 h1).1 h2⟩
  ·rw [h0]
   simp only [Option.bind_some, Jx.elim]
   rcases sideG_eq hl hs thi with ⟨h3, h4, h0'⟩ | ⟨h3, h0'⟩
   ·rw [h0']
    exact ⟨false, rfl, fun h => (by cases h), fun h => absurd (h.2.2.1 h3).1 h4⟩
   ·rw [h0']
    simp only [Option.bind_some]
    have lenA : Len (if lo.2 = true then ZQ f lo.1 else []) := by
     by_cases hc : lo.2 = true
     ·rw [if_pos hc]; exact Z88 hl hs _
     ·rw [if_neg hc]; unfold Len; simp
    generalize hA : (if lo.2 = true then ZQ f lo.1 else []) = A at lenA
    generalize hB : (if hi'.2 = true then ZQ f hi'.1 else []) = B
    obtain ⟨r1, q1, p1⟩ := Z4T (b := ZQ f i) lenA
    obtain ⟨r2, q2, p2⟩ := Z4T (a := ZQ f i) (b := B) (Z88 hl hs i)
    obtain ⟨r3, q3, p3⟩ := Z4T (b := B) lenA
    rw [q1, q2, q3]
    subst hA hB
    rw [near_l] at p1
    rw [near_r] at p2
    rw [near_l, near_r] at p3
    refine ⟨r1 && r2 && r3, by cases r1 <;> cases r2 <;> rfl, ?_⟩
    rw [Bool.and_eq_true, Bool.and_eq_true, p1, p2, p3]
    constructor
    ·rintro ⟨⟨a, b⟩, c⟩
     exact ⟨hf, fun h => ⟨h1 h, a h⟩, fun h => ⟨h3 h, b h⟩, c⟩
    ·rintro ⟨_, a, b, c⟩
     exact ⟨⟨fun h => (a h).2, fun h => (b h).2⟩, c⟩
 ·rw [if_neg (fun h => hf h.2)]
  exact ⟨false, rfl, fun h => (by cases h), fun h => absurd h.1 hf⟩

def Beside (f : Form) (i : Int) : Prop := ∀ lo hi, Under f i lo → Above f i hi → BesideR f i lo hi

theorem Under.uniq {f : Form} {i : Int} {r r' : Int × Bool} (h : Under f i r) (h' : Under f i r') : r = r' := by
 obtain ⟨a, b⟩ := r
 obtain ⟨a', b'⟩ := r'
 rcases h with ⟨rfl, h1, h2, h3, h4⟩ | ⟨rfl, rfl, h4⟩ <;> rcases h' with ⟨rfl, k1, k2, k3, k4⟩ | ⟨rfl, rfl, k4⟩
 ·simp only at *
  rcases Int.lt_trichotomy a a' with h | h | h
  ·exact absurd (h4 a' k1 h k2) k3
  ·rw [h]
  ·exact absurd (k4 a h1 h h2) h3
 ·exact absurd (k4 a h1 h2) h3
 ·exact absurd (h4 a' k1 k2) k3
 ·rfl
theorem Above.uniq {f : Form} {i : Int} {r r' : Int × Bool} (h : Above f i r) (h' : Above f i r') : r = r' := by
 obtain ⟨a, b⟩ := r
 obtain ⟨a', b'⟩ := r'
 rcases h with ⟨rfl, h1, h2, h3, h4⟩ | ⟨rfl, rfl, h4⟩ <;> rcases h' with ⟨rfl, k1, k2, k3, k4⟩ | ⟨rfl, rfl, k4⟩
 ·simp only at *
  rcases Int.lt_trichotomy a a' with h | h | h
  ·exact absurd (k4 a h1 h h2) h3
  ·rw [h]
  ·exact absurd (h4 a' k1 h k2) k3
 ·exact absurd (k4 a h1 h2) h3
 ·exact absurd (h4 a' k1 k2) k3
 ·rfl

theorem Z8e {f : Form} (hl : Lim f) (hs : Shape f) {i : Int} (hi : ZO i) : ∃ b, Z1J f i = some b ∧ (b = true ↔ Beside f i) := by
 obtain ⟨lo, h1, h2⟩ := Z4M hl hs (Z1z hi)
 obtain ⟨hi', h3, h4⟩ := Z2B hl hs (Z1z hi)
 obtain ⟨b, h5, h6⟩ := Z95 hl hs hi h1 h3 (fun h => by rcases h2 with ⟨_, _, h, _⟩ | ⟨h', _⟩ <;> simp_all) (fun h => by rcases h4 with ⟨_, _, h, _⟩ | ⟨h', _⟩ <;> simp_all)
 refine ⟨b, h5, h6.trans ⟨fun h lo' hi'' q1 q2 => ?_, fun h => h lo hi' h2 h4⟩⟩
 rw [q1.uniq h2, q2.uniq h4]; exact h

def sizeF (f : Form) : Nat := (f.Core.map List.length).sum + (f.Odd.map (·.Ticks.length)).sum

theorem sum_take {α : Type} (g : α → Nat) {l : List α} {k : Nat} (h : k < l.length) : ((l.take (k + 1)).map g).sum = ((l.take k).map g).sum + g l[k] := by
 rw [List.take_succ_eq_append_getElem h, List.map_append, List.sum_append]; simp

theorem Z7M {f : Form} (hl : Lim f) (hc : f.Core.length ≤ 6000) (ho : f.Odd.length ≤ 6000) : Z00 f = some (sizeF f : Int) := by
 have hr := Z1d
 have lenC : ∀ l ∈ f.Core, l.length ≤ 8796093022207 := fun l hm => by have := (hl.sets l hm).1; unfold Len at this; omega
 have lenO : ∀ g ∈ f.Odd, g.Ticks.length ≤ 8796093022207 := fun l hm => by have := (hl.ticks l hm).2.1; unfold Len at this; omega
 obtain ⟨a, h1, h2, h3⟩ := fold_loop (l := f.Core) (step := Z00.s0 f) (f := fun a _ x => a + (x.length : Int)) (fin := id) (a0 := (0 : Int)) (fun k a => a = ((((f.Core.take k).map List.length).sum : Nat) : Int) ∧ a ≤ k * 8796093022207) ⟨by simp, by simp⟩ (fun k x a hk ⟨ha, hb⟩ => by
   obtain ⟨q1, q2⟩ := Z8A hk
   have hx := lenC x (List.mem_of_getElem? hk)
   have hkl : k < f.Core.length := by omega
   have h0 : 0 ≤ a := by rw [ha]; omega
   unfold Z00.s0
   simp only
   rw [Zw q2, cond_true, q1, Zy (x := (k : Int) + 1) (by omega)]
   simp only [Option.bind_some]
   rw [Zy (x := a + (x.length : Int)) (by omega)]
   refine ⟨rfl, ?_, by push_cast; omega⟩
   rw [sum_take _ hkl]
   rw [List.getElem?_eq_getElem hkl] at hk
   cases hk; rw [ha]; push_cast; rfl) (fun a _ => by unfold Z00.s0; simp only; rw [Z0K (by omega)]; rfl)
 rw [List.take_length] at h2
 obtain ⟨b, h4, h5, h6⟩ := fold_loop (l := f.Odd) (step := Z00.s1 f) (f := fun a _ x => a + (x.Ticks.length : Int)) (fin := id) (a0 := a) (fun k b => b = a + ((((f.Odd.take k).map (·.Ticks.length)).sum : Nat) : Int) ∧ b ≤ a + k * 8796093022207) ⟨by simp, by simp⟩ (fun k x b hk ⟨ha, hb⟩ => by
   obtain ⟨q1, q2⟩ := Z8A hk
   have hx := lenO x (List.mem_of_getElem? hk)
   have hkl : k < f.Odd.length := by omega
   have h0 : 0 ≤ b := by rw [ha, h2]; omega
   unfold Z00.s1
   simp only
   rw [Zw q2, cond_true, q1, Zy (x := (k : Int) + 1) (by omega)]
   simp only [Option.bind_some]
   rw [Zy (x := b + (x.Ticks.length : Int)) (by omega)]
   refine ⟨rfl, ?_, by push_cast; omega⟩
   rw [sum_take _ hkl]
   rw [List.getElem?_eq_getElem hkl] at hk
   cases hk; rw [ha]; push_cast; omega) (fun a _ => by unfold Z00.s1; simp only; rw [Z0K (by omega)]; rfl)
 rw [List.take_length] at h5
 unfold Z00
 rw [h1]
 simp only [Option.bind_some, id]
 rw [h4]
 simp only [Option.bind_some, id, h5, h2, sizeF]
 push_cast; rfl

structure RightF (f : Form) : Prop where
 shape : Shape f
 turns : Turns f
 beside : ∀ g ∈ f.Odd, Beside f g.Index
def LongF (f : Form) : Prop := 6000 < f.Core.length ∨ 6000 < f.Odd.length ∨ 60000 < sizeF f

theorem gran_Right_eq {f : Form} (hl : Lim f) : (LongF f ∧ Zl f = some 3) ∨ (¬ LongF f ∧ RightF f ∧ Zl f = some 0) ∨ (¬ LongF f ∧ ¬ RightF f ∧ Zl f = some 50) := by
 have holen := Z4W (b := 31) hl.odd
 unfold Zl
 by_cases h1 : 6000 < f.Core.length ∨ 6000 < f.Odd.length
 ·have e : (decide ((f.Core.length : Int) > 6000) || decide ((f.Odd.length : Int) > 6000)) = true := by
   rcases h1 with h | h
   ·rw [Zw (show (f.Core.length : Int) > 6000 by omega)]; rfl
   ·rw [Zw (show (f.Odd.length : Int) > 6000 by omega)]; simp
  rw [e]
  exact .inl ⟨h1.elim .inl (fun h => .inr (.inl h)), rfl⟩
 ·have e : (decide ((f.Core.length : Int) > 6000) || decide ((f.Odd.length : Int) > 6000)) = false := by
   rw [Z0K (show ¬ (f.Core.length : Int) > 6000 by omega), Z0K (show ¬ (f.Odd.length : Int) > 6000 by omega)]; rfl
  rw [e, cond_false, Z7M hl (by omega) (by omega)]
  simp only [Option.bind_some]
  by_cases h2 : 60000 < sizeF f
  ·rw [Zw (show (sizeF f : Int) > 60000 by omega)]
   exact .inl ⟨.inr (.inr h2), rfl⟩
  ·have hnl : ¬ LongF f := by unfold LongF; omega
   rw [Z0K (show ¬ (sizeF f : Int) > 60000 by omega), cond_false]
   obtain ⟨b, hb, hbs⟩ := gran_shape_eq hl
   rw [hb]
   simp only [Option.bind_some]
   refine .inr ?_
   cases b with
   | false => exact .inr ⟨hnl, fun h => (by have := hbs.2 h.shape; cases this), rfl⟩
   | true =>
    have hs := hbs.1 rfl
    obtain ⟨c, hc, hct⟩ := gran_turns_eq hl hs
    rw [hc]
    simp only [Option.bind_some, Bool.not_true, cond_false]
    cases c with
    | false => exact .inr ⟨hnl, fun h => (by have := hct.2 h.turns; cases this), rfl⟩
    | true =>
     simp only [Bool.not_true, cond_false]
     rcases Z65 (l := f.Odd) (step := Zl.s0 f) (fun _ g => Beside f g.Index) (no := .ret 50) (yes := .go ()) (fun k g hk _ => by
       obtain ⟨q1, q2⟩ := Z8A hk
       obtain ⟨b, hb, hbb⟩ := Z8e hl hs (hs.odd g (List.mem_of_getElem? hk)).2
       unfold Zl.s0
       rw [Zw q2, cond_true, q1, Zy (by omega)]
       simp only [Option.bind_some, hb]
       cases b
       ·exact .inr ⟨rfl, fun h => by have := hbb.2 h; cases this⟩
       ·exact .inl ⟨rfl, hbb.1 rfl⟩) (by unfold Zl.s0; rw [Z0K (by omega)]; rfl) with ⟨q1, q2⟩ | ⟨q1, q2⟩
     ·rw [q1]
      exact .inl ⟨hnl, ⟨hs, hct.1 rfl, fun g hg => by obtain ⟨k, hk⟩ := List.getElem?_of_mem hg; exact q2 k g hk⟩, rfl⟩
     ·rw [q1]
      exact .inr ⟨hnl, fun h => q2 fun k g hk => h.beside g (List.mem_of_getElem? hk), rfl⟩

def SmallF (f : Form) : Prop := f.Core.length ≤ 12 ∧ f.Odd.length ≤ 8 ∧ sizeF f ≤ 60
theorem Z6P {f : Form} (hl : Lim f) : ∃ b, Z04 f = some b ∧ (b = true ↔ SmallF f) := by
 unfold Z04
 by_cases h : f.Core.length ≤ 12 ∧ f.Odd.length ≤ 8
 ·rw [Zw (show (f.Core.length : Int) ≤ 12 by omega), Zw (show (f.Odd.length : Int) ≤ 8 by omega), Z7M hl (by omega) (by omega)]
  refine ⟨decide ((sizeF f : Int) ≤ 60), rfl, ?_⟩
  rw [decide_eq_true_iff]
  exact ⟨fun h' => ⟨h.1, h.2, by omega⟩, fun h' => by have := h'.2.2; omega⟩
 ·have e : (decide ((f.Core.length : Int) ≤ 12) && decide ((f.Odd.length : Int) ≤ 8)) = false := by
   by_cases h1 : f.Core.length ≤ 12
   ·rw [Z0K (show ¬ (f.Odd.length : Int) ≤ 8 by omega)]; simp
   ·rw [Z0K (show ¬ (f.Core.length : Int) ≤ 12 by omega)]; rfl
  rw [e]
  exact ⟨false, rfl, fun h => (by cases h), fun h' => absurd ⟨h'.1, h'.2.1⟩ h⟩

end Go.Dn

namespace Go.Dn
open Go

theorem Z5D {f : Form} {l : List Span} : l ∈ full f ↔ l ∈ f.Core ∧ l ≠ [] := by
 unfold full
 rw [List.mem_filter, decide_eq_true_iff, gt_iff_lt, List.length_pos_iff]

theorem full_pair {f : Form} (hs : Shape f) (ht : Turns f) : (full f).Pairwise (fun a b => lstT a < fstT b) := by
 have hm : ∀ x ∈ full f, fstT x ≤ lstT x := fun x hx => Z3T (hs.core x (Z5D.1 hx).1) (Z5D.1 hx).2
 have h1 := ht.1
 generalize full f = l at hm h1
 induction l with
 | nil => exact .nil
 | cons x l ih =>
  have ih := ih (fun y hy => hm y (List.mem_cons_of_mem _ hy)) (fun k a b ha hb => h1 (k + 1) a b ha hb)
  refine List.pairwise_cons.2 ⟨fun y hy => ?_, ih⟩
  cases l with
  | nil => cases hy
  | cons z l =>
   have hxz := h1 0 x z rfl rfl
   rcases List.mem_cons.1 hy with rfl | hy
   ·exact hxz
   ·have := (List.pairwise_cons.1 ih).1 y hy
    have := hm z (by simp)
    omega

theorem core_pair {f : Form} (hs : Shape f) (ht : Turns f) {j k : Nat} {a b : List Span} (hjk : j < k) (ha : f.Core[j]? = some a) (hb : f.Core[k]? = some b) (na : a ≠ []) (nb : b ≠ []) : lstT a < fstT b := by
 have h := full_pair hs ht
 unfold full at h
 rw [List.pairwise_filter] at h
 have hj := (List.getElem?_eq_some_iff.1 ha)
 have hk := (List.getElem?_eq_some_iff.1 hb)
 obtain ⟨hj, rfl⟩ := hj
 obtain ⟨hk, rfl⟩ := hk
 exact List.pairwise_iff_getElem.1 h j k hj hk hjk (by rw [decide_eq_true_iff]; exact List.length_pos_iff.2 na) (by rw [decide_eq_true_iff]; exact List.length_pos_iff.2 nb)

theorem core_turn {f : Form} (hs : Shape f) (ht : Turns f) {a b : List Span} (ha : a ∈ f.Core) (hb : b ∈ f.Core) (na : a ≠ []) (nb : b ≠ []) : lstT a < fstT b + f.Period := by
 have hA := Z5D.2 ⟨ha, na⟩
 have hB := Z5D.2 ⟨hb, nb⟩
 have hm : ∀ x ∈ full f, fstT x ≤ lstT x := fun x hx => Z3T (hs.core x (Z5D.1 hx).1) (Z5D.1 hx).2
 have hn : full f ≠ [] := List.ne_nil_of_mem hA
 have hlast := List.getLast?_eq_some_getLast hn
 have hhead := List.head?_eq_some_head hn
 have h2 := ht.2 _ _ hlast hhead
 have hp := full_pair hs ht
 have e1 : lstT a ≤ lstT ((full f).getLast hn) := by
  obtain ⟨j, hj⟩ := List.getElem?_of_mem hA
  obtain ⟨hjl, hj⟩ := List.getElem?_eq_some_iff.1 hj
  by_cases hc : j = (full f).length - 1
  ·subst hc
   rw [List.getLast_eq_getElem, hj]
   exact Int.le_refl _
  ·have := List.pairwise_iff_getElem.1 hp j ((full f).length - 1) hjl (by omega) (by omega)
   rw [hj] at this
   have h5 := hm _ (List.getLast_mem hn)
   rw [List.getLast_eq_getElem] at h5 ⊢
   omega
 have e2 : fstT ((full f).head hn) ≤ fstT b := by
  obtain ⟨j, hj⟩ := List.getElem?_of_mem hB
  obtain ⟨hjl, hj⟩ := List.getElem?_eq_some_iff.1 hj
  have hh : (full f).head hn = (full f)[0]'(by omega) := List.head_eq_getElem hn
  by_cases hc : j = 0
  ·subst hc
   rw [hh, hj]
   exact Int.le_refl _
  ·have := List.pairwise_iff_getElem.1 hp 0 j (by omega) hjl (by omega)
   rw [hj, ← hh] at this
   have h5 := hm _ (List.head_mem hn)
   omega
 omega

theorem Z91 {f : Form} (hs : Shape f) (h0 : f.Count ≠ 0) (i : Int) : f.Core[(i % f.Count).toNat]? = some (Z1G f i) := by
 have := (Z1l hs h0 i).1
 unfold at? at this
 rwa [if_pos (Int.emod_nonneg i h0)] at this

theorem Z96 {f : Form} (hs : Shape f) (ht : Turns f) (h0 : f.Count ≠ 0) {i k : Int} (hik : i < k) (ni : Z1G f i ≠ []) (nk : Z1G f k ≠ []) : lstT (Z1G f i) + Z3k f i < fstT (Z1G f k) + Z3k f k := by
 have hp := Z7A hs h0
 have di := Int.emod_add_mul_ediv i f.Count
 have dk := Int.emod_add_mul_ediv k f.Count
 have mi := Int.emod_nonneg i h0
 have mk := Int.emod_nonneg k h0
 have li := Int.emod_lt_of_pos i hp
 have lk := Int.emod_lt_of_pos k hp
 have hq : i / f.Count ≤ k / f.Count := Int.ediv_le_ediv hp (by omega)
 unfold Z3k
 rcases Int.lt_or_eq_of_le hq with h | h
 ·have h1 := core_turn hs ht (Z1l hs h0 i).2 (Z1l hs h0 k).2 ni nk
  have h2 : (i / f.Count + 1) * f.Period ≤ k / f.Count * f.Period := Int.mul_le_mul_of_nonneg_right (by omega) hs.per.1
  rw [Int.add_mul, Int.one_mul] at h2
  omega
 ·rw [h] at di ⊢
  have : i % f.Count < k % f.Count := by omega
  have h1 := core_pair hs ht (j := (i % f.Count).toNat) (k := (k % f.Count).toNat) (by omega) (Z91 hs h0 i) (Z91 hs h0 k) ni nk
  omega

theorem Z46 {l : List Span} (d : Int) (hn : l ≠ []) : lstT (l.map (Z0V d)) = lstT l + d ∧ fstT (l.map (Z0V d)) = fstT l + d := by
 unfold lstT fstT
 rw [List.getLast?_map, List.head?_map, List.getLast?_eq_some_getLast hn, List.head?_eq_some_head hn]
 exact ⟨rfl, rfl⟩

theorem under_some {f : Form} (hl : Lim f) (hs : Shape f) {i k : Int} (hk : In64 k) (hik : i < k) (ti : ZO i) (ni : ZQ f i ≠ []) : ∃ j, Under f k (j, true) ∧ i ≤ j := by
 obtain ⟨r, _, h⟩ := Z4M hl hs hk
 obtain ⟨j, b⟩ := r
 have h' := h
 rcases h with ⟨rfl, h1, h2, h3, h4⟩ | ⟨rfl, _, h4⟩
 ·refine ⟨j, h', ?_⟩
  apply Classical.byContradiction
  intro hc
  exact ni (h4 i hik (by simp only; omega) ti)
 ·exact absurd (h4 i hik ti) ni
theorem above_some {f : Form} (hl : Lim f) (hs : Shape f) {i k : Int} (hk : In64 k) (hik : k < i) (ti : ZO i) (ni : ZQ f i ≠ []) : ∃ j, Above f k (j, true) ∧ j ≤ i := by
 obtain ⟨r, _, h⟩ := Z2B hl hs hk
 obtain ⟨j, b⟩ := r
 have h' := h
 rcases h with ⟨rfl, h1, h2, h3, h4⟩ | ⟨rfl, _, h4⟩
 ·refine ⟨j, h', ?_⟩
  apply Classical.byContradiction
  intro hc
  exact ni (h4 i hik (by simp only; omega) ti)
 ·exact absurd (h4 i hik ti) ni

theorem RightF.order {f : Form} (hl : Lim f) (hr : RightF f) : ∀ (n : Nat) (i k : Int), (k - i).toNat = n → i < k → ZO i → ZO k → fits f i → fits f k → ZQ f i ≠ [] → ZQ f k ≠ [] → lstT (ZQ f i) < fstT (ZQ f k) := by
 have hs := hr.shape
 intro n
 induction n using Nat.strongRecOn with
 | _ n ih =>
  intro i k hn hik ti tk fi fk ni nk
  by_cases ok : Z1B f k
  ·obtain ⟨g, hg, rfl⟩ := ok
   obtain ⟨j, hj, hij⟩ := under_some hl hs (Z1z tk) hik ti ni
   obtain ⟨hi', _, hab⟩ := Z2B hl hs (Z1z tk)
   obtain ⟨_, hlo, _, _⟩ := hr.beside g hg _ _ hj hab
   obtain ⟨fj, aj⟩ := hlo rfl
   have hj2 := hj
   rcases hj2 with ⟨_, j1, j2, j3, j4⟩ | ⟨h, _⟩
   ·simp only at fj aj j1 j2 j3
    have hjk := (Z8w j3 nk).1 aj
    by_cases hji : i = j
    ·rw [hji]; exact hjk
    ·have h1 := ih (j - i).toNat (by omega) i j rfl (by omega) ti j2 fi fj ni j3
     have h2 := Z3T (Z4o hs fj) j3
     omega
   ·cases h
  ·by_cases oi : Z1B f i
   ·obtain ⟨g, hg, rfl⟩ := oi
    obtain ⟨j, hj, hij⟩ := above_some hl hs (Z1z ti) hik tk nk
    obtain ⟨lo', _, hun⟩ := Z4M hl hs (Z1z ti)
    obtain ⟨_, _, hhi, _⟩ := hr.beside g hg _ _ hun hj
    obtain ⟨fj, aj⟩ := hhi rfl
    have hj2 := hj
    rcases hj2 with ⟨_, j1, j2, j3, j4⟩ | ⟨h, _⟩
    ·simp only at fj aj j1 j2 j3
     have hjk := (Z8w ni j3).1 aj
     by_cases hji : j = k
     ·rw [← hji]; exact hjk
     ·have h1 := ih (k - j).toNat (by omega) j k rfl (by omega) j2 tk fj fk j3 nk
      have h2 := Z3T (Z4o hs fj) j3
      omega
    ·cases h
   ·have h0 : f.Count ≠ 0 := fun h => ni (Z1S oi h)
    have ni' := fun h => ni ((Z1a oi h0).2 h)
    have nk' := fun h => nk ((Z1a ok h0).2 h)
    rw [Z28 oi h0, Z28 ok h0, (Z46 _ ni').1, (Z46 _ nk').2]
    exact Z96 hs hr.turns h0 hik ni' nk'

end Go.Dn

namespace Go.Dn
open Go

theorem Above.tick {f : Form} {i : Int} {r : Int × Bool} (h : Above f i r) (hr : r.2 = true) : i < r.1 ∧ ZO r.1 ∧ ZQ f r.1 ≠ [] ∧ ∀ k, i < k → k < r.1 → ZO k → ZQ f k = [] := by
 rcases h with ⟨_, h1, h2, h3, h4⟩ | ⟨h, _⟩
 ·exact ⟨h1, h2, h3, h4⟩
 ·rw [hr] at h; cases h
theorem Under.tick {f : Form} {i : Int} {r : Int × Bool} (h : Under f i r) (hr : r.2 = true) : r.1 < i ∧ ZO r.1 ∧ ZQ f r.1 ≠ [] ∧ ∀ k, k < i → r.1 < k → ZO k → ZQ f k = [] := by
 rcases h with ⟨_, h1, h2, h3, h4⟩ | ⟨h, _⟩
 ·exact ⟨h1, h2, h3, h4⟩
 ·rw [hr] at h; cases h

end Go.Dn

namespace Go.Dn
open Go

end Go.Dn

namespace Go.Dn
open Go

noncomputable def cs (f : Form) (i : Int) : List Span := (Z1G f i).map (Z0V (Z3k f i))

theorem Z4d (l : List Span) (a b : Int) : (l.map (Z0V a)).map (Z0V b) = l.map (Z0V (a + b)) := by
 rw [List.map_map]
 congr 1
 funext s
 simp only [Function.comp, Z0V, Span.mk.injEq]
 omega

theorem cs_period {f : Form} (h0 : f.Count ≠ 0) (i : Int) : cs f (i + f.Count) = (cs f i).map (Z0V f.Period) := by
 unfold cs Z1G Z3k
 rw [Z4d, Int.add_emod_right, Int.add_ediv_of_dvd_right (Int.dvd_refl _), Int.ediv_self h0, Int.add_mul, Int.one_mul]

theorem cs_periods {f : Form} (h0 : f.Count ≠ 0) (i k : Int) : cs f (i + f.Count * k) = (cs f i).map (Z0V (k * f.Period)) := by
 unfold cs Z1G Z3k
 rw [Z4d, Int.add_mul_emod_self_left, Int.add_mul_ediv_left _ _ h0, Int.add_mul]

theorem Z7I {f : Form} {i : Int} (h0 : 0 ≤ i) (h1 : i < f.Count) : cs f i = f.Core.getD i.toNat [] := by
 unfold cs Z1G Z3k
 rw [Int.emod_eq_of_lt h0 h1, Int.ediv_eq_zero_of_lt h0 h1, Int.zero_mul, shift0]

def TurnZ (f : Form) (d q : Int) : Prop := ∀ i, cs f (i + d) = (cs f i).map (Z0V q)

def wrapI (f : Form) (d k : Int) : Int := if k + d ≥ f.Count then k + d - f.Count else k + d
def wrapP (f : Form) (d k : Int) : Int := if k + d ≥ f.Count then f.Period else 0

end Go.Dn

namespace Go.Dn
open Go

structure Good (f : Form) (d : Int) : Prop where
 pos : 1 ≤ d
 dvd : d ∣ f.Count
 rest : f.Period % (f.Count / d) = 0
 turn : TurnZ f d (f.Period / (f.Count / d))

end Go.Dn
