/- Part 3 of what the row stands on. -/
import Derived.Test.YtobglidemkpmaaaM2
set_option linter.unusedVariables false
set_option linter.unusedSimpArgs false
namespace Go.Dn
open Go Go.Proofs
set_option maxRecDepth 100000
set_option maxHeartbeats 4000000

theorem spans_Move_fn {l : (List Span)} {by' : Int} {r : (List Span) × Int} (h : Z0F l by' = some r) : Fn CX 47 [(vl Span.cs l), (vi by')] (.tup [(vl Span.cs r.1), (vi r.2)]) := by
 refine Fn.ends Try.func47 rfl rfl rfl rfl rfl rfl ?_
 have H : Hs (⟨0, fun _ => .none⟩ : Heap) [] := Has.nil (Nat.le_refl _)
 generalize (⟨0, fun _ => .none⟩ : Heap) = σ at H ⊢
 unfold Z0F at h
 refine .then (.Z0 2 rfl H fun b1 σ H => (.assign (v := .nils) rfl rfl (.assign (v := (vi 0)) rfl rfl (.nila H fun H => (.then ?_)))))
 refine .Z0 1 rfl H fun b2 σ H => (.assign (v := .nils) rfl rfl (.nila H fun H => (.then (.then (.Z0 3 rfl H fun b3 σ H => ?_)))))
 refine .move (v := (vl Span.cs l)) rfl rfl (.Z0B (c := Span.cs) (xs := l) rfl rfl rfl (.move (v := (vi 0)) rfl rfl (.nila H fun H => (.inBlock ?_))))
 replace H := H.pushNil 65 2 true
 obtain ⟨y1, hj1, h⟩ := bind_some h
 obtain ⟨n1, hj1⟩ := Zc.1 hj1
 refine .mono (Runs.ZJ hj1 (fun s2 e σ => ∃ (w3 : PV), Z4 e [(1, (vi by')), (6, w3), (13, (vl Span.cs l)), (14, (vi (l.length : Int))), (15, (vi s2.1))] ∧ Hs σ [.sl w3 65 2 (s2.2.map Span.cs) true]) (fun y1 x e σ => (∃ a1, ∃ (w4 : PV), y1 = (.go a1) ∧ x = .exit 0 ∧ Z4 e [(6, w4)] ∧ Hs σ [.sl w4 65 2 (a1.map Span.cs) true]) ∨ (∃ r', y1 = (.ret r') ∧ x = .ret ∧ Ends CX Try.f47.results.toList (.tup [(vl Span.cs r'.1), (vi r'.2)]) x e σ)) ⟨.nils, ⟨rfl, rfl, rfl, rfl, rfl, trivial⟩, H⟩ ?_) ?_
 ·intro s2 e σ hI z h
  obtain ⟨w3, he, H⟩ := hI
  obtain ⟨e, rfl⟩ := he.ex
  unfold Z0F.s0 at h
  refine .then (.Z0 1 rfl H fun b4 σ H => (.int (m := s2.1) (m' := (l.length : Int)) (r := .bool (decide (s2.1 < (l.length : Int)))) rfl rfl rfl rfl rfl (.nila H fun H => (.then ?_))))
  refine .whether (v := (decide (s2.1 < (l.length : Int)))) rfl ?_ ?_ <;> intro hc1
  ·replace h := Z6 hc1 h
   refine .skip (.then (.inBlock (.then (.Z0 4 rfl H fun b5 σ H => ?_))))
   obtain ⟨x1, q1, h⟩ := bind_some h
   refine .Z0C (c := Span.cs) (u := x1) rfl rfl q1 rfl rfl rfl rfl (.Z2F (cs := [(.int .i64 x1.From), (.int .i64 x1.To)]) rfl rfl rfl rfl rfl rfl (.Z0t (cs := [(vi 0), (vi 0)]) H (by omega) (by omega) rfl rfl fun σ H => (.Z0U (off := 0) (cells' := [(vi x1.From), (vi x1.To)]) H 0 rfl rfl rfl rfl rfl rfl rfl rfl rfl nofun fun σ H => (.nila H fun H => (.then ?_)))))
   refine .Z0 9 rfl H fun b6 σ H => (.Z2 (off := 0) (fo := 0) H 0 rfl rfl rfl rfl rfl nofun rfl (.ZQ (off := 0) (v := (vi x1.From)) H 0 rfl rfl rfl rfl rfl nofun rfl (.move (v := (vi by')) rfl rfl (.call (ys := [(vi x1.From), (vi by')]) (r := (.tup [(vi (ZB x1.From by').1), (vi (ZB x1.From by').2)])) rfl (Z8S rfl) rfl (.move (v := (.tup [(vi (ZB x1.From by').1), (vi (ZB x1.From by').2)])) rfl rfl ?_)))))
   refine .extract (v := (vi (ZB x1.From by').1)) rfl rfl rfl (.extract (v := (vi (ZB x1.From by').2)) rfl rfl rfl (.assign (v := (vi (ZB x1.From by').1)) rfl rfl (.assign (v := (vi (ZB x1.From by').2)) rfl rfl (.nila H fun H => (.then ?_)))))
   refine .Z0 9 rfl H fun b7 σ H => (.Z2 (off := 0) (fo := 1) H 0 rfl rfl rfl rfl rfl nofun rfl (.ZQ (off := 1) (v := (vi x1.To)) H 0 rfl rfl rfl rfl rfl nofun rfl (.move (v := (vi by')) rfl rfl (.call (ys := [(vi x1.To), (vi by')]) (r := (.tup [(vi (ZB x1.To by').1), (vi (ZB x1.To by').2)])) rfl (Z8S rfl) rfl (.move (v := (.tup [(vi (ZB x1.To by').1), (vi (ZB x1.To by').2)])) rfl rfl ?_)))))
   refine .extract (v := (vi (ZB x1.To by').1)) rfl rfl rfl (.extract (v := (vi (ZB x1.To by').2)) rfl rfl rfl (.assign (v := (vi (ZB x1.To by').1)) rfl rfl (.assign (v := (vi (ZB x1.To by').2)) rfl rfl (.nila H fun H => (.then ?_)))))
   refine .then (.Z0 16 rfl H fun b8 σ H => (.move (v := (vi (ZB x1.From by').2)) rfl rfl (.int (m := (ZB x1.From by').2) (m' := 0) (r := .bool (((ZB x1.From by').2) != 0)) rfl rfl rfl rfl rfl (.move (v := (vb (((ZB x1.From by').2) != 0))) rfl rfl ?_))))
   refine .mid 3 (K1 := fun e σ => Z4 e [(38, (vb ((((ZB x1.From by').2) != 0) || (((ZB x1.To by').2) != 0)))), (1, (vi by')), (6, w3), (9, (vi (ZB x1.From by').1)), (11, (vi (ZB x1.To by').1)), (13, (vl Span.cs l)), (14, (vi (l.length : Int))), (15, (vi s2.1))] ∧ Has σ (b8 + 6) (b8 + 16) [.sl w3 65 2 (s2.2.map Span.cs) true]) rfl ?_ ?_
   ·refine .split rfl rfl ?_ ?_ <;> intro hc2
    ·skip
     refine .pass rfl rfl rfl (.pass rfl rfl rfl (.Ze (v := (vb true)) rfl rfl rfl (.nil ?_)))
     exact ⟨⟨or_T hc2, rfl, rfl, rfl, rfl, rfl, rfl, rfl, trivial⟩, (H.erase 0).weak (by omega) (Nat.le_refl _)⟩
    ·skip
     refine .wanted rfl rfl (.move (v := (vi (ZB x1.To by').2)) rfl rfl (.wanted rfl rfl (.int (m := (ZB x1.To by').2) (m' := 0) (r := .bool (((ZB x1.To by').2) != 0)) rfl rfl rfl rfl rfl (.Zg (v := (vb (((ZB x1.To by').2) != 0))) rfl rfl rfl (.nil ?_)))))
     exact ⟨⟨or_F hc2, rfl, rfl, rfl, rfl, rfl, rfl, rfl, trivial⟩, (H.erase 0).weak (by omega) (Nat.le_refl _)⟩
   ·rintro e σ ⟨he, H⟩
    obtain ⟨e, rfl⟩ := he.ex
    refine .move (v := (vb ((((ZB x1.From by').2) != 0) || (((ZB x1.To by').2) != 0)))) rfl rfl ?_
    refine .mid 4 (K1 := fun e σ => Z4 e [(43, (vb (((((ZB x1.From by').2) != 0) || (((ZB x1.To by').2) != 0)) || (!(Za ((ZB x1.From by').1)))))), (1, (vi by')), (6, w3), (9, (vi (ZB x1.From by').1)), (11, (vi (ZB x1.To by').1)), (13, (vl Span.cs l)), (14, (vi (l.length : Int))), (15, (vi s2.1))] ∧ Has σ (b8 + 11) (b8 + 16) [.sl w3 65 2 (s2.2.map Span.cs) true]) rfl ?_ ?_
    ·refine .split rfl rfl ?_ ?_ <;> intro hc3
     ·skip
      refine .pass rfl rfl rfl (.pass rfl rfl rfl (.pass rfl rfl rfl (.Ze (v := (vb true)) rfl rfl rfl (.nil ?_))))
      exact ⟨⟨or_T hc3, rfl, rfl, rfl, rfl, rfl, rfl, rfl, trivial⟩, H.weak (by omega) (Nat.le_refl _)⟩
     ·skip
      refine .wanted rfl rfl (.move (v := (vi (ZB x1.From by').1)) rfl rfl (.wanted rfl rfl (.call (ys := [(vi (ZB x1.From by').1)]) (r := (vb (Za ((ZB x1.From by').1)))) rfl (Z3Y rfl) rfl (.wanted rfl rfl (.not (b := (Za ((ZB x1.From by').1))) rfl rfl ?_)))))
      refine .Zg (v := (vb (!(Za ((ZB x1.From by').1))))) rfl rfl rfl (.nil ?_)
      exact ⟨⟨or_F hc3, rfl, rfl, rfl, rfl, rfl, rfl, rfl, trivial⟩, H.weak (by omega) (Nat.le_refl _)⟩
    ·rintro e σ ⟨he, H⟩
     obtain ⟨e, rfl⟩ := he.ex
     refine .move (v := (vb (((((ZB x1.From by').2) != 0) || (((ZB x1.To by').2) != 0)) || (!(Za ((ZB x1.From by').1)))))) rfl rfl ?_
     refine .mid 4 (K1 := fun e σ => Z4 e [(48, (vb ((((((ZB x1.From by').2) != 0) || (((ZB x1.To by').2) != 0)) || (!(Za ((ZB x1.From by').1)))) || (!(Za ((ZB x1.To by').1)))))), (1, (vi by')), (6, w3), (9, (vi (ZB x1.From by').1)), (11, (vi (ZB x1.To by').1)), (13, (vl Span.cs l)), (14, (vi (l.length : Int))), (15, (vi s2.1))] ∧ Has σ (b8 + 16) (b8 + 16) [.sl w3 65 2 (s2.2.map Span.cs) true]) rfl ?_ ?_
     ·refine .split rfl rfl ?_ ?_ <;> intro hc4
      ·skip
       refine .pass rfl rfl rfl (.pass rfl rfl rfl (.pass rfl rfl rfl (.Ze (v := (vb true)) rfl rfl rfl (.nil ?_))))
       exact ⟨⟨or_T hc4, rfl, rfl, rfl, rfl, rfl, rfl, rfl, trivial⟩, H.weak (by omega) (Nat.le_refl _)⟩
      ·skip
       refine .wanted rfl rfl (.move (v := (vi (ZB x1.To by').1)) rfl rfl (.wanted rfl rfl (.call (ys := [(vi (ZB x1.To by').1)]) (r := (vb (Za ((ZB x1.To by').1)))) rfl (Z3Y rfl) rfl (.wanted rfl rfl (.not (b := (Za ((ZB x1.To by').1))) rfl rfl ?_)))))
       refine .Zg (v := (vb (!(Za ((ZB x1.To by').1))))) rfl rfl rfl (.nil ?_)
       exact ⟨⟨or_F hc4, rfl, rfl, rfl, rfl, rfl, rfl, rfl, trivial⟩, H.weak (by omega) (Nat.le_refl _)⟩
     ·rintro e σ ⟨he, H⟩
      obtain ⟨e, rfl⟩ := he.ex
      refine .nila H fun H => ?_
      refine .whether (v := ((((((ZB x1.From by').2) != 0) || (((ZB x1.To by').2) != 0)) || (!(Za ((ZB x1.From by').1)))) || (!(Za ((ZB x1.To by').1))))) rfl ?_ ?_ <;> intro hc5
      ·replace h := Z6 hc5 h
       refine .then (.Z0 2 rfl H fun b9 σ H => (.assign (v := .nils) rfl rfl (.assign (v := (vi 20)) rfl rfl (.nila H fun H => (.ret ?_)))))
       replace h := sj h; subst h
       exact ⟨nofun, (.inr ⟨_, rfl, rfl, (Ends.H (xs := [.nils, (vi 20)]) (.inr rfl) H (.tmp (v := .nils) rfl (.tmp (v := (vi 20)) rfl .nil)) (.two (.cons (.c .n) (.cons (.c (.v _)) .nil))))⟩)⟩
      ·replace h := Z7 hc5 h
       refine .skip (.Z0 7 rfl H fun b10 σ H => (.move (v := w3) rfl rfl (.move (v := (vi (ZB x1.From by').1)) rfl rfl (.move (v := (vi (ZB x1.To by').1)) rfl rfl (.Z4r (cs := [(vi (ZB x1.From by').1), (vi (ZB x1.To by').1)]) rfl rfl ?_)))))
       refine .Z2o (sz := 2) ([(Span.mk ((ZB x1.From by').1) ((ZB x1.To by').1))].map Span.cs) H (by omega) (by omega) rfl rfl rfl rfl rfl rfl rfl rfl rfl fun σ H => ?_
       obtain ⟨x2, q2, h⟩ := bind_some h
       refine .Z5u (c := Span.cs) (v := w3) (w := (.buf (b10 + 4) 1 2)) (xs := s2.2) (ys := [(Span.mk ((ZB x1.From by').1) ((ZB x1.To by').1))]) H (by omega) (by omega) 1 rfl rfl rfl (.s 0 rfl) q2 rfl rfl rfl rfl rfl nofun rfl fun w5 σ H => (.assign (v := w5) rfl rfl (.nila H fun H => (.Z0 2 rfl H fun b11 σ H => (.int (m := s2.1) (m' := 1) (r := .int .i64 (w64 (s2.1 + 1))) rfl rfl rfl rfl rfl (.move (v := (vi (w64 (s2.1 + 1)))) rfl rfl ?_)))))
       refine .nila H fun H => ?_
       replace h := sj h; subst h
       exact ⟨rfl, w5, ⟨rfl, rfl, rfl, rfl, rfl, trivial⟩, (H.erase 0)⟩
  ·replace h := Z7 hc1 h
   refine .exit ?_
   replace h := sj h; subst h
   exact ⟨nofun, (.inl ⟨_, w3, rfl, rfl, ⟨rfl, trivial⟩, H⟩)⟩
 ·rintro x e σ (⟨a2, w6, rfl, rfl, he, H⟩ | ⟨r', rfl, rfl, hE⟩)
  ·skip
   replace h := jgo h
   obtain ⟨e, rfl⟩ := he.ex
   refine .then (.Z0 3 rfl H fun b12 σ H => (.move (v := w6) rfl rfl (.assign (v := w6) rfl rfl (.assign (v := (vi 0)) rfl rfl (.nila H fun H => ?_)))))
   refine .ret ?_
   replace h := sj h; subst h
   exact (Ends.H (xs := [w6, (vi 0)]) (.inr rfl) H (.tmp (v := w6) rfl (.tmp (v := (vi 0)) rfl .nil)) (.two (.cons (.c (.s 0 rfl)) (.cons (.c (.v _)) .nil))))
  ·skip
   replace h := jret h
   replace h := sj h; subst h
   exact hE

theorem Z3l {f : Form} {i : Int} {r : (List Span) × Int} (h : Z0H f i = some r) : Fn CX 29 [(.agg (vs (Form.cs f))), (vi i)] (.tup [(vl Span.cs r.1), (vi r.2)]) := by
 refine Fn.ends Try.func29 rfl rfl rfl rfl rfl rfl ?_
 have H : Hs (⟨0, fun _ => .none⟩ : Heap) [] := Has.nil (Nat.le_refl _)
 generalize (⟨0, fun _ => .none⟩ : Heap) = σ at H ⊢
 unfold Z0H at h
 refine .then (.Z0 3 rfl H fun b1 σ H => (.boxH (cs := (vF f)) H (by omega) (by omega) rfl rfl rfl fun σ H => (.assign (v := .nils) rfl rfl (.assign (v := (vi 0)) rfl rfl (.nila H fun H => ?_)))))
 refine .then (.then (.Z0 3 rfl H fun b2 σ H => (.move (v := (vi i)) rfl rfl (.call (ys := [(vi i)]) (r := (vb (Zp i))) rfl (Z3v rfl) rfl (.not (b := (Zp i)) rfl rfl ?_)))))
 refine .nila H fun H => ?_
 refine .whether (v := (!(Zp i))) rfl ?_ ?_ <;> intro hc1
 ·replace h := Z6 hc1 h
  refine .then (.Z0 2 rfl H fun b3 σ H => (.assign (v := .nils) rfl rfl (.assign (v := (vi 20)) rfl rfl (.nila H fun H => (.ret ?_)))))
  replace h := sj h; subst h
  exact (Ends.H (xs := [.nils, (vi 20)]) (.inr rfl) H (.tmp (v := .nils) rfl (.tmp (v := (vi 20)) rfl .nil)) (.two (.cons (.c .n) (.cons (.c (.v _)) .nil))))
 ·replace h := Z7 hc1 h
  refine .skip (.then (.Z0 10 rfl H fun b4 σ H => (.ZX (off := 0) (cs := (vF f)) H 0 rfl rfl rfl rfl rfl rfl rfl nofun rfl (.move (v := (vi i)) rfl rfl ?_))))
  obtain ⟨x1, q1, h⟩ := bind_some h
  refine .call (ys := [(.agg (vF f)), (vi i)]) (r := (.tup [(vl Span.cs x1.1), (vi x1.2.1), (vi x1.2.2)])) rfl (Z7I q1) rfl (.move (v := (.tup [(vl Span.cs x1.1), (vi x1.2.1), (vi x1.2.2)])) rfl rfl (.extract (v := (vl Span.cs x1.1)) rfl rfl rfl (.extract (v := (vi x1.2.1)) rfl rfl rfl (.extract (v := (vi x1.2.2)) rfl rfl rfl (.assign (v := (vl Span.cs x1.1)) rfl rfl ?_)))))
  refine .assign (v := (vi x1.2.1)) rfl rfl (.assign (v := (vi x1.2.2)) rfl rfl (.nila H fun H => (.then (.then (.Z0 3 rfl H fun b5 σ H => ?_)))))
  refine .move (v := (vl Span.cs x1.1)) rfl rfl (.Z0B (c := Span.cs) (xs := x1.1) rfl rfl rfl (.int (m := (x1.1.length : Int)) (m' := 0) (r := .bool ((x1.1.length : Int) == 0)) rfl rfl rfl rfl rfl (.nila H fun H => ?_)))
  refine .whether (v := ((x1.1.length : Int) == 0)) rfl ?_ ?_ <;> intro hc2
  ·replace h := Z6 hc2 h
   refine .then (.Z0 2 rfl H fun b6 σ H => (.assign (v := .nils) rfl rfl (.assign (v := (vi 0)) rfl rfl (.nila H fun H => (.ret ?_)))))
   replace h := sj h; subst h
   exact (Ends.H (xs := [.nils, (vi 0)]) (.inr rfl) H (.tmp (v := .nils) rfl (.tmp (v := (vi 0)) rfl .nil)) (.two (.cons (.c .n) (.cons (.c (.v _)) .nil))))
  ·replace h := Z7 hc2 h
   refine .skip (.then (.then (.Z0 2 rfl H fun b7 σ H => (.move (v := (vi x1.2.2)) rfl rfl (.int (m := x1.2.2) (m' := 0) (r := .bool (x1.2.2 != 0)) rfl rfl rfl rfl rfl ?_)))))
   refine .nila H fun H => ?_
   refine .whether (v := (x1.2.2 != 0)) rfl ?_ ?_ <;> intro hc3
   ·replace h := Z6 hc3 h
    refine .then (.Z0 2 rfl H fun b8 σ H => (.assign (v := .nils) rfl rfl (.assign (v := (vi 20)) rfl rfl (.nila H fun H => (.ret ?_)))))
    replace h := sj h; subst h
    exact (Ends.H (xs := [.nils, (vi 20)]) (.inr rfl) H (.tmp (v := .nils) rfl (.tmp (v := (vi 20)) rfl .nil)) (.two (.cons (.c .n) (.cons (.c (.v _)) .nil))))
   ·replace h := Z7 hc3 h
    refine .skip (.then (.Z0 7 rfl H fun b9 σ H => (.move (v := (vl Span.cs x1.1)) rfl rfl (.move (v := (vi x1.2.1)) rfl rfl ?_))))
    obtain ⟨x2, q2, h⟩ := bind_some h
    refine .call (ys := [(vl Span.cs x1.1), (vi x1.2.1)]) (r := (.tup [(vl Span.cs x2.1), (vi x2.2)])) rfl (spans_Move_fn q2) rfl (.extract (v := (vl Span.cs x2.1)) rfl rfl rfl (.extract (v := (vi x2.2)) rfl rfl rfl (.assign (v := (vl Span.cs x2.1)) rfl rfl (.assign (v := (vi x2.2)) rfl rfl (.nila H fun H => ?_)))))
    refine .ret ?_
    replace h := sj h; subst h
    exact (Ends.H (xs := [(vl Span.cs x2.1), (vi x2.2)]) (.inr rfl) H (.tmp (v := (vl Span.cs x2.1)) rfl (.tmp (v := (vi x2.2)) rfl .nil)) (.two (.cons (.c (.v _)) (.cons (.c (.v _)) .nil))))

theorem Z34 {s : (List (List Span))} {f : (List Span) → Option Bool} {C : List Res} {cv0 : PV} (hs0 : cv0.still = true) (hp0 : cv0.pure = true → C = []) (hf0 : ∀ z0 y, f z0 = some y → CloH CX cv0 [(vl Span.cs z0)] (vb y) C) {r : Int} (h : ZF s f = some r) : FnH CX 76 [(vl (cL Span.cs) s), cv0] (vi r) C := by
 refine FnH.of Try.func76 rfl rfl rfl rfl (Z2W rfl (Z2W hs0 all_nil)) rfl (fun h => hp0 (Z39 h 1 rfl)) ?_
 intro σ L hC H
 unfold ZF at h
 refine .then (.Z0 1 rfl H fun b1 σ H => (.assign (v := (vi 0)) rfl rfl (.nila H fun H => (.then (.then ?_)))))
 refine .Z0 3 rfl H fun b2 σ H => (.move (v := (vl (cL Span.cs) s)) rfl rfl (.Z0B (c := (cL Span.cs)) (xs := s) rfl rfl rfl (.move (v := (vi 0)) rfl rfl (.nila H fun H => (.inBlock ?_)))))
 obtain ⟨y1, hj1, h⟩ := bind_some h
 obtain ⟨n1, hj1⟩ := Zc.1 hj1
 refine .mono (Runs.ZJ hj1 (fun s1 e σ => Z4 e [(0, (vl (cL Span.cs) s)), (1, cv0), (7, (vi (s.length : Int))), (8, (vi s1))] ∧ Hs σ (L)) (fun y1 x e σ => (∃ a1, y1 = (.go a1) ∧ x = .exit 0 ∧ Z4 e [] ∧ Hs σ (L)) ∨ (∃ r', y1 = (.ret r') ∧ x = .ret ∧ EndsH CX Try.f76.results.toList (vi r') L x e σ)) ⟨⟨rfl, rfl, rfl, rfl, trivial⟩, H⟩ ?_) ?_
 ·intro s1 e σ hI z h
  obtain ⟨he, H⟩ := hI
  obtain ⟨e, rfl⟩ := he.ex
  unfold ZF.s0 at h
  refine .then (.Z0 1 rfl H fun b3 σ H => (.int (m := s1) (m' := (s.length : Int)) (r := .bool (decide (s1 < (s.length : Int)))) rfl rfl rfl rfl rfl (.nila H fun H => (.then ?_))))
  refine .whether (v := (decide (s1 < (s.length : Int)))) rfl ?_ ?_ <;> intro hc1
  ·replace h := Z6 hc1 h
   refine .skip (.then (.inBlock (.then (.Z0 2 rfl H fun b4 σ H => (.move (v := (vi s1)) rfl rfl ?_)))))
   refine .assign (v := (vi s1)) rfl rfl (.nila H fun H => (.then (.Z0 6 rfl H fun b5 σ H => (.move (v := cv0) rfl rfl (.move (v := (vl (cL Span.cs) s)) rfl rfl ?_)))))
   refine .move (v := (vi s1)) rfl rfl ?_
   obtain ⟨x1, q1, h⟩ := bind_some h
   refine .Z0C (c := (cL Span.cs)) (u := x1) rfl rfl q1 rfl rfl rfl rfl (.Z2H (u := (.sl (x1.map Span.cs))) rfl rfl rfl rfl ?_)
   obtain ⟨x2, q2, h⟩ := bind_some h
   refine .callV (cv := cv0) (ys := [(vl Span.cs x1)]) (r := (vb x2)) H rfl rfl (hf0 x1 _ q2) hC nofun rfl fun σ H => (.nila H fun H => ?_)
   refine .whether (v := x2) rfl ?_ ?_ <;> intro hc2
   ·replace h := Z6 hc2 h
    refine .then (.Z0 2 rfl H fun b6 σ H => (.move (v := (vi s1)) rfl rfl (.assign (v := (vi s1)) rfl rfl (.nila H fun H => (.ret ?_)))))
    replace h := sj h; subst h
    exact ⟨nofun, (.inr ⟨_, rfl, rfl, (EndsH.H (xs := [(vi s1)]) (.inr rfl) H (.tmp (v := (vi s1)) rfl .nil) (.one (.c (.v _))) 0 rfl)⟩)⟩
   ·replace h := Z7 hc2 h
    refine .skip (.Z0 2 rfl H fun b7 σ H => (.int (m := s1) (m' := 1) (r := .int .i64 (w64 (s1 + 1))) rfl rfl rfl rfl rfl (.move (v := (vi (w64 (s1 + 1)))) rfl rfl (.nila H fun H => ?_))))
    replace h := sj h; subst h
    exact ⟨rfl, ⟨rfl, rfl, rfl, rfl, trivial⟩, H⟩
  ·replace h := Z7 hc1 h
   refine .exit ?_
   replace h := sj h; subst h
   exact ⟨nofun, (.inl ⟨_, rfl, rfl, trivial, H⟩)⟩
 ·rintro x e σ (⟨a2, rfl, rfl, he, H⟩ | ⟨r', rfl, rfl, hE⟩)
  ·skip
   replace h := jgo h
   obtain ⟨e, rfl⟩ := he.ex
   refine .then (.Z0 1 rfl H fun b8 σ H => (.assign (v := (vi (-1))) rfl rfl (.nila H fun H => (.ret ?_))))
   replace h := sj h; subst h
   exact (EndsH.H (xs := [(vi (-1))]) (.inr rfl) H (.tmp (v := (vi (-1))) rfl .nil) (.one (.c (.v _))) 0 rfl)
  ·skip
   replace h := jret h
   replace h := sj h; subst h
   exact hE

theorem Z2a {s : (List (List Span))} {f : (List Span) → Option Bool} {C : List Res} {cv0 : PV} (hs0 : cv0.still = true) (hp0 : cv0.pure = true → C = []) (hf0 : ∀ z0 y, f z0 = some y → CloH CX cv0 [(vl Span.cs z0)] (vb y) C) {r : Bool} (h : Zb s f = some r) : FnH CX 72 [(vl (cL Span.cs) s), cv0] (vb r) C := by
 refine FnH.of Try.func72 rfl rfl rfl rfl (Z2W rfl (Z2W hs0 all_nil)) rfl (fun h => hp0 (Z39 h 1 rfl)) ?_
 intro σ L hC H
 unfold Zb at h
 refine .then (.Z0 1 rfl H fun b1 σ H => (.assign (v := (vb false)) rfl rfl (.nila H fun H => (.then (.Z0 5 rfl H fun b2 σ H => ?_)))))
 refine .move (v := (vl (cL Span.cs) s)) rfl rfl (.move (v := cv0) rfl rfl ?_)
 obtain ⟨x1, q1, h⟩ := bind_some h
 refine .Z6V (ys := [(vl (cL Span.cs) s), cv0]) (r := (vi x1)) H rfl (Z34 (C := C) hs0 hp0 hf0 q1) hC nofun rfl fun σ H => (.int (m := x1) (m' := 0) (r := .bool (decide (x1 ≥ 0))) rfl rfl rfl rfl rfl (.assign (v := (vb (decide (x1 ≥ 0)))) rfl rfl (.nila H fun H => (.ret ?_))))
 replace h := sj h; subst h
 exact (EndsH.H (xs := [(vb (decide (x1 ≥ 0)))]) (.inr rfl) H (.tmp (v := (vb (decide (x1 ≥ 0)))) rfl .nil) (.one (.c (.v _))) 0 rfl)

theorem Z9S {l : (List Span)} {r : Bool} (h : Z3o l = r) : Fn CX 73 [(vl Span.cs l)] (vb r) := by
 refine Fn.ends Try.func73 rfl rfl rfl rfl rfl rfl ?_
 have H : Hs (⟨0, fun _ => .none⟩ : Heap) [] := Has.nil (Nat.le_refl _)
 generalize (⟨0, fun _ => .none⟩ : Heap) = σ at H ⊢
 unfold Z3o at h
 refine .then (.Z0 1 rfl H fun b1 σ H => (.assign (v := (vb false)) rfl rfl (.nila H fun H => (.then (.Z0 4 rfl H fun b2 σ H => ?_)))))
 refine .move (v := (vl Span.cs l)) rfl rfl (.Z0B (c := Span.cs) (xs := l) rfl rfl rfl (.int (m := (l.length : Int)) (m' := 0) (r := .bool (decide ((l.length : Int) > 0))) rfl rfl rfl rfl rfl (.assign (v := (vb (decide ((l.length : Int) > 0)))) rfl rfl (.nila H fun H => (.ret ?_)))))
 subst h
 exact (Ends.H (xs := [(vb (decide ((l.length : Int) > 0)))]) (.inr rfl) H (.tmp (v := (vb (decide ((l.length : Int) > 0)))) rfl .nil) (.one (.c (.v _))))

theorem gran_bare_fn {f : Form} {r : Bool} (h : Z3V f = some r) : Fn CX 61 [(.agg (vs (Form.cs f)))] (vb r) := by
 refine Fn.ends Try.func61 rfl rfl rfl rfl rfl rfl ?_
 have H : Hs (⟨0, fun _ => .none⟩ : Heap) [] := Has.nil (Nat.le_refl _)
 generalize (⟨0, fun _ => .none⟩ : Heap) = σ at H ⊢
 unfold Z3V at h
 refine .then (.Z0 2 rfl H fun b1 σ H => (.boxH (cs := (vF f)) H (by omega) (by omega) rfl rfl rfl fun σ H => (.assign (v := (vb false)) rfl rfl (.nila H fun H => (.then ?_)))))
 refine .Z0 5 rfl H fun b2 σ H => (.Z2 (off := 0) (fo := 2) H 0 rfl rfl rfl rfl rfl nofun rfl (.ZQ (off := 2) (v := (vl (cL Span.cs) f.Core)) H 0 rfl rfl rfl rfl rfl nofun rfl ?_))
 obtain ⟨x1, q1, h⟩ := bind_some h
 refine .Z6V (ys := [(vl (cL Span.cs) f.Core), (.v (.fn 73))]) (r := (vb x1)) H rfl (Z2a (C := []) rfl (fun _ => rfl) (fun z0 y hz => (CloH.fn (Fn.toH (Z9S (Option.some.inj hz)) _))) q1) .nil nofun rfl fun σ H => (.not (b := x1) rfl rfl (.assign (v := (vb (!x1))) rfl rfl (.nila H fun H => (.ret ?_))))
 replace h := sj h; subst h
 exact (Ends.H (xs := [(vb (!x1))]) (.inr rfl) H (.tmp (v := (vb (!x1))) rfl .nil) (.one (.c (.v _))))

theorem gran_some_fn {f : Form} {i : Int} {r : Bool} (h : Z3G f i = some r) : Fn CX 62 [(.agg (vs (Form.cs f))), (vi i)] (vb r) := by
 refine Fn.ends Try.func62 rfl rfl rfl rfl rfl rfl ?_
 have H : Hs (⟨0, fun _ => .none⟩ : Heap) [] := Has.nil (Nat.le_refl _)
 generalize (⟨0, fun _ => .none⟩ : Heap) = σ at H ⊢
 unfold Z3G at h
 refine .then (.Z0 2 rfl H fun b1 σ H => (.boxH (cs := (vF f)) H (by omega) (by omega) rfl rfl rfl fun σ H => (.assign (v := (vb false)) rfl rfl (.nila H fun H => (.then ?_)))))
 refine .Z0 10 rfl H fun b2 σ H => (.ZX (off := 0) (cs := (vF f)) H 0 rfl rfl rfl rfl rfl rfl rfl nofun rfl (.move (v := (vi i)) rfl rfl ?_))
 obtain ⟨x1, q1, h⟩ := bind_some h
 refine .call (ys := [(.agg (vF f)), (vi i)]) (r := (.tup [(vl Span.cs x1.1), (vi x1.2.1), (vi x1.2.2)])) rfl (Z7I q1) rfl (.move (v := (.tup [(vl Span.cs x1.1), (vi x1.2.1), (vi x1.2.2)])) rfl rfl (.extract (v := (vl Span.cs x1.1)) rfl rfl rfl (.extract (v := (vi x1.2.1)) rfl rfl rfl (.extract (v := (vi x1.2.2)) rfl rfl rfl (.assign (v := (vl Span.cs x1.1)) rfl rfl ?_)))))
 refine .assign (v := (vi x1.2.1)) rfl rfl (.assign (v := (vi x1.2.2)) rfl rfl (.nila H fun H => (.then (.Z0 4 rfl H fun b3 σ H => (.move (v := (vl Span.cs x1.1)) rfl rfl ?_)))))
 refine .Z0B (c := Span.cs) (xs := x1.1) rfl rfl rfl (.int (m := (x1.1.length : Int)) (m' := 0) (r := .bool (decide ((x1.1.length : Int) > 0))) rfl rfl rfl rfl rfl (.assign (v := (vb (decide ((x1.1.length : Int) > 0)))) rfl rfl (.nila H fun H => (.ret ?_))))
 replace h := sj h; subst h
 exact (Ends.H (xs := [(vb (decide ((x1.1.length : Int) > 0)))]) (.inr rfl) H (.tmp (v := (vb (decide ((x1.1.length : Int) > 0)))) rfl .nil) (.one (.c (.v _))))

theorem Z7c {f : Form} {from' : Int} {by' : Int} {r : Int × Bool} (h : Zz f from' by' = some r) : Fn CX 48 [(.agg (vs (Form.cs f))), (vi from'), (vi by')] (.tup [(vi r.1), (vb r.2)]) := by
 refine Fn.ends Try.func48 rfl rfl rfl rfl rfl rfl ?_
 have H : Hs (⟨0, fun _ => .none⟩ : Heap) [] := Has.nil (Nat.le_refl _)
 generalize (⟨0, fun _ => .none⟩ : Heap) = σ at H ⊢
 unfold Zz at h
 refine .then (.Z0 3 rfl H fun b1 σ H => (.boxH (cs := (vF f)) H (by omega) (by omega) rfl rfl rfl fun σ H => (.assign (v := (vi 0)) rfl rfl (.assign (v := (vb false)) rfl rfl (.nila H fun H => ?_)))))
 refine .then (.then (.Z0 2 rfl H fun b2 σ H => (.ZX (off := 0) (cs := (vF f)) H 0 rfl rfl rfl rfl rfl rfl rfl nofun rfl ?_)))
 obtain ⟨x1, q1, h⟩ := bind_some h
 refine .call (ys := [(.agg (vF f))]) (r := (vb x1)) rfl (gran_bare_fn q1) rfl (.nila H fun H => ?_)
 refine .whether (v := x1) rfl ?_ ?_ <;> intro hc1
 ·replace h := Z6 hc1 h
  refine .then (.Z0 8 rfl H fun b3 σ H => (.ZX (off := 0) (cs := (vF f)) H 0 rfl rfl rfl rfl rfl rfl rfl nofun rfl (.move (v := (vi from')) rfl rfl ?_)))
  obtain ⟨x2, q2, h⟩ := bind_some h
  refine .call (ys := [(.agg (vF f)), (vi from')]) (r := (.tup [(vi x2.1), (vb x2.2)])) rfl (Z8T q2) rfl (.move (v := (.tup [(vi x2.1), (vb x2.2)])) rfl rfl (.extract (v := (vi x2.1)) rfl rfl rfl (.extract (v := (vb x2.2)) rfl rfl rfl (.assign (v := (vi x2.1)) rfl rfl (.assign (v := (vb x2.2)) rfl rfl ?_)))))
  refine .nila H fun H => (.then ?_)
  obtain ⟨y1, hj1, h⟩ := bind_some h
  refine .mono (Q := fun x e σ => x = .normal ∧ Z4 e [(2, (vi by')), (3, (.ptr (b1 + 0) 4 0)), (8, (vi y1))] ∧ Hs σ [.blk (b1 + 0) 25 (vF f)]) ?_ ?_
  ·replace h := hj1
   refine .then (.Z0 6 rfl H fun b4 σ H => (.move (v := (vi by')) rfl rfl (.int (m := by') (m' := 0) (r := .bool (decide (by' < 0))) rfl rfl rfl rfl rfl (.move (v := (vb (decide (by' < 0)))) rfl rfl ?_))))
   refine .mid 3 (K1 := fun e σ => Z4 e [(24, (vb ((decide (by' < 0)) && (!x2.2)))), (2, (vi by')), (3, (.ptr (b1 + 0) 4 0)), (8, (vi x2.1))] ∧ Has σ (b4 + 6) (b4 + 6) [.blk (b1 + 0) 25 (vF f)]) rfl ?_ ?_
   ·refine .split rfl rfl ?_ ?_ <;> intro hc2
    ·skip
     refine .wanted rfl rfl (.move (v := (vb x2.2)) rfl rfl (.wanted rfl rfl (.not (b := x2.2) rfl rfl (.Ze (v := (vb (!x2.2))) rfl rfl rfl (.nil ?_)))))
     exact ⟨⟨Z1D hc2, rfl, rfl, rfl, trivial⟩, H.weak (by omega) (Nat.le_refl _)⟩
    ·skip
     refine .pass rfl rfl rfl (.pass rfl rfl rfl (.Zg (v := (vb false)) rfl rfl rfl (.nil ?_)))
     exact ⟨⟨Z1E hc2, rfl, rfl, rfl, trivial⟩, H.weak (by omega) (Nat.le_refl _)⟩
   ·rintro e σ ⟨he, H⟩
    obtain ⟨e, rfl⟩ := he.ex
    refine .nila H fun H => ?_
    refine .whether (v := ((decide (by' < 0)) && (!x2.2))) rfl ?_ ?_ <;> intro hc3
    ·replace h := Z6 hc3 h
     refine .Z0 3 rfl H fun b5 σ H => (.move (v := (vi x2.1)) rfl rfl (.int (m := x2.1) (m' := 1) (r := .int .i64 (w64 (x2.1 - 1))) rfl rfl rfl rfl rfl (.assign (v := (vi (w64 (x2.1 - 1)))) rfl rfl (.nila H fun H => ?_))))
     replace h := sj h; subst h
     exact ⟨rfl, ⟨rfl, rfl, rfl, trivial⟩, H⟩
    ·replace h := Z7 hc3 h
     refine .skip ?_
     replace h := sj h; subst h
     exact ⟨rfl, ⟨rfl, rfl, rfl, trivial⟩, H⟩
  ·rintro x e σ ⟨rfl, he, H⟩
   obtain ⟨e, rfl⟩ := he.ex
   refine .then (.inBlock ?_)
   obtain ⟨y2, hj2, h⟩ := bind_some h
   obtain ⟨n1, hj2⟩ := Zc.1 hj2
   refine .mono (Runs.ZJ hj2 (fun s1 e σ => Z4 e [(2, (vi by')), (3, (.ptr (b1 + 0) 4 0)), (8, (vi s1))] ∧ Hs σ [.blk (b1 + 0) 25 (vF f)]) (fun y2 x e σ => (∃ a1, y2 = (.go a1) ∧ x = .exit 0 ∧ Z4 e [] ∧ Hs σ []) ∨ (∃ r', y2 = (.ret r') ∧ x = .ret ∧ Ends CX Try.f48.results.toList (.tup [(vi r'.1), (vb r'.2)]) x e σ)) ⟨⟨rfl, rfl, rfl, trivial⟩, H⟩ ?_) ?_
   ·intro s1 e σ hI z h
    obtain ⟨he, H⟩ := hI
    obtain ⟨e, rfl⟩ := he.ex
    unfold Zz.s0 at h
    refine .then (.then (.Z0 9 rfl H fun b6 σ H => (.move (v := (vi s1)) rfl rfl (.int (m := s1) (m' := 0) (r := .bool (decide (s1 ≥ 0))) rfl rfl rfl rfl rfl (.move (v := (vb (decide (s1 ≥ 0)))) rfl rfl ?_)))))
    refine .mid 6 (K1 := fun e σ => Z4 e [(35, (vb ((decide (s1 ≥ 0)) && (decide (s1 < (f.Odd.length : Int)))))), (2, (vi by')), (3, (.ptr (b1 + 0) 4 0)), (8, (vi s1))] ∧ Has σ (b6 + 9) (b6 + 9) [.blk (b1 + 0) 25 (vF f)]) rfl ?_ ?_
    ·refine .split rfl rfl ?_ ?_ <;> intro hc4
     ·skip
      refine .wanted rfl rfl (.move (v := (vi s1)) rfl rfl (.wanted rfl rfl (.Z2 (off := 0) (fo := 3) H 0 rfl rfl rfl rfl rfl nofun rfl (.wanted rfl rfl (.ZQ (off := 3) (v := (vl Granule.cs f.Odd)) H 0 rfl rfl rfl rfl rfl nofun rfl ?_)))))
      refine .wanted rfl rfl (.Z0B (c := Granule.cs) (xs := f.Odd) rfl rfl rfl (.wanted rfl rfl (.int (m := s1) (m' := (f.Odd.length : Int)) (r := .bool (decide (s1 < (f.Odd.length : Int)))) rfl rfl rfl rfl rfl (.Ze (v := (vb (decide (s1 < (f.Odd.length : Int))))) rfl rfl rfl (.nil ?_)))))
      exact ⟨⟨Z1D hc4, rfl, rfl, rfl, trivial⟩, H.weak (by omega) (Nat.le_refl _)⟩
     ·skip
      refine .pass rfl rfl rfl (.pass rfl rfl rfl (.pass rfl rfl rfl (.pass rfl rfl rfl (.pass rfl rfl rfl (.Zg (v := (vb false)) rfl rfl rfl ?_)))))
      refine .nil ?_
      exact ⟨⟨Z1E hc4, rfl, rfl, rfl, trivial⟩, H.weak (by omega) (Nat.le_refl _)⟩
    ·rintro e σ ⟨he, H⟩
     obtain ⟨e, rfl⟩ := he.ex
     refine .nila H fun H => ?_
     refine .whether (v := ((decide (s1 ≥ 0)) && (decide (s1 < (f.Odd.length : Int))))) rfl ?_ ?_ <;> intro hc5
     ·replace h := Z6 hc5 h
      refine .skip (.then (.inBlock (.then (.Z0 8 rfl H fun b7 σ H => (.Z2 (off := 0) (fo := 3) H 0 rfl rfl rfl rfl rfl nofun rfl ?_)))))
      refine .ZQ (off := 3) (v := (vl Granule.cs f.Odd)) H 0 rfl rfl rfl rfl rfl nofun rfl (.move (v := (vi s1)) rfl rfl ?_)
      obtain ⟨x3, q3, h⟩ := bind_some h
      refine .Z0C (c := Granule.cs) (u := x3) rfl rfl q3 rfl rfl rfl rfl (.Z14 rfl rfl rfl rfl (.Z2H (u := (.sl (x3.Ticks.map Span.cs))) rfl rfl rfl rfl (.Z0B (c := Span.cs) (xs := x3.Ticks) rfl rfl rfl (.int (m := (x3.Ticks.length : Int)) (m' := 0) (r := .bool (decide ((x3.Ticks.length : Int) > 0))) rfl rfl rfl rfl rfl (.nila H fun H => ?_)))))
      refine .whether (v := (decide ((x3.Ticks.length : Int) > 0))) rfl ?_ ?_ <;> intro hc6
      ·replace h := Z6 hc6 h
       refine .then (.Z0 8 rfl H fun b8 σ H => (.Z2 (off := 0) (fo := 3) H 0 rfl rfl rfl rfl rfl nofun rfl (.ZQ (off := 3) (v := (vl Granule.cs f.Odd)) H 0 rfl rfl rfl rfl rfl nofun rfl (.move (v := (vi s1)) rfl rfl ?_))))
       obtain ⟨x4, q4, h⟩ := bind_some h
       refine .Z0C (c := Granule.cs) (u := x4) rfl rfl q4 rfl rfl rfl rfl (.Z14 rfl rfl rfl rfl (.Z2H (u := (.int .i64 x4.Index)) rfl rfl rfl rfl (.assign (v := (vi x4.Index)) rfl rfl (.assign (v := (vb true)) rfl rfl (.nila H fun H => ?_)))))
       refine .ret ?_
       replace h := sj h; subst h
       exact ⟨nofun, (.inr ⟨_, rfl, rfl, (Ends.H (xs := [(vi x4.Index), (vb true)]) (.inr rfl) H (.tmp (v := (vi x4.Index)) rfl (.tmp (v := (vb true)) rfl .nil)) (.two (.cons (.c (.v _)) (.cons (.c (.v _)) .nil))))⟩)⟩
      ·replace h := Z7 hc6 h
       refine .skip (.Z0 4 rfl H fun b9 σ H => (.move (v := (vi s1)) rfl rfl (.move (v := (vi by')) rfl rfl (.int (m := s1) (m' := by') (r := .int .i64 (w64 (s1 + by'))) rfl rfl rfl rfl rfl (.assign (v := (vi (w64 (s1 + by')))) rfl rfl ?_)))))
       refine .nila H fun H => ?_
       replace h := sj h; subst h
       exact ⟨rfl, ⟨rfl, rfl, rfl, trivial⟩, H⟩
     ·replace h := Z7 hc5 h
      refine .exit ?_
      replace h := sj h; subst h
      exact ⟨nofun, (.inl ⟨_, rfl, rfl, trivial, (H.erase 0)⟩)⟩
   ·rintro x e σ (⟨a2, rfl, rfl, he, H⟩ | ⟨r', rfl, rfl, hE⟩)
    ·skip
     replace h := jgo h
     obtain ⟨e, rfl⟩ := he.ex
     refine .then (.Z0 2 rfl H fun b10 σ H => (.assign (v := (vi 0)) rfl rfl (.assign (v := (vb false)) rfl rfl (.nila H fun H => (.ret ?_)))))
     replace h := sj h; subst h
     exact (Ends.H (xs := [(vi 0), (vb false)]) (.inr rfl) H (.tmp (v := (vi 0)) rfl (.tmp (v := (vb false)) rfl .nil)) (.two (.cons (.c (.v _)) (.cons (.c (.v _)) .nil))))
    ·skip
     replace h := jret h
     replace h := sj h; subst h
     exact hE
 ·replace h := Z7 hc1 h
  refine .skip (.then (.then (.Z0 2 rfl H fun b11 σ H => (.move (v := (vi from')) rfl rfl (.assign (v := (vi from')) rfl rfl ?_)))))
  refine .nila H fun H => (.inBlock ?_)
  obtain ⟨y3, hj3, h⟩ := bind_some h
  obtain ⟨n2, hj3⟩ := Zc.1 hj3
  refine .mono (Runs.ZJ hj3 (fun s2 e σ => Z4 e [(2, (vi by')), (3, (.ptr (b1 + 0) 4 0)), (10, (vi s2))] ∧ Hs σ [.blk (b1 + 0) 25 (vF f)]) (fun y3 x e σ => (∃ a3, y3 = (.go a3) ∧ x = .exit 2 ∧ Z4 e [] ∧ Hs σ []) ∨ (∃ r', y3 = (.ret r') ∧ x = .ret ∧ Ends CX Try.f48.results.toList (.tup [(vi r'.1), (vb r'.2)]) x e σ)) ⟨⟨rfl, rfl, rfl, trivial⟩, H⟩ ?_) ?_
  ·intro s2 e σ hI z h
   obtain ⟨he, H⟩ := hI
   obtain ⟨e, rfl⟩ := he.ex
   unfold Zz.s1 at h
   refine .then (.then (.Z0 2 rfl H fun b12 σ H => (.move (v := (vi s2)) rfl rfl (.call (ys := [(vi s2)]) (r := (vb (Zp s2))) rfl (Z3v rfl) rfl (.nila H fun H => ?_)))))
   refine .whether (v := (Zp s2)) rfl ?_ ?_ <;> intro hc7
   ·replace h := Z6 hc7 h
    refine .skip (.then (.inBlock (.then (.Z0 3 rfl H fun b13 σ H => (.ZX (off := 0) (cs := (vF f)) H 0 rfl rfl rfl rfl rfl rfl rfl nofun rfl ?_)))))
    refine .move (v := (vi s2)) rfl rfl ?_
    obtain ⟨x5, q5, h⟩ := bind_some h
    refine .call (ys := [(.agg (vF f)), (vi s2)]) (r := (vb x5)) rfl (gran_some_fn q5) rfl (.nila H fun H => ?_)
    refine .whether (v := x5) rfl ?_ ?_ <;> intro hc8
    ·replace h := Z6 hc8 h
     refine .then (.Z0 3 rfl H fun b14 σ H => (.move (v := (vi s2)) rfl rfl (.assign (v := (vi s2)) rfl rfl (.assign (v := (vb true)) rfl rfl (.nila H fun H => ?_)))))
     refine .ret ?_
     replace h := sj h; subst h
     exact ⟨nofun, (.inr ⟨_, rfl, rfl, (Ends.H (xs := [(vi s2), (vb true)]) (.inr rfl) H (.tmp (v := (vi s2)) rfl (.tmp (v := (vb true)) rfl .nil)) (.two (.cons (.c (.v _)) (.cons (.c (.v _)) .nil))))⟩)⟩
    ·replace h := Z7 hc8 h
     refine .skip (.Z0 4 rfl H fun b15 σ H => (.move (v := (vi s2)) rfl rfl (.move (v := (vi by')) rfl rfl (.int (m := s2) (m' := by') (r := .int .i64 (w64 (s2 + by'))) rfl rfl rfl rfl rfl (.assign (v := (vi (w64 (s2 + by')))) rfl rfl ?_)))))
     refine .nila H fun H => ?_
     replace h := sj h; subst h
     exact ⟨rfl, ⟨rfl, rfl, rfl, trivial⟩, H⟩
   ·replace h := Z7 hc7 h
    refine .exit ?_
    replace h := sj h; subst h
    exact ⟨nofun, (.inl ⟨_, rfl, rfl, trivial, (H.erase 0)⟩)⟩
  ·rintro x e σ (⟨a4, rfl, rfl, he, H⟩ | ⟨r', rfl, rfl, hE⟩)
   ·skip
    replace h := jgo h
    obtain ⟨e, rfl⟩ := he.ex
    refine .then (.Z0 2 rfl H fun b16 σ H => (.assign (v := (vi 0)) rfl rfl (.assign (v := (vb false)) rfl rfl (.nila H fun H => (.ret ?_)))))
    replace h := sj h; subst h
    exact (Ends.H (xs := [(vi 0), (vb false)]) (.inr rfl) H (.tmp (v := (vi 0)) rfl (.tmp (v := (vb false)) rfl .nil)) (.two (.cons (.c (.v _)) (.cons (.c (.v _)) .nil))))
   ·skip
    replace h := jret h
    replace h := sj h; subst h
    exact hE

theorem Z9Y {f : Form} {i : Int} {r : Int × Bool} (h : Z13 f i = some r) : Fn CX 30 [(.agg (vs (Form.cs f))), (vi i)] (.tup [(vi r.1), (vb r.2)]) := by
 refine Fn.ends Try.func30 rfl rfl rfl rfl rfl rfl ?_
 have H : Hs (⟨0, fun _ => .none⟩ : Heap) [] := Has.nil (Nat.le_refl _)
 generalize (⟨0, fun _ => .none⟩ : Heap) = σ at H ⊢
 unfold Z13 at h
 refine .then (.Z0 3 rfl H fun b1 σ H => (.boxH (cs := (vF f)) H (by omega) (by omega) rfl rfl rfl fun σ H => (.assign (v := (vi 0)) rfl rfl (.assign (v := (vb false)) rfl rfl (.nila H fun H => ?_)))))
 refine .then (.then (.Z0 2 rfl H fun b2 σ H => (.move (v := (vi i)) rfl rfl (.int (m := i) (m' := (-1099511627776)) (r := .bool (decide (i ≤ (-1099511627776)))) rfl rfl rfl rfl rfl (.nila H fun H => ?_)))))
 refine .whether (v := (decide (i ≤ (-1099511627776)))) rfl ?_ ?_ <;> intro hc1
 ·replace h := Z6 hc1 h
  refine .then (.Z0 2 rfl H fun b3 σ H => (.assign (v := (vi 0)) rfl rfl (.assign (v := (vb false)) rfl rfl (.nila H fun H => (.ret ?_)))))
  replace h := sj h; subst h
  exact (Ends.H (xs := [(vi 0), (vb false)]) (.inr rfl) H (.tmp (v := (vi 0)) rfl (.tmp (v := (vb false)) rfl .nil)) (.two (.cons (.c (.v _)) (.cons (.c (.v _)) .nil))))
 ·replace h := Z7 hc1 h
  refine .skip (.then (.Z0 9 rfl H fun b4 σ H => (.ZX (off := 0) (cs := (vF f)) H 0 rfl rfl rfl rfl rfl rfl rfl nofun rfl (.move (v := (vi i)) rfl rfl (.int (m := i) (m' := 1) (r := .int .i64 (w64 (i - 1))) rfl rfl rfl rfl rfl ?_)))))
  refine .min2 rfl rfl rfl ?_
  obtain ⟨x1, q1, h⟩ := bind_some h
  refine .call (ys := [(.agg (vF f)), (vi (iMin (w64 (i - 1)) 1099511627776)), (vi (-1))]) (r := (.tup [(vi x1.1), (vb x1.2)])) rfl (Z7c q1) rfl (.extract (v := (vi x1.1)) rfl rfl rfl (.extract (v := (vb x1.2)) rfl rfl rfl (.assign (v := (vi x1.1)) rfl rfl (.assign (v := (vb x1.2)) rfl rfl (.nila H fun H => ?_)))))
  refine .ret ?_
  replace h := sj h; subst h
  exact (Ends.H (xs := [(vi x1.1), (vb x1.2)]) (.inr rfl) H (.tmp (v := (vi x1.1)) rfl (.tmp (v := (vb x1.2)) rfl .nil)) (.two (.cons (.c (.v _)) (.cons (.c (.v _)) .nil))))

theorem Z4N {f : Form} {i : Int} {r : Int × Bool} (h : Z0v f i = some r) : Fn CX 31 [(.agg (vs (Form.cs f))), (vi i)] (.tup [(vi r.1), (vb r.2)]) := by
 refine Fn.ends Try.func31 rfl rfl rfl rfl rfl rfl ?_
 have H : Hs (⟨0, fun _ => .none⟩ : Heap) [] := Has.nil (Nat.le_refl _)
 generalize (⟨0, fun _ => .none⟩ : Heap) = σ at H ⊢
 unfold Z0v at h
 refine .then (.Z0 3 rfl H fun b1 σ H => (.boxH (cs := (vF f)) H (by omega) (by omega) rfl rfl rfl fun σ H => (.assign (v := (vi 0)) rfl rfl (.assign (v := (vb false)) rfl rfl (.nila H fun H => ?_)))))
 refine .then (.then (.Z0 2 rfl H fun b2 σ H => (.move (v := (vi i)) rfl rfl (.int (m := i) (m' := 1099511627776) (r := .bool (decide (i ≥ 1099511627776))) rfl rfl rfl rfl rfl (.nila H fun H => ?_)))))
 refine .whether (v := (decide (i ≥ 1099511627776))) rfl ?_ ?_ <;> intro hc1
 ·replace h := Z6 hc1 h
  refine .then (.Z0 2 rfl H fun b3 σ H => (.assign (v := (vi 0)) rfl rfl (.assign (v := (vb false)) rfl rfl (.nila H fun H => (.ret ?_)))))
  replace h := sj h; subst h
  exact (Ends.H (xs := [(vi 0), (vb false)]) (.inr rfl) H (.tmp (v := (vi 0)) rfl (.tmp (v := (vb false)) rfl .nil)) (.two (.cons (.c (.v _)) (.cons (.c (.v _)) .nil))))
 ·replace h := Z7 hc1 h
  refine .skip (.then (.Z0 9 rfl H fun b4 σ H => (.ZX (off := 0) (cs := (vF f)) H 0 rfl rfl rfl rfl rfl rfl rfl nofun rfl (.move (v := (vi i)) rfl rfl (.int (m := i) (m' := 1) (r := .int .i64 (w64 (i + 1))) rfl rfl rfl rfl rfl ?_)))))
  refine .max2 rfl rfl rfl ?_
  obtain ⟨x1, q1, h⟩ := bind_some h
  refine .call (ys := [(.agg (vF f)), (vi (iMax (w64 (i + 1)) (-1099511627776))), (vi 1)]) (r := (.tup [(vi x1.1), (vb x1.2)])) rfl (Z7c q1) rfl (.extract (v := (vi x1.1)) rfl rfl rfl (.extract (v := (vb x1.2)) rfl rfl rfl (.assign (v := (vi x1.1)) rfl rfl (.assign (v := (vb x1.2)) rfl rfl (.nila H fun H => ?_)))))
  refine .ret ?_
  replace h := sj h; subst h
  exact (Ends.H (xs := [(vi x1.1), (vb x1.2)]) (.inr rfl) H (.tmp (v := (vi x1.1)) rfl (.tmp (v := (vb x1.2)) rfl .nil)) (.two (.cons (.c (.v _)) (.cons (.c (.v _)) .nil))))

theorem Z4F {a : (List Span)} {b : (List Span)} {r : Bool} (h : Z0W a b = some r) : Fn CX 32 [(vl Span.cs a), (vl Span.cs b)] (vb r) := by
 refine Fn.ends Try.func32 rfl rfl rfl rfl rfl rfl ?_
 have H : Hs (⟨0, fun _ => .none⟩ : Heap) [] := Has.nil (Nat.le_refl _)
 generalize (⟨0, fun _ => .none⟩ : Heap) = σ at H ⊢
 unfold Z0W at h
 refine .then (.Z0 1 rfl H fun b1 σ H => (.assign (v := (vb false)) rfl rfl (.nila H fun H => (.then (.Z2X 23 rfl (by kernel_rfl) H fun b2 σ H B2 => ?_)))))
 refine .move (v := (vl Span.cs a)) rfl rfl (.Z0B (c := Span.cs) (xs := a) rfl rfl rfl (.int (m := (a.length : Int)) (m' := 0) (r := .bool ((a.length : Int) == 0)) rfl rfl rfl rfl rfl (.move (v := (vb ((a.length : Int) == 0))) rfl rfl ?_)))
 refine .mid 4 (K1 := fun e σ => Z4 e [(12, (vb (((a.length : Int) == 0) || ((b.length : Int) == 0)))), (0, (vl Span.cs a)), (1, (vl Span.cs b))] ∧ Has σ (b2 + 8) (b2 + 23) []) rfl ?_ ?_
 ·refine .split rfl rfl ?_ ?_ <;> intro hc1
  ·skip
   refine .pass rfl rfl rfl (.pass rfl rfl rfl (.pass rfl rfl rfl (.Ze (v := (vb true)) rfl rfl rfl (.nil ?_))))
   exact ⟨⟨or_T hc1, rfl, rfl, trivial⟩, H.weak (by omega) (Nat.le_refl _)⟩
  ·skip
   refine .wanted rfl rfl (.move (v := (vl Span.cs b)) rfl rfl (.wanted rfl rfl (.Z0B (c := Span.cs) (xs := b) rfl rfl rfl (.wanted rfl rfl (.int (m := (b.length : Int)) (m' := 0) (r := .bool ((b.length : Int) == 0)) rfl rfl rfl rfl rfl ?_)))))
   refine .Zg (v := (vb ((b.length : Int) == 0))) rfl rfl rfl (.nil ?_)
   exact ⟨⟨or_F hc1, rfl, rfl, trivial⟩, H.weak (by omega) (Nat.le_refl _)⟩
 ·rintro e σ ⟨he, H⟩
  obtain ⟨e, rfl⟩ := he.ex
  refine .move (v := (vb (((a.length : Int) == 0) || ((b.length : Int) == 0)))) rfl rfl ?_
  obtain ⟨y1, hj1, h⟩ := bind_some h
  refine .mid 13 (K1 := fun e σ => Z4 e [(26, (vb y1))] ∧ Has σ (b2 + 22) (b2 + 23) []) rfl ?_ ?_
  ·refine .split rfl rfl ?_ ?_ <;> intro hc2
   ·replace h := Z6 hc2 hj1
    refine .pass rfl rfl rfl (.pass rfl rfl rfl (.pass rfl rfl rfl (.pass rfl rfl rfl (.pass rfl rfl rfl (.pass rfl rfl rfl ?_)))))
    refine .pass rfl rfl rfl (.pass rfl rfl rfl (.pass rfl rfl rfl (.pass rfl rfl rfl (.pass rfl rfl rfl (.pass rfl rfl rfl ?_)))))
    refine .Ze (v := (vb true)) rfl rfl rfl (.nil ?_)
    replace h := sj h; subst h
    exact ⟨⟨rfl, trivial⟩, H.weak (by omega) (Nat.le_refl _)⟩
   ·replace h := Z7 hc2 hj1
    refine .wanted rfl rfl (.move (v := (vl Span.cs a)) rfl rfl (.wanted rfl rfl (.move (v := (vl Span.cs a)) rfl rfl (.wanted rfl rfl (.Z0B (c := Span.cs) (xs := a) rfl rfl rfl ?_)))))
    refine .wanted rfl rfl (.int (m := (a.length : Int)) (m' := 1) (r := .int .i64 (w64 ((a.length : Int) - 1))) rfl rfl rfl rfl rfl (.wanted rfl rfl ?_))
    obtain ⟨x1, q1, h⟩ := bind_some h
    refine .Z0C (c := Span.cs) (u := x1) rfl rfl q1 rfl rfl rfl rfl (.wanted rfl rfl (.Z14 rfl rfl rfl rfl (.wanted rfl rfl (.Z2H (u := (.int .i64 x1.To)) rfl rfl rfl rfl (.wanted rfl rfl ?_)))))
    refine .move (v := (vl Span.cs b)) rfl rfl (.wanted rfl rfl ?_)
    obtain ⟨x2, q2, h⟩ := bind_some h
    refine .Z0C (c := Span.cs) (u := x2) rfl rfl q2 rfl rfl rfl rfl (.wanted rfl rfl (.Z14 rfl rfl rfl rfl (.wanted rfl rfl (.Z2H (u := (.int .i64 x2.From)) rfl rfl rfl rfl (.wanted rfl rfl ?_)))))
    refine .int (m := x1.To) (m' := x2.From) (r := .bool (decide (x1.To < x2.From))) rfl rfl rfl rfl rfl (.Zg (v := (vb (decide (x1.To < x2.From)))) rfl rfl rfl (.nil ?_))
    replace h := sj h; subst h
    exact ⟨⟨rfl, trivial⟩, H.weak (by omega) (Nat.le_refl _)⟩
  ·rintro e σ ⟨he, H⟩
   obtain ⟨e, rfl⟩ := he.ex
   refine .assign (v := (vb y1)) rfl rfl (.nila H fun H => (.ret ?_))
   replace h := sj h; subst h
   exact (Ends.H (xs := [(vb y1)]) (.inr rfl) H (.tmp (v := (vb y1)) rfl .nil) (.one (.c (.v _))))

theorem Z9U {f : Form} {i : Int} {r : Bool} (h : Z1N f i = some r) : Fn CX 19 [(.agg (vs (Form.cs f))), (vi i)] (vb r) := by
 refine Fn.ends Try.func19 rfl rfl rfl rfl rfl rfl ?_
 have H : Hs (⟨0, fun _ => .none⟩ : Heap) [] := Has.nil (Nat.le_refl _)
 generalize (⟨0, fun _ => .none⟩ : Heap) = σ at H ⊢
 unfold Z1N at h
 refine .then (.Z0 2 rfl H fun b1 σ H => (.boxH (cs := (vF f)) H (by omega) (by omega) rfl rfl rfl fun σ H => (.assign (v := (vb false)) rfl rfl (.nila H fun H => (.then ?_)))))
 refine .Z0 8 rfl H fun b2 σ H => (.ZX (off := 0) (cs := (vF f)) H 0 rfl rfl rfl rfl rfl rfl rfl nofun rfl (.move (v := (vi i)) rfl rfl ?_))
 obtain ⟨x1, q1, h⟩ := bind_some h
 refine .call (ys := [(.agg (vF f)), (vi i)]) (r := (.tup [(vl Span.cs x1.1), (vi x1.2)])) rfl (Z3l q1) rfl (.move (v := (.tup [(vl Span.cs x1.1), (vi x1.2)])) rfl rfl (.extract (v := (vl Span.cs x1.1)) rfl rfl rfl (.extract (v := (vi x1.2)) rfl rfl rfl (.assign (v := (vl Span.cs x1.1)) rfl rfl (.assign (v := (vi x1.2)) rfl rfl ?_)))))
 refine .nila H fun H => (.then (.then (.Z0 2 rfl H fun b3 σ H => (.move (v := (vi x1.2)) rfl rfl (.int (m := x1.2) (m' := 0) (r := .bool (x1.2 != 0)) rfl rfl rfl rfl rfl ?_)))))
 refine .nila H fun H => ?_
 refine .whether (v := (x1.2 != 0)) rfl ?_ ?_ <;> intro hc1
 ·replace h := Z6 hc1 h
  refine .then (.Z0 1 rfl H fun b4 σ H => (.assign (v := (vb false)) rfl rfl (.nila H fun H => (.ret ?_))))
  replace h := sj h; subst h
  exact (Ends.H (xs := [(vb false)]) (.inr rfl) H (.tmp (v := (vb false)) rfl .nil) (.one (.c (.v _))))
 ·replace h := Z7 hc1 h
  refine .skip (.then (.Z0 8 rfl H fun b5 σ H => (.ZX (off := 0) (cs := (vF f)) H 0 rfl rfl rfl rfl rfl rfl rfl nofun rfl (.move (v := (vi i)) rfl rfl ?_))))
  obtain ⟨x2, q2, h⟩ := bind_some h
  refine .call (ys := [(.agg (vF f)), (vi i)]) (r := (.tup [(vi x2.1), (vb x2.2)])) rfl (Z9Y q2) rfl (.move (v := (.tup [(vi x2.1), (vb x2.2)])) rfl rfl (.extract (v := (vi x2.1)) rfl rfl rfl (.extract (v := (vb x2.2)) rfl rfl rfl (.assign (v := (vi x2.1)) rfl rfl (.assign (v := (vb x2.2)) rfl rfl ?_)))))
  refine .nila H fun H => (.then (.Z0 8 rfl H fun b6 σ H => (.ZX (off := 0) (cs := (vF f)) H 0 rfl rfl rfl rfl rfl rfl rfl nofun rfl (.move (v := (vi i)) rfl rfl ?_))))
  obtain ⟨x3, q3, h⟩ := bind_some h
  refine .call (ys := [(.agg (vF f)), (vi i)]) (r := (.tup [(vi x3.1), (vb x3.2)])) rfl (Z4N q3) rfl (.move (v := (.tup [(vi x3.1), (vb x3.2)])) rfl rfl (.extract (v := (vi x3.1)) rfl rfl rfl (.extract (v := (vb x3.2)) rfl rfl rfl (.assign (v := (vi x3.1)) rfl rfl (.assign (v := (vb x3.2)) rfl rfl ?_)))))
  refine .nila H fun H => (.then (.Z0 2 rfl H fun b7 σ H => (.assign (v := .nils) rfl rfl (.assign (v := .nils) rfl rfl (.nila H fun H => ?_)))))
  refine .then ?_
  obtain ⟨y1, hj1, h⟩ := bind_some h
  refine .mono (Q := fun x e σ => (∃ a1, ∃ (w1 : PV), RO w1 (a1.map Span.cs) ∧ y1 = (.go a1) ∧ x = .normal ∧ Z4 e [(2, (.ptr (b1 + 0) 4 0)), (5, (vl Span.cs x1.1)), (9, (vi x3.1)), (10, (vb x3.2)), (11, w1), (12, .nils)] ∧ Hs σ [.blk (b1 + 0) 25 (vF f)]) ∨ (∃ r', y1 = (.ret r') ∧ x = .ret ∧ Ends CX Try.f19.results.toList (vb r') x e σ)) ?_ ?_
  ·replace h := hj1
   refine .then (.Z0 1 rfl H fun b8 σ H => (.move (v := (vb x2.2)) rfl rfl (.nila H fun H => ?_)))
   refine .whether (v := x2.2) rfl ?_ ?_ <;> intro hc2
   ·replace h := Z6 hc2 h
    refine .then (.Z0 8 rfl H fun b9 σ H => (.ZX (off := 0) (cs := (vF f)) H 0 rfl rfl rfl rfl rfl rfl rfl nofun rfl (.move (v := (vi x2.1)) rfl rfl ?_)))
    obtain ⟨x4, q4, h⟩ := bind_some h
    refine .call (ys := [(.agg (vF f)), (vi x2.1)]) (r := (.tup [(vl Span.cs x4.1), (vi x4.2)])) rfl (Z3l q4) rfl (.move (v := (.tup [(vl Span.cs x4.1), (vi x4.2)])) rfl rfl (.extract (v := (vl Span.cs x4.1)) rfl rfl rfl (.extract (v := (vi x4.2)) rfl rfl rfl (.assign (v := (vl Span.cs x4.1)) rfl rfl (.assign (v := (vi x4.2)) rfl rfl ?_)))))
    refine .nila H fun H => (.then (.Z0 2 rfl H fun b10 σ H => (.move (v := (vi x4.2)) rfl rfl (.int (m := x4.2) (m' := 0) (r := .bool (x4.2 != 0)) rfl rfl rfl rfl rfl (.nila H fun H => ?_)))))
    refine .whether (v := (x4.2 != 0)) rfl ?_ ?_ <;> intro hc3
    ·replace h := Z6 hc3 h
     refine .then (.Z0 1 rfl H fun b11 σ H => (.assign (v := (vb false)) rfl rfl (.nila H fun H => (.ret ?_))))
     replace h := sj h; subst h
     exact (.inr ⟨_, rfl, rfl, (Ends.H (xs := [(vb false)]) (.inr rfl) H (.tmp (v := (vb false)) rfl .nil) (.one (.c (.v _))))⟩)
    ·replace h := Z7 hc3 h
     refine .skip ?_
     replace h := sj h; subst h
     exact (.inl ⟨_, (vl Span.cs x4.1), .inr rfl, rfl, rfl, ⟨rfl, rfl, rfl, rfl, rfl, rfl, trivial⟩, H⟩)
   ·replace h := Z7 hc2 h
    refine .skip ?_
    replace h := sj h; subst h
    exact (.inl ⟨_, .nils, .inl ⟨rfl, rfl⟩, rfl, rfl, ⟨rfl, rfl, rfl, rfl, rfl, rfl, trivial⟩, H⟩)
  ·rintro x e σ (⟨a2, w2, hw2, rfl, rfl, he, H⟩ | ⟨r', rfl, rfl, hE⟩)
   ·skip
    replace h := jgo h
    obtain ⟨e, rfl⟩ := he.ex
    refine .then ?_
    obtain ⟨y2, hj2, h⟩ := bind_some h
    refine .mono (Q := fun x e σ => (∃ a3, ∃ (w3 : PV), RO w3 (a3.map Span.cs) ∧ y2 = (.go a3) ∧ x = .normal ∧ Z4 e [(5, (vl Span.cs x1.1)), (11, w2), (12, w3)] ∧ Hs σ []) ∨ (∃ r', y2 = (.ret r') ∧ x = .ret ∧ Ends CX Try.f19.results.toList (vb r') x e σ)) ?_ ?_
    ·replace h := hj2
     refine .then (.Z0 1 rfl H fun b12 σ H => (.move (v := (vb x3.2)) rfl rfl (.nila H fun H => ?_)))
     refine .whether (v := x3.2) rfl ?_ ?_ <;> intro hc4
     ·replace h := Z6 hc4 h
      refine .then (.Z0 8 rfl H fun b13 σ H => (.ZX (off := 0) (cs := (vF f)) H 0 rfl rfl rfl rfl rfl rfl rfl nofun rfl (.move (v := (vi x3.1)) rfl rfl ?_)))
      obtain ⟨x5, q5, h⟩ := bind_some h
      refine .call (ys := [(.agg (vF f)), (vi x3.1)]) (r := (.tup [(vl Span.cs x5.1), (vi x5.2)])) rfl (Z3l q5) rfl (.move (v := (.tup [(vl Span.cs x5.1), (vi x5.2)])) rfl rfl (.extract (v := (vl Span.cs x5.1)) rfl rfl rfl (.extract (v := (vi x5.2)) rfl rfl rfl (.assign (v := (vl Span.cs x5.1)) rfl rfl (.assign (v := (vi x5.2)) rfl rfl ?_)))))
      refine .nila H fun H => (.then (.Z0 2 rfl H fun b14 σ H => (.move (v := (vi x5.2)) rfl rfl (.int (m := x5.2) (m' := 0) (r := .bool (x5.2 != 0)) rfl rfl rfl rfl rfl (.nila H fun H => ?_)))))
      refine .whether (v := (x5.2 != 0)) rfl ?_ ?_ <;> intro hc5
      ·replace h := Z6 hc5 h
       refine .then (.Z0 1 rfl H fun b15 σ H => (.assign (v := (vb false)) rfl rfl (.nila H fun H => (.ret ?_))))
       replace h := sj h; subst h
       exact (.inr ⟨_, rfl, rfl, (Ends.H (xs := [(vb false)]) (.inr rfl) H (.tmp (v := (vb false)) rfl .nil) (.one (.c (.v _))))⟩)
      ·replace h := Z7 hc5 h
       refine .skip ?_
       replace h := sj h; subst h
       exact (.inl ⟨_, (vl Span.cs x5.1), .inr rfl, rfl, rfl, ⟨rfl, rfl, rfl, trivial⟩, (H.erase 0)⟩)
     ·replace h := Z7 hc4 h
      refine .skip ?_
      replace h := sj h; subst h
      exact (.inl ⟨_, .nils, .inl ⟨rfl, rfl⟩, rfl, rfl, ⟨rfl, rfl, rfl, trivial⟩, (H.erase 0)⟩)
    ·rintro x e σ (⟨a4, w4, hw4, rfl, rfl, he, H⟩ | ⟨r', rfl, rfl, hE⟩)
     ·skip
      replace h := jgo h
      obtain ⟨e, rfl⟩ := he.ex
      refine .then (.Z0 14 rfl H fun b16 σ H => (.move (v := w2) rfl rfl (.move (v := (vl Span.cs x1.1)) rfl rfl ?_)))
      obtain ⟨x6, q6, h⟩ := bind_some h
      refine .Z6W (xs := [w2, (vl Span.cs x1.1)]) (ys := [(vl Span.cs a2), (vl Span.cs x1.1)]) H rfl (.cons (.c (.ro hw2)) (.cons (.c (.v _)) .nil)) (Z4F q6) rfl rfl nofun rfl fun σ H => (.move (v := (vb x6)) rfl rfl ?_)
      obtain ⟨y3, hj3, h⟩ := bind_some h
      refine .mid 4 (K1 := fun e σ => Z4 e [(58, (vb y3)), (11, w2), (12, w4)] ∧ Has σ (b16 + 8) (b16 + 14) []) rfl ?_ ?_
      ·refine .split rfl rfl ?_ ?_ <;> intro hc6
       ·replace h := Z6 hc6 hj3
        refine .wanted rfl rfl (.move (v := (vl Span.cs x1.1)) rfl rfl (.wanted rfl rfl (.move (v := w4) rfl rfl (.wanted rfl rfl ?_))))
        obtain ⟨x7, q7, h⟩ := bind_some h
        refine .Z6W (xs := [(vl Span.cs x1.1), w4]) (ys := [(vl Span.cs x1.1), (vl Span.cs a4)]) H rfl (.cons (.c (.v _)) (.cons (.c (.ro hw4)) .nil)) (Z4F q7) rfl rfl nofun rfl fun σ H => (.Ze (v := (vb x7)) rfl rfl rfl (.nil ?_))
        replace h := sj h; subst h
        exact ⟨⟨rfl, rfl, rfl, trivial⟩, H.weak (by omega) (Nat.le_refl _)⟩
       ·replace h := Z7 hc6 hj3
        refine .pass rfl rfl rfl (.pass rfl rfl rfl (.pass rfl rfl rfl (.Zg (v := (vb false)) rfl rfl rfl (.nil ?_))))
        replace h := sj h; subst h
        exact ⟨⟨rfl, rfl, rfl, trivial⟩, H.weak (by omega) (Nat.le_refl _)⟩
      ·rintro e σ ⟨he, H⟩
       obtain ⟨e, rfl⟩ := he.ex
       refine .move (v := (vb y3)) rfl rfl ?_
       obtain ⟨y4, hj4, h⟩ := bind_some h
       refine .mid 4 (K1 := fun e σ => Z4 e [(63, (vb y4))] ∧ Has σ (b16 + 13) (b16 + 14) []) rfl ?_ ?_
       ·refine .split rfl rfl ?_ ?_ <;> intro hc7
        ·replace h := Z6 hc7 hj4
         refine .wanted rfl rfl (.move (v := w2) rfl rfl (.wanted rfl rfl (.move (v := w4) rfl rfl (.wanted rfl rfl ?_))))
         obtain ⟨x8, q8, h⟩ := bind_some h
         refine .Z6W (xs := [w2, w4]) (ys := [(vl Span.cs a2), (vl Span.cs a4)]) H rfl (.cons (.c (.ro hw2)) (.cons (.c (.ro hw4)) .nil)) (Z4F q8) rfl rfl nofun rfl fun σ H => (.Ze (v := (vb x8)) rfl rfl rfl (.nil ?_))
         replace h := sj h; subst h
         exact ⟨⟨rfl, trivial⟩, H.weak (by omega) (Nat.le_refl _)⟩
        ·replace h := Z7 hc7 hj4
         refine .pass rfl rfl rfl (.pass rfl rfl rfl (.pass rfl rfl rfl (.Zg (v := (vb false)) rfl rfl rfl (.nil ?_))))
         replace h := sj h; subst h
         exact ⟨⟨rfl, trivial⟩, H.weak (by omega) (Nat.le_refl _)⟩
       ·rintro e σ ⟨he, H⟩
        obtain ⟨e, rfl⟩ := he.ex
        refine .assign (v := (vb y4)) rfl rfl (.nila H fun H => (.ret ?_))
        replace h := sj h; subst h
        exact (Ends.H (xs := [(vb y4)]) (.inr rfl) H (.tmp (v := (vb y4)) rfl .nil) (.one (.c (.v _))))
     ·skip
      replace h := jret h
      replace h := sj h; subst h
      exact hE
   ·skip
    replace h := jret h
    replace h := sj h; subst h
    exact hE

theorem Z6U {f : Form} {r : Int} (h : Zx f = some r) : Fn CX 7 [(.agg (vs (Form.cs f)))] (vi r) := by
 refine Fn.ends Try.func7 rfl rfl rfl rfl rfl rfl ?_
 have H : Hs (⟨0, fun _ => .none⟩ : Heap) [] := Has.nil (Nat.le_refl _)
 generalize (⟨0, fun _ => .none⟩ : Heap) = σ at H ⊢
 unfold Zx at h
 refine .then (.Z0 2 rfl H fun b1 σ H => (.boxH (cs := (vF f)) H (by omega) (by omega) rfl rfl rfl fun σ H => (.assign (v := (vi 0)) rfl rfl (.nila H fun H => (.then ?_)))))
 refine .then (.Z0 15 rfl H fun b2 σ H => (.Z2 (off := 0) (fo := 2) H 0 rfl rfl rfl rfl rfl nofun rfl (.ZQ (off := 2) (v := (vl (cL Span.cs) f.Core)) H 0 rfl rfl rfl rfl rfl nofun rfl (.Z0B (c := (cL Span.cs)) (xs := f.Core) rfl rfl rfl (.int (m := (f.Core.length : Int)) (m' := 6000) (r := .bool (decide ((f.Core.length : Int) > 6000))) rfl rfl rfl rfl rfl ?_)))))
 refine .move (v := (vb (decide ((f.Core.length : Int) > 6000)))) rfl rfl ?_
 refine .mid 5 (K1 := fun e σ => Z4 e [(14, (vb ((decide ((f.Core.length : Int) > 6000)) || (decide ((f.Odd.length : Int) > 6000))))), (1, (.ptr (b1 + 0) 4 0))] ∧ Has σ (b2 + 10) (b2 + 15) [.blk (b1 + 0) 25 (vF f)]) rfl ?_ ?_
 ·refine .split rfl rfl ?_ ?_ <;> intro hc1
  ·skip
   refine .pass rfl rfl rfl (.pass rfl rfl rfl (.pass rfl rfl rfl (.pass rfl rfl rfl (.Ze (v := (vb true)) rfl rfl rfl (.nil ?_)))))
   exact ⟨⟨or_T hc1, rfl, trivial⟩, H.weak (by omega) (Nat.le_refl _)⟩
  ·skip
   refine .wanted rfl rfl (.Z2 (off := 0) (fo := 3) H 0 rfl rfl rfl rfl rfl nofun rfl (.wanted rfl rfl (.ZQ (off := 3) (v := (vl Granule.cs f.Odd)) H 0 rfl rfl rfl rfl rfl nofun rfl (.wanted rfl rfl (.Z0B (c := Granule.cs) (xs := f.Odd) rfl rfl rfl ?_)))))
   refine .wanted rfl rfl (.int (m := (f.Odd.length : Int)) (m' := 6000) (r := .bool (decide ((f.Odd.length : Int) > 6000))) rfl rfl rfl rfl rfl (.Zg (v := (vb (decide ((f.Odd.length : Int) > 6000)))) rfl rfl rfl (.nil ?_)))
   exact ⟨⟨or_F hc1, rfl, trivial⟩, H.weak (by omega) (Nat.le_refl _)⟩
 ·rintro e σ ⟨he, H⟩
  obtain ⟨e, rfl⟩ := he.ex
  refine .move (v := (vb ((decide ((f.Core.length : Int) > 6000)) || (decide ((f.Odd.length : Int) > 6000))))) rfl rfl ?_
  obtain ⟨y1, hj1, h⟩ := bind_some h
  refine .mid 4 (K1 := fun e σ => Z4 e [(19, (vb y1)), (1, (.ptr (b1 + 0) 4 0))] ∧ Has σ (b2 + 15) (b2 + 15) [.blk (b1 + 0) 25 (vF f)]) rfl ?_ ?_
  ·refine .split rfl rfl ?_ ?_ <;> intro hc2
   ·replace h := Z6 hc2 hj1
    refine .pass rfl rfl rfl (.pass rfl rfl rfl (.pass rfl rfl rfl (.Ze (v := (vb true)) rfl rfl rfl (.nil ?_))))
    replace h := sj h; subst h
    exact ⟨⟨rfl, rfl, trivial⟩, H.weak (by omega) (Nat.le_refl _)⟩
   ·replace h := Z7 hc2 hj1
    refine .wanted rfl rfl (.ZX (off := 0) (cs := (vF f)) H 0 rfl rfl rfl rfl rfl rfl rfl nofun rfl (.wanted rfl rfl ?_))
    obtain ⟨x1, q1, h⟩ := bind_some h
    refine .call (ys := [(.agg (vF f))]) (r := (vi x1)) rfl (Z7l q1) rfl (.wanted rfl rfl (.int (m := x1) (m' := 60000) (r := .bool (decide (x1 > 60000))) rfl rfl rfl rfl rfl (.Zg (v := (vb (decide (x1 > 60000)))) rfl rfl rfl (.nil ?_))))
    replace h := sj h; subst h
    exact ⟨⟨rfl, rfl, trivial⟩, H.weak (by omega) (Nat.le_refl _)⟩
  ·rintro e σ ⟨he, H⟩
   obtain ⟨e, rfl⟩ := he.ex
   refine .nila H fun H => ?_
   refine .whether (v := y1) rfl ?_ ?_ <;> intro hc3
   ·replace h := Z6 hc3 h
    refine .then (.Z0 1 rfl H fun b3 σ H => (.assign (v := (vi 3)) rfl rfl (.nila H fun H => (.ret ?_))))
    replace h := sj h; subst h
    exact (Ends.H (xs := [(vi 3)]) (.inr rfl) H (.tmp (v := (vi 3)) rfl .nil) (.one (.c (.v _))))
   ·replace h := Z7 hc3 h
    refine .skip (.then (.then (.Z0 8 rfl H fun b4 σ H => (.ZX (off := 0) (cs := (vF f)) H 0 rfl rfl rfl rfl rfl rfl rfl nofun rfl ?_))))
    obtain ⟨x2, q2, h⟩ := bind_some h
    refine .call (ys := [(.agg (vF f))]) (r := (vb x2)) rfl (gran_shape_fn q2) rfl (.not (b := x2) rfl rfl (.move (v := (vb (!x2))) rfl rfl ?_))
    obtain ⟨y2, hj2, h⟩ := bind_some h
    refine .mid 4 (K1 := fun e σ => Z4 e [(27, (vb y2)), (1, (.ptr (b1 + 0) 4 0))] ∧ Has σ (b4 + 8) (b4 + 8) [.blk (b1 + 0) 25 (vF f)]) rfl ?_ ?_
    ·refine .split rfl rfl ?_ ?_ <;> intro hc4
     ·replace h := Z6 hc4 hj2
      refine .pass rfl rfl rfl (.pass rfl rfl rfl (.pass rfl rfl rfl (.Ze (v := (vb true)) rfl rfl rfl (.nil ?_))))
      replace h := sj h; subst h
      exact ⟨⟨rfl, rfl, trivial⟩, H.weak (by omega) (Nat.le_refl _)⟩
     ·replace h := Z7 hc4 hj2
      refine .wanted rfl rfl (.ZX (off := 0) (cs := (vF f)) H 0 rfl rfl rfl rfl rfl rfl rfl nofun rfl (.wanted rfl rfl ?_))
      obtain ⟨x3, q3, h⟩ := bind_some h
      refine .call (ys := [(.agg (vF f))]) (r := (vb x3)) rfl (gran_turns_fn q3) rfl (.wanted rfl rfl (.not (b := x3) rfl rfl (.Zg (v := (vb (!x3))) rfl rfl rfl (.nil ?_))))
      replace h := sj h; subst h
      exact ⟨⟨rfl, rfl, trivial⟩, H.weak (by omega) (Nat.le_refl _)⟩
    ·rintro e σ ⟨he, H⟩
     obtain ⟨e, rfl⟩ := he.ex
     refine .nila H fun H => ?_
     refine .whether (v := y2) rfl ?_ ?_ <;> intro hc5
     ·replace h := Z6 hc5 h
      refine .then (.Z0 1 rfl H fun b5 σ H => (.assign (v := (vi 50)) rfl rfl (.nila H fun H => (.ret ?_))))
      replace h := sj h; subst h
      exact (Ends.H (xs := [(vi 50)]) (.inr rfl) H (.tmp (v := (vi 50)) rfl .nil) (.one (.c (.v _))))
     ·replace h := Z7 hc5 h
      refine .skip (.then (.then (.Z0 4 rfl H fun b6 σ H => (.Z2 (off := 0) (fo := 3) H 0 rfl rfl rfl rfl rfl nofun rfl (.ZQ (off := 3) (v := (vl Granule.cs f.Odd)) H 0 rfl rfl rfl rfl rfl nofun rfl ?_)))))
      refine .Z0B (c := Granule.cs) (xs := f.Odd) rfl rfl rfl (.move (v := (vi 0)) rfl rfl (.nila H fun H => (.inBlock ?_)))
      obtain ⟨y3, hj3, h⟩ := bind_some h
      obtain ⟨n1, hj3⟩ := Zc.1 hj3
      refine .mono (Runs.ZJ hj3 (fun s1 e σ => Z4 e [(1, (.ptr (b1 + 0) 4 0)), (29, (vl Granule.cs f.Odd)), (30, (vi (f.Odd.length : Int))), (31, (vi s1))] ∧ Hs σ [.blk (b1 + 0) 25 (vF f)]) (fun y3 x e σ => (∃ a1, y3 = (.go a1) ∧ x = .exit 0 ∧ Z4 e [] ∧ Hs σ []) ∨ (∃ r', y3 = (.ret r') ∧ x = .ret ∧ Ends CX Try.f7.results.toList (vi r') x e σ)) ⟨⟨rfl, rfl, rfl, rfl, trivial⟩, H⟩ ?_) ?_
      ·intro s1 e σ hI z h
       obtain ⟨he, H⟩ := hI
       obtain ⟨e, rfl⟩ := he.ex
       unfold Zx.s0 at h
       refine .then (.Z0 1 rfl H fun b7 σ H => (.int (m := s1) (m' := (f.Odd.length : Int)) (r := .bool (decide (s1 < (f.Odd.length : Int)))) rfl rfl rfl rfl rfl (.nila H fun H => (.then ?_))))
       refine .whether (v := (decide (s1 < (f.Odd.length : Int)))) rfl ?_ ?_ <;> intro hc6
       ·replace h := Z6 hc6 h
        refine .skip (.then (.inBlock (.then (.Z0 4 rfl H fun b8 σ H => ?_))))
        obtain ⟨x4, q4, h⟩ := bind_some h
        refine .Z0C (c := Granule.cs) (u := x4) rfl rfl q4 rfl rfl rfl rfl (.Z2F (cs := [(.int .i64 x4.Index), (.sl (x4.Ticks.map Span.cs))]) rfl rfl rfl rfl rfl rfl (.Z0t (cs := [(vi 0), .nils]) H (by omega) (by omega) rfl rfl fun σ H => (.Z0U (off := 0) (cells' := [(vi x4.Index), (vl Span.cs x4.Ticks)]) H 0 rfl rfl rfl rfl rfl rfl rfl rfl rfl nofun fun σ H => (.nila H fun H => (.then ?_)))))
        refine .Z0 5 rfl H fun b9 σ H => (.ZX (off := 0) (cs := (vF f)) H 1 rfl rfl rfl rfl rfl rfl rfl nofun rfl (.Z2 (off := 0) (fo := 0) H 0 rfl rfl rfl rfl rfl nofun rfl (.ZQ (off := 0) (v := (vi x4.Index)) H 0 rfl rfl rfl rfl rfl nofun rfl ?_)))
        obtain ⟨x5, q5, h⟩ := bind_some h
        refine .call (ys := [(.agg (vF f)), (vi x4.Index)]) (r := (vb x5)) rfl (Z9U q5) rfl (.not (b := x5) rfl rfl (.nila H fun H => ?_))
        refine .whether (v := (!x5)) rfl ?_ ?_ <;> intro hc7
        ·replace h := Z6 hc7 h
         refine .then (.Z0 1 rfl H fun b10 σ H => (.assign (v := (vi 50)) rfl rfl (.nila H fun H => (.ret ?_))))
         replace h := sj h; subst h
         exact ⟨nofun, (.inr ⟨_, rfl, rfl, (Ends.H (xs := [(vi 50)]) (.inr rfl) H (.tmp (v := (vi 50)) rfl .nil) (.one (.c (.v _))))⟩)⟩
        ·replace h := Z7 hc7 h
         refine .skip (.Z0 2 rfl H fun b11 σ H => (.int (m := s1) (m' := 1) (r := .int .i64 (w64 (s1 + 1))) rfl rfl rfl rfl rfl (.move (v := (vi (w64 (s1 + 1)))) rfl rfl (.nila H fun H => ?_))))
         replace h := sj h; subst h
         exact ⟨rfl, ⟨rfl, rfl, rfl, rfl, trivial⟩, (H.erase 0)⟩
       ·replace h := Z7 hc6 h
        refine .exit ?_
        replace h := sj h; subst h
        exact ⟨nofun, (.inl ⟨_, rfl, rfl, trivial, (H.erase 0)⟩)⟩
      ·rintro x e σ (⟨a2, rfl, rfl, he, H⟩ | ⟨r', rfl, rfl, hE⟩)
       ·skip
        replace h := jgo h
        obtain ⟨e, rfl⟩ := he.ex
        refine .then (.Z0 1 rfl H fun b12 σ H => (.assign (v := (vi 0)) rfl rfl (.nila H fun H => (.ret ?_))))
        replace h := sj h; subst h
        exact (Ends.H (xs := [(vi 0)]) (.inr rfl) H (.tmp (v := (vi 0)) rfl .nil) (.one (.c (.v _))))
       ·skip
        replace h := jret h
        replace h := sj h; subst h
        exact hE

theorem Z6R {r : Form} (h : ZG = r) : Fn CX 20 [] (.agg (vs (Form.cs r))) := by
 refine Fn.ends Try.func20 rfl rfl rfl rfl rfl rfl ?_
 have H : Hs (⟨0, fun _ => .none⟩ : Heap) [] := Has.nil (Nat.le_refl _)
 generalize (⟨0, fun _ => .none⟩ : Heap) = σ at H ⊢
 unfold ZG at h
 refine .then (.Z0 1 rfl H fun b1 σ H => (.Z0t (cs := [(vi 0), (vi 0), .nils, .nils]) H (by omega) (by omega) rfl rfl fun σ H => (.nila H fun H => (.then (.Z0 5 rfl H fun b2 σ H => ?_)))))
 refine .Z4r (cs := [(vi 0), (vi 4)]) rfl rfl (.Z2o (sz := 2) ([(Span.mk 0 4)].map Span.cs) H (by omega) (by omega) rfl rfl rfl rfl rfl rfl rfl rfl rfl fun σ H => (.buildSF (sz := 1) ([[(Span.mk 0 4)]].map (cL Span.cs)) H (by omega) (by omega) rfl rfl (.exp (.c (.s 0 rfl)) .nil) rfl rfl rfl rfl rfl rfl rfl nofun fun σ H => (.Z4r (cs := [(vi 7), (vi 1), (.buf (b2 + 2) 1 1), .nils]) rfl rfl (.Z0U (off := 0) (cells' := [(vi 7), (vi 1), (.buf (b2 + 2) 1 1), .nils]) H 2 rfl rfl rfl rfl rfl rfl rfl rfl rfl nofun fun σ H => (.nila H fun H => ?_)))))
 refine .ret ?_
 subst h
 exact (Ends.H (xs := [(.agg [(vi 7), (vi 1), (.buf (b2 + 2) 1 1), .nils])]) (.inr rfl) H (.agg (cs := [(vi 7), (vi 1), (.buf (b2 + 2) 1 1), .nils]) (off := 0) 2 rfl rfl rfl rfl rfl rfl rfl .nil) (.one (.a (.cons (.v _) (.cons (.v _) (.cons (.s 0 rfl) (.cons .n .nil)))))))

theorem find_up_fn {r : Unit} (h : find_up = r) : Fn CX 53 [] (.agg [(vi 1), (.v (.fn 31)), (.v (.fn 64)), (.v (.fn 65))]) := by
 refine Fn.ends Try.func53 rfl rfl rfl rfl rfl rfl ?_
 have H : Hs (⟨0, fun _ => .none⟩ : Heap) [] := Has.nil (Nat.le_refl _)
 generalize (⟨0, fun _ => .none⟩ : Heap) = σ at H ⊢
 unfold find_up at h
 refine .then (.Z0 1 rfl H fun b1 σ H => (.Z0t (cs := [(vi 0), (.v .nilf), (.v .nilf), (.v .nilf)]) H (by omega) (by omega) rfl rfl fun σ H => (.nila H fun H => (.then (.Z0 2 rfl H fun b2 σ H => ?_)))))
 refine .Z4r (cs := [(vi 1), (.v (.fn 31)), (.v (.fn 64)), (.v (.fn 65))]) rfl rfl (.Z0U (off := 0) (cells' := [(vi 1), (.v (.fn 31)), (.v (.fn 64)), (.v (.fn 65))]) H 0 rfl rfl rfl rfl rfl rfl rfl rfl rfl nofun fun σ H => (.nila H fun H => (.ret ?_)))
 subst h
 exact (Ends.H (xs := [(.agg [(vi 1), (.v (.fn 31)), (.v (.fn 64)), (.v (.fn 65))])]) (.inr rfl) H (.agg (cs := [(vi 1), (.v (.fn 31)), (.v (.fn 64)), (.v (.fn 65))]) (off := 0) 0 rfl rfl rfl rfl rfl rfl rfl .nil) (.one (.p rfl)))

theorem Z4q {l : (List Span)} {r : Span × Bool} (h : Z16 l = some r) : Fn CX 41 [(vl Span.cs l)] (.tup [(.agg (vs (Span.cs r.1))), (vb r.2)]) := by
 refine Fn.ends Try.func41 rfl rfl rfl rfl rfl rfl ?_
 have H : Hs (⟨0, fun _ => .none⟩ : Heap) [] := Has.nil (Nat.le_refl _)
 generalize (⟨0, fun _ => .none⟩ : Heap) = σ at H ⊢
 unfold Z16 at h
 refine .then (.Z0 2 rfl H fun b1 σ H => (.Z0t (cs := [(vi 0), (vi 0)]) H (by omega) (by omega) rfl rfl fun σ H => (.assign (v := (vb false)) rfl rfl (.nila H fun H => (.then ?_)))))
 refine .then (.Z0 3 rfl H fun b2 σ H => (.move (v := (vl Span.cs l)) rfl rfl (.Z0B (c := Span.cs) (xs := l) rfl rfl rfl (.int (m := (l.length : Int)) (m' := 0) (r := .bool ((l.length : Int) == 0)) rfl rfl rfl rfl rfl (.nila H fun H => ?_)))))
 refine .whether (v := ((l.length : Int) == 0)) rfl ?_ ?_ <;> intro hc1
 ·replace h := Z6 hc1 h
  refine .then (.Z0 3 rfl H fun b3 σ H => (.Z4r (cs := [(vi 0), (vi 0)]) rfl rfl (.Z0U (off := 0) (cells' := [(vi 0), (vi 0)]) H 0 rfl rfl rfl rfl rfl rfl rfl rfl rfl nofun fun σ H => (.assign (v := (vb false)) rfl rfl (.nila H fun H => ?_)))))
  refine .ret ?_
  replace h := sj h; subst h
  exact (Ends.H (xs := [(.agg [(vi 0), (vi 0)]), (vb false)]) (.inr rfl) H (.agg (cs := [(vi 0), (vi 0)]) (off := 0) 0 rfl rfl rfl rfl rfl rfl rfl (.tmp (v := (vb false)) rfl .nil)) (.two (.cons (.p rfl) (.cons (.c (.v _)) .nil))))
 ·replace h := Z7 hc1 h
  refine .skip (.then (.Z2X 14 rfl (by kernel_rfl) H fun b4 σ H B4 => (.move (v := (vl Span.cs l)) rfl rfl ?_)))
  obtain ⟨x1, q1, h⟩ := bind_some h
  refine .Z0C (c := Span.cs) (u := x1) rfl rfl q1 rfl rfl rfl rfl (.Z14 rfl rfl rfl rfl (.Z2H (u := (.int .i64 x1.From)) rfl rfl rfl rfl (.move (v := (vl Span.cs l)) rfl rfl (.move (v := (vl Span.cs l)) rfl rfl (.Z0B (c := Span.cs) (xs := l) rfl rfl rfl ?_)))))
  refine .int (m := (l.length : Int)) (m' := 1) (r := .int .i64 (w64 ((l.length : Int) - 1))) rfl rfl rfl rfl rfl ?_
  obtain ⟨x2, q2, h⟩ := bind_some h
  refine .Z0C (c := Span.cs) (u := x2) rfl rfl q2 rfl rfl rfl rfl (.Z14 rfl rfl rfl rfl (.Z2H (u := (.int .i64 x2.To)) rfl rfl rfl rfl (.Z4r (cs := [(vi x1.From), (vi x2.To)]) rfl rfl (.Z0U (off := 0) (cells' := [(vi x1.From), (vi x2.To)]) H 0 rfl rfl rfl rfl rfl rfl rfl rfl rfl (fun _ => .inl ⟨B4 0 _ rfl _ rfl, (Z44 (by kernel_rfl))⟩) fun σ H => (.assign (v := (vb true)) rfl rfl ?_)))))
  refine .nila H fun H => (.ret ?_)
  replace h := sj h; subst h
  exact (Ends.H (xs := [(.agg [(vi x1.From), (vi x2.To)]), (vb true)]) (.inr rfl) H (.agg (cs := [(vi x1.From), (vi x2.To)]) (off := 0) 0 rfl rfl rfl rfl rfl rfl rfl (.tmp (v := (vb true)) rfl .nil)) (.two (.cons (.p rfl) (.cons (.c (.v _)) .nil))))

theorem find_up_1_fn {h' : Span} {t : Int} {period : Int} {r : Int} (h : Z6O h' t period = some r) : Fn CX 64 [(.agg (vs (Span.cs h'))), (vi t), (vi period)] (vi r) := by
 refine Fn.ends Try.func64 rfl rfl rfl rfl rfl rfl ?_
 have H : Hs (⟨0, fun _ => .none⟩ : Heap) [] := Has.nil (Nat.le_refl _)
 generalize (⟨0, fun _ => .none⟩ : Heap) = σ at H ⊢
 unfold Z6O at h
 refine .then (.Z0 2 rfl H fun b1 σ H => (.boxH (cs := [(vi h'.From), (vi h'.To)]) H (by omega) (by omega) rfl rfl rfl fun σ H => (.assign (v := (vi 0)) rfl rfl (.nila H fun H => (.then ?_)))))
 refine .Z0 13 rfl H fun b2 σ H => (.Z2 (off := 0) (fo := 1) H 0 rfl rfl rfl rfl rfl nofun rfl (.ZQ (off := 1) (v := (vi h'.To)) H 0 rfl rfl rfl rfl rfl nofun rfl (.move (v := (vi t)) rfl rfl (.int (m := h'.To) (m' := t) (r := .int .i64 (w64 (h'.To - t))) rfl rfl rfl rfl rfl (.move (v := (vi period)) rfl rfl ?_)))))
 obtain ⟨x1, q1, h⟩ := bind_some h
 refine .call (ys := [(vi (w64 (h'.To - t))), (vi period)]) (r := (.tup [(vi x1.1), (vi x1.2.1), (vi x1.2.2)])) rfl (Z6i q1) rfl (.move (v := (.tup [(vi x1.1), (vi x1.2.1), (vi x1.2.2)])) rfl rfl (.extract (v := (vi x1.1)) rfl rfl rfl (.extract (v := (vi x1.2.1)) rfl rfl rfl (.extract (v := (vi x1.2.2)) rfl rfl rfl (.assign (v := (vi x1.1)) rfl rfl ?_)))))
 refine .assign (v := (vi x1.2.1)) rfl rfl (.assign (v := (vi x1.2.2)) rfl rfl (.nila H fun H => (.then (.Z0 3 rfl H fun b3 σ H => (.move (v := (vi x1.1)) rfl rfl ?_)))))
 refine .neg (m := x1.1) rfl rfl (.assign (v := (vi (w64 (0 - x1.1)))) rfl rfl (.nila H fun H => (.ret ?_)))
 replace h := sj h; subst h
 exact (Ends.H (xs := [(vi (w64 (0 - x1.1)))]) (.inr rfl) H (.tmp (v := (vi (w64 (0 - x1.1)))) rfl .nil) (.one (.c (.v _))))

theorem Z2A {f : Form} {t : Int} {r : Int × Bool} (h : ZA f t = some r) : Fn CX 74 [(.agg (vs (Form.cs f))), (vi t), (.agg [(vi 1), (.v (.fn 31)), (.v (.fn 64)), (.v (.fn 65))])] (.tup [(vi r.1), (vb r.2)]) := by
 refine Fn.ends Try.func74 rfl rfl rfl rfl rfl rfl ?_
 have H : Hs (⟨0, fun _ => .none⟩ : Heap) [] := Has.nil (Nat.le_refl _)
 generalize (⟨0, fun _ => .none⟩ : Heap) = σ at H ⊢
 unfold ZA at h
 refine .then (.Z0 4 rfl H fun b1 σ H => (.boxH (cs := (vF f)) H (by omega) (by omega) rfl rfl rfl fun σ H => (.boxH (cs := [(vi 1), (.v (.fn 31)), (.v (.fn 64)), (.v (.fn 65))]) H (by omega) (by omega) rfl rfl rfl fun σ H => (.assign (v := (vi 0)) rfl rfl (.assign (v := (vb false)) rfl rfl ?_)))))
 refine .nila H fun H => (.then (.Z0 2 rfl H fun b2 σ H => (.assign (v := (vi 0)) rfl rfl (.assign (v := (vb false)) rfl rfl (.nila H fun H => ?_)))))
 refine .then (.then (.Z0 4 rfl H fun b3 σ H => (.Z2 (off := 0) (fo := 2) H 1 rfl rfl rfl rfl rfl nofun rfl (.ZQ (off := 2) (v := (vl (cL Span.cs) f.Core)) H 1 rfl rfl rfl rfl rfl nofun rfl (.Z0B (c := (cL Span.cs)) (xs := f.Core) rfl rfl rfl ?_)))))
 refine .move (v := (vi 0)) rfl rfl (.nila H fun H => (.inBlock ?_))
 obtain ⟨y1, hj1, h⟩ := bind_some h
 obtain ⟨n1, hj1⟩ := Zc.1 hj1
 refine .mono (Runs.ZJ hj1 (fun s1 e σ => Z4 e [(1, (vi t)), (3, (.ptr (b1 + 0) 4 0)), (5, (.ptr (b1 + 1) 4 0)), (8, (vi s1.1)), (9, (vb s1.2.1)), (16, (vl (cL Span.cs) f.Core)), (17, (vi (f.Core.length : Int))), (18, (vi s1.2.2))] ∧ Hs σ [.blk (b1 + 1) 87 [(vi 1), (.v (.fn 31)), (.v (.fn 64)), (.v (.fn 65))], .blk (b1 + 0) 25 (vF f)]) (fun y1 x e σ => x = .exit 0 ∧ Z4 e [(8, (vi y1.1)), (9, (vb y1.2))] ∧ Hs σ []) ⟨⟨rfl, rfl, rfl, rfl, rfl, rfl, rfl, rfl, trivial⟩, H⟩ ?_) ?_
 ·intro s1 e σ hI z h
  obtain ⟨he, H⟩ := hI
  obtain ⟨e, rfl⟩ := he.ex
  unfold ZA.s0 at h
  refine .then (.Z0 1 rfl H fun b4 σ H => (.int (m := s1.2.2) (m' := (f.Core.length : Int)) (r := .bool (decide (s1.2.2 < (f.Core.length : Int)))) rfl rfl rfl rfl rfl (.nila H fun H => (.then ?_))))
  refine .whether (v := (decide (s1.2.2 < (f.Core.length : Int)))) rfl ?_ ?_ <;> intro hc1
  ·replace h := Z6 hc1 h
   refine .skip (.then ?_)
   obtain ⟨y2, hj2, h⟩ := bind_some h
   refine .mono (Q := fun x e σ => x = .normal ∧ Z4 e [(1, (vi t)), (3, (.ptr (b1 + 0) 4 0)), (5, (.ptr (b1 + 1) 4 0)), (8, (vi y2.1)), (9, (vb y2.2)), (16, (vl (cL Span.cs) f.Core)), (17, (vi (f.Core.length : Int))), (18, (vi s1.2.2))] ∧ Hs σ [.blk (b1 + 1) 87 [(vi 1), (.v (.fn 31)), (.v (.fn 64)), (.v (.fn 65))], .blk (b1 + 0) 25 (vF f)]) ?_ ?_
   ·replace h := hj2
    refine .inBlock ?_
    obtain ⟨y3, hj3, h⟩ := bind_some h
    refine .mono (Q := fun x e σ => (∃ a1, y3 = (.go a1) ∧ x = .normal ∧ Z4 e [(1, (vi t)), (3, (.ptr (b1 + 0) 4 0)), (5, (.ptr (b1 + 1) 4 0)), (8, (vi a1.1)), (9, (vb a1.2)), (16, (vl (cL Span.cs) f.Core)), (17, (vi (f.Core.length : Int))), (18, (vi s1.2.2))] ∧ Hs σ [.blk (b1 + 1) 87 [(vi 1), (.v (.fn 31)), (.v (.fn 64)), (.v (.fn 65))], .blk (b1 + 0) 25 (vF f)]) ∨ (∃ a2, y3 = (.ret a2) ∧ x = .exit 1 ∧ Z4 e [(1, (vi t)), (3, (.ptr (b1 + 0) 4 0)), (5, (.ptr (b1 + 1) 4 0)), (8, (vi s1.1)), (9, (vb s1.2.1)), (16, (vl (cL Span.cs) f.Core)), (17, (vi (f.Core.length : Int))), (18, (vi s1.2.2))] ∧ Hs σ [.blk (b1 + 1) 87 [(vi 1), (.v (.fn 31)), (.v (.fn 64)), (.v (.fn 65))], .blk (b1 + 0) 25 (vF f)])) ?_ ?_
    ·replace h := hj3
     refine .then (.Z0 5 rfl H fun b5 σ H => (.move (v := (vi s1.2.2)) rfl rfl ?_))
     obtain ⟨x1, q1, h⟩ := bind_some h
     refine .Z0C (c := (cL Span.cs)) (u := x1) rfl rfl q1 rfl rfl rfl rfl (.Z2H (u := (.sl (x1.map Span.cs))) rfl rfl rfl rfl (.assign (v := (vi s1.2.2)) rfl rfl (.assign (v := (vl Span.cs x1)) rfl rfl (.nila H fun H => (.then ?_)))))
     refine .Z0 8 rfl H fun b6 σ H => (.move (v := (vl Span.cs x1)) rfl rfl ?_)
     obtain ⟨x2, q2, h⟩ := bind_some h
     refine .call (ys := [(vl Span.cs x1)]) (r := (.tup [(.agg [(vi x2.1.From), (vi x2.1.To)]), (vb x2.2)])) rfl (Z4q q2) rfl (.move (v := (.tup [(.agg [(vi x2.1.From), (vi x2.1.To)]), (vb x2.2)])) rfl rfl (.extract (v := (.agg [(vi x2.1.From), (vi x2.1.To)])) rfl rfl rfl (.extract (v := (vb x2.2)) rfl rfl rfl (.Z0t (cs := [(vi 0), (vi 0)]) H (by omega) (by omega) rfl rfl fun σ H => (.Z0U (off := 0) (cells' := [(vi x2.1.From), (vi x2.1.To)]) H 0 rfl rfl rfl rfl rfl rfl rfl rfl rfl nofun fun σ H => ?_)))))
     refine .assign (v := (vb x2.2)) rfl rfl (.nila H fun H => (.then (.then (.Z0 2 rfl H fun b7 σ H => (.move (v := (vb x2.2)) rfl rfl ?_)))))
     refine .not (b := x2.2) rfl rfl (.nila H fun H => ?_)
     refine .whether (v := (!x2.2)) rfl ?_ ?_ <;> intro hc2
     ·replace h := Z6 hc2 h
      refine .exit ?_
      replace h := sj h; subst h
      exact (.inr ⟨_, rfl, rfl, ⟨rfl, rfl, rfl, rfl, rfl, rfl, rfl, rfl, trivial⟩, (H.erase 0)⟩)
     ·replace h := Z7 hc2 h
      refine .skip (.then (.Z2X 13 rfl (by kernel_rfl) H fun b8 σ H B8 => (.Z2 (off := 0) (fo := 2) H 1 rfl rfl rfl rfl rfl (fun _ => .inl ⟨B8 1 _ rfl _ rfl, nofun, (fun _ => by kernel_rfl)⟩) rfl (.ZQ (off := 2) (v := (.v (.fn 64))) H 1 rfl rfl rfl rfl rfl (fun _ => .inl ⟨B8 1 _ rfl _ rfl, nofun, (fun _ => by kernel_rfl)⟩) rfl (.ZX (off := 0) (cs := [(vi x2.1.From), (vi x2.1.To)]) H 0 rfl rfl rfl rfl rfl rfl rfl (fun _ => .inl ⟨B8 0 _ rfl _ rfl, nofun, (fun _ => by kernel_rfl)⟩) rfl ?_)))))
      refine .move (v := (vi t)) rfl rfl (.Z2 (off := 0) (fo := 0) H 2 rfl rfl rfl rfl rfl (fun _ => .inl ⟨B8 2 _ rfl _ rfl, nofun, (fun _ => by kernel_rfl)⟩) rfl (.ZQ (off := 0) (v := (vi f.Period)) H 2 rfl rfl rfl rfl rfl (fun _ => .inl ⟨B8 2 _ rfl _ rfl, nofun, (fun _ => by kernel_rfl)⟩) rfl ?_))
      obtain ⟨x3, q3, h⟩ := bind_some h
      refine .callF (ys := [(.agg [(vi x2.1.From), (vi x2.1.To)]), (vi t), (vi f.Period)]) (r := (vi x3)) rfl rfl (find_up_1_fn q3) rfl (.Z2 (off := 0) (fo := 1) H 2 rfl rfl rfl rfl rfl (fun _ => .inl ⟨B8 2 _ rfl _ rfl, nofun, (fun _ => by kernel_rfl)⟩) rfl (.ZQ (off := 1) (v := (vi f.Count)) H 2 rfl rfl rfl rfl rfl (fun _ => .inl ⟨B8 2 _ rfl _ rfl, nofun, (fun _ => by kernel_rfl)⟩) rfl (.int (m := x3) (m' := f.Count) (r := .int .i64 (w64 (x3 * f.Count))) rfl rfl rfl rfl rfl (.move (v := (vi s1.2.2)) rfl rfl (.int (m := (w64 (x3 * f.Count))) (m' := s1.2.2) (r := .int .i64 (w64 ((w64 (x3 * f.Count)) + s1.2.2))) rfl rfl rfl rfl rfl ?_)))))
      refine .assign (v := (vi (w64 ((w64 (x3 * f.Count)) + s1.2.2)))) rfl rfl (.nila H fun H => (.then (.Z0 11 rfl H fun b9 σ H => (.move (v := (vb s1.2.1)) rfl rfl (.not (b := s1.2.1) rfl rfl ?_)))))
      refine .move (v := (vb (!s1.2.1))) rfl rfl ?_
      refine .mid 8 (K1 := fun e σ => Z4 e [(52, (vb ((!s1.2.1) || (decide ((w64 ((w64 ((w64 ((w64 (x3 * f.Count)) + s1.2.2)) - s1.1)) * 1)) < 0))))), (1, (vi t)), (3, (.ptr (b1 + 0) 4 0)), (5, (.ptr (b1 + 1) 4 0)), (8, (vi s1.1)), (9, (vb s1.2.1)), (14, (vi (w64 ((w64 (x3 * f.Count)) + s1.2.2)))), (16, (vl (cL Span.cs) f.Core)), (17, (vi (f.Core.length : Int))), (18, (vi s1.2.2))] ∧ Has σ (b9 + 11) (b9 + 11) [.blk (b1 + 1) 87 [(vi 1), (.v (.fn 31)), (.v (.fn 64)), (.v (.fn 65))], .blk (b1 + 0) 25 (vF f)]) rfl ?_ ?_
      ·refine .split rfl rfl ?_ ?_ <;> intro hc3
       ·skip
        refine .pass rfl rfl rfl (.pass rfl rfl rfl (.pass rfl rfl rfl (.pass rfl rfl rfl (.pass rfl rfl rfl (.pass rfl rfl rfl ?_)))))
        refine .pass rfl rfl rfl (.Ze (v := (vb true)) rfl rfl rfl (.nil ?_))
        exact ⟨⟨or_T hc3, rfl, rfl, rfl, rfl, rfl, rfl, rfl, rfl, rfl, trivial⟩, (H.erase 0).weak (by omega) (Nat.le_refl _)⟩
       ·skip
        refine .wanted rfl rfl (.move (v := (vi (w64 ((w64 (x3 * f.Count)) + s1.2.2)))) rfl rfl (.wanted rfl rfl (.move (v := (vi s1.1)) rfl rfl (.wanted rfl rfl (.int (m := (w64 ((w64 (x3 * f.Count)) + s1.2.2))) (m' := s1.1) (r := .int .i64 (w64 ((w64 ((w64 (x3 * f.Count)) + s1.2.2)) - s1.1))) rfl rfl rfl rfl rfl ?_)))))
        refine .wanted rfl rfl (.Z2 (off := 0) (fo := 0) H 1 rfl rfl rfl rfl rfl nofun rfl (.wanted rfl rfl (.ZQ (off := 0) (v := (vi 1)) H 1 rfl rfl rfl rfl rfl nofun rfl (.wanted rfl rfl (.int (m := (w64 ((w64 ((w64 (x3 * f.Count)) + s1.2.2)) - s1.1))) (m' := 1) (r := .int .i64 (w64 ((w64 ((w64 ((w64 (x3 * f.Count)) + s1.2.2)) - s1.1)) * 1))) rfl rfl rfl rfl rfl ?_)))))
        refine .wanted rfl rfl (.int (m := (w64 ((w64 ((w64 ((w64 (x3 * f.Count)) + s1.2.2)) - s1.1)) * 1))) (m' := 0) (r := .bool (decide ((w64 ((w64 ((w64 ((w64 (x3 * f.Count)) + s1.2.2)) - s1.1)) * 1)) < 0))) rfl rfl rfl rfl rfl (.Zg (v := (vb (decide ((w64 ((w64 ((w64 ((w64 (x3 * f.Count)) + s1.2.2)) - s1.1)) * 1)) < 0)))) rfl rfl rfl (.nil ?_)))
        exact ⟨⟨or_F hc3, rfl, rfl, rfl, rfl, rfl, rfl, rfl, rfl, rfl, trivial⟩, (H.erase 0).weak (by omega) (Nat.le_refl _)⟩
      ·rintro e σ ⟨he, H⟩
       obtain ⟨e, rfl⟩ := he.ex
       refine .nila H fun H => ?_
       refine .whether (v := ((!s1.2.1) || (decide ((w64 ((w64 ((w64 ((w64 (x3 * f.Count)) + s1.2.2)) - s1.1)) * 1)) < 0)))) rfl ?_ ?_ <;> intro hc4
       ·replace h := Z6 hc4 h
        refine .Z0 3 rfl H fun b10 σ H => (.move (v := (vi (w64 ((w64 (x3 * f.Count)) + s1.2.2)))) rfl rfl (.assign (v := (vi (w64 ((w64 (x3 * f.Count)) + s1.2.2)))) rfl rfl (.assign (v := (vb true)) rfl rfl (.nila H fun H => ?_))))
        replace h := sj h; subst h
        exact (.inl ⟨_, rfl, rfl, ⟨rfl, rfl, rfl, rfl, rfl, rfl, rfl, rfl, trivial⟩, H⟩)
       ·replace h := Z7 hc4 h
        refine .skip ?_
        replace h := sj h; subst h
        exact (.inl ⟨_, rfl, rfl, ⟨rfl, rfl, rfl, rfl, rfl, rfl, rfl, rfl, trivial⟩, H⟩)
    ·rintro x e σ (⟨a3, rfl, rfl, he, H⟩ | ⟨a4, rfl, rfl, he, H⟩)
     ·skip
      replace h := jgo h
      obtain ⟨e, rfl⟩ := he.ex
      replace h := sj h; subst h
      exact ⟨rfl, ⟨rfl, rfl, rfl, rfl, rfl, rfl, rfl, rfl, trivial⟩, H⟩
     ·skip
      replace h := jret h
      obtain ⟨e, rfl⟩ := he.ex
      replace h := sj h; subst h
      exact ⟨rfl, ⟨rfl, rfl, rfl, rfl, rfl, rfl, rfl, rfl, trivial⟩, H⟩
   ·rintro x e σ ⟨rfl, he, H⟩
    obtain ⟨e, rfl⟩ := he.ex
    refine .Z0 2 rfl H fun b11 σ H => (.int (m := s1.2.2) (m' := 1) (r := .int .i64 (w64 (s1.2.2 + 1))) rfl rfl rfl rfl rfl (.move (v := (vi (w64 (s1.2.2 + 1)))) rfl rfl (.nila H fun H => ?_)))
    replace h := sj h; subst h
    exact ⟨rfl, ⟨rfl, rfl, rfl, rfl, rfl, rfl, rfl, rfl, trivial⟩, H⟩
  ·replace h := Z7 hc1 h
   refine .exit ?_
   replace h := sj h; subst h
   exact ⟨nofun, ⟨rfl, ⟨rfl, rfl, trivial⟩, ((H.erase 1).erase 0)⟩⟩
 ·rintro x e σ ⟨rfl, he, H⟩
  obtain ⟨e, rfl⟩ := he.ex
  refine .then (.Z0 4 rfl H fun b12 σ H => (.move (v := (vi y1.1)) rfl rfl (.move (v := (vb y1.2)) rfl rfl (.assign (v := (vi y1.1)) rfl rfl (.assign (v := (vb y1.2)) rfl rfl ?_)))))
  refine .nila H fun H => (.ret ?_)
  replace h := sj h; subst h
  exact (Ends.H (xs := [(vi y1.1), (vb y1.2)]) (.inr rfl) H (.tmp (v := (vi y1.1)) rfl (.tmp (v := (vb y1.2)) rfl .nil)) (.two (.cons (.c (.v _)) (.cons (.c (.v _)) .nil))))

theorem Z29 {f : Form} {t : Int} {r : Int × Bool} (h : Z3 f t = some r) : Fn CX 63 [(.agg (vs (Form.cs f))), (vi t), (.agg [(vi 1), (.v (.fn 31)), (.v (.fn 64)), (.v (.fn 65))])] (.tup [(vi r.1), (vb r.2)]) := by
 refine Fn.ends Try.func63 rfl rfl rfl rfl rfl rfl ?_
 have H : Hs (⟨0, fun _ => .none⟩ : Heap) [] := Has.nil (Nat.le_refl _)
 generalize (⟨0, fun _ => .none⟩ : Heap) = σ at H ⊢
 unfold Z3 at h
 refine .then (.Z0 4 rfl H fun b1 σ H => (.boxH (cs := (vF f)) H (by omega) (by omega) rfl rfl rfl fun σ H => (.boxH (cs := [(vi 1), (.v (.fn 31)), (.v (.fn 64)), (.v (.fn 65))]) H (by omega) (by omega) rfl rfl rfl fun σ H => (.assign (v := (vi 0)) rfl rfl (.assign (v := (vb false)) rfl rfl ?_)))))
 refine .nila H fun H => (.then (.Z0 9 rfl H fun b2 σ H => (.Z2 (off := 0) (fo := 0) H 1 rfl rfl rfl rfl rfl nofun rfl (.ZQ (off := 0) (v := (vi f.Period)) H 1 rfl rfl rfl rfl rfl nofun rfl (.Z2 (off := 0) (fo := 1) H 1 rfl rfl rfl rfl rfl nofun rfl ?_)))))
 refine .ZQ (off := 1) (v := (vi f.Count)) H 1 rfl rfl rfl rfl rfl nofun rfl (.Z2 (off := 0) (fo := 2) H 1 rfl rfl rfl rfl rfl nofun rfl (.ZQ (off := 2) (v := (vl (cL Span.cs) f.Core)) H 1 rfl rfl rfl rfl rfl nofun rfl (.Z4r (cs := [(vi f.Period), (vi f.Count), (vl (cL Span.cs) f.Core), .nils]) rfl rfl (.Z0t (cs := [(vi 0), (vi 0), .nils, .nils]) H (by omega) (by omega) rfl rfl fun σ H => (.Z0U (off := 0) (cells' := [(vi f.Period), (vi f.Count), (vl (cL Span.cs) f.Core), .nils]) H 0 rfl rfl rfl rfl rfl rfl rfl rfl rfl nofun fun σ H => ?_)))))
 refine .nila H fun H => (.then (.Z0 9 rfl H fun b3 σ H => (.ZX (off := 0) (cs := (vF f)) H 2 rfl rfl rfl rfl rfl rfl rfl nofun rfl (.move (v := (vi t)) rfl rfl (.ZX (off := 0) (cs := [(vi 1), (.v (.fn 31)), (.v (.fn 64)), (.v (.fn 65))]) H 1 rfl rfl rfl rfl rfl rfl rfl nofun rfl ?_)))))
 obtain ⟨x1, q1, h⟩ := bind_some h
 refine .call (ys := [(.agg (vF f)), (vi t), (.agg [(vi 1), (.v (.fn 31)), (.v (.fn 64)), (.v (.fn 65))])]) (r := (.tup [(vi x1.1), (vb x1.2)])) rfl (Z2A q1) rfl (.move (v := (.tup [(vi x1.1), (vb x1.2)])) rfl rfl (.extract (v := (vi x1.1)) rfl rfl rfl (.extract (v := (vb x1.2)) rfl rfl rfl (.assign (v := (vi x1.1)) rfl rfl (.assign (v := (vb x1.2)) rfl rfl ?_)))))
 refine .nila H fun H => (.then (.then (.Z0 2 rfl H fun b4 σ H => (.move (v := (vb x1.2)) rfl rfl (.not (b := x1.2) rfl rfl ?_)))))
 refine .nila H fun H => ?_
 refine .whether (v := (!x1.2)) rfl ?_ ?_ <;> intro hc1
 ·replace h := Z6 hc1 h
  refine .then (.Z0 2 rfl H fun b5 σ H => (.assign (v := (vi 0)) rfl rfl (.assign (v := (vb false)) rfl rfl (.nila H fun H => (.ret ?_)))))
  replace h := sj h; subst h
  exact (Ends.H (xs := [(vi 0), (vb false)]) (.inr rfl) H (.tmp (v := (vi 0)) rfl (.tmp (v := (vb false)) rfl .nil)) (.two (.cons (.c (.v _)) (.cons (.c (.v _)) .nil))))
 ·replace h := Z7 hc1 h
  refine .skip (.then (.Z0 2 rfl H fun b6 σ H => (.makeMapH H (by omega) (by omega) rfl rfl fun σ H => (.assign (v := (.mp (b6 + 0))) rfl rfl (.nila H fun H => ?_)))))
  refine .then (.then (.Z0 4 rfl H fun b7 σ H => (.Z2 (off := 0) (fo := 3) H 3 rfl rfl rfl rfl rfl nofun rfl (.ZQ (off := 3) (v := (vl Granule.cs f.Odd)) H 3 rfl rfl rfl rfl rfl nofun rfl (.Z0B (c := Granule.cs) (xs := f.Odd) rfl rfl rfl ?_)))))
  refine .move (v := (vi 0)) rfl rfl (.nila H fun H => (.inBlock ?_))
  obtain ⟨y1, hj1, h⟩ := bind_some h
  obtain ⟨n1, hj1⟩ := Zc.1 hj1
  refine .mono (Runs.ZJ hj1 (fun s1 e σ => Z4 e [(5, (.ptr (b1 + 1) 4 0)), (8, (.ptr (b2 + 7) 4 0)), (9, (vi x1.1)), (11, (.mp (b6 + 0))), (35, (vl Granule.cs f.Odd)), (36, (vi (f.Odd.length : Int))), (37, (vi s1.1))] ∧ Hs σ [.mp (b6 + 0) s1.2, .blk (b2 + 7) 25 [(vi f.Period), (vi f.Count), (vl (cL Span.cs) f.Core), .nils], .blk (b1 + 1) 87 [(vi 1), (.v (.fn 31)), (.v (.fn 64)), (.v (.fn 65))]]) (fun y1 x e σ => x = .exit 0 ∧ Z4 e [(5, (.ptr (b1 + 1) 4 0)), (8, (.ptr (b2 + 7) 4 0)), (9, (vi x1.1)), (11, (.mp (b6 + 0)))] ∧ Hs σ [.mp (b6 + 0) y1, .blk (b2 + 7) 25 [(vi f.Period), (vi f.Count), (vl (cL Span.cs) f.Core), .nils], .blk (b1 + 1) 87 [(vi 1), (.v (.fn 31)), (.v (.fn 64)), (.v (.fn 65))]]) ⟨⟨rfl, rfl, rfl, rfl, rfl, rfl, rfl, trivial⟩, (H.erase 3)⟩ ?_) ?_
  ·intro s1 e σ hI z h
   obtain ⟨he, H⟩ := hI
   obtain ⟨e, rfl⟩ := he.ex
   unfold Z3.s0 at h
   refine .then (.Z0 1 rfl H fun b8 σ H => (.int (m := s1.1) (m' := (f.Odd.length : Int)) (r := .bool (decide (s1.1 < (f.Odd.length : Int)))) rfl rfl rfl rfl rfl (.nila H fun H => (.then ?_))))
   refine .whether (v := (decide (s1.1 < (f.Odd.length : Int)))) rfl ?_ ?_ <;> intro hc2
   ·replace h := Z6 hc2 h
    refine .skip (.then (.inBlock (.then (.Z0 4 rfl H fun b9 σ H => ?_))))
    obtain ⟨x2, q2, h⟩ := bind_some h
    refine .Z0C (c := Granule.cs) (u := x2) rfl rfl q2 rfl rfl rfl rfl (.Z2F (cs := [(.int .i64 x2.Index), (.sl (x2.Ticks.map Span.cs))]) rfl rfl rfl rfl rfl rfl (.Z0t (cs := [(vi 0), .nils]) H (by omega) (by omega) rfl rfl fun σ H => (.Z0U (off := 0) (cells' := [(vi x2.Index), (vl Span.cs x2.Ticks)]) H 0 rfl rfl rfl rfl rfl rfl rfl rfl rfl nofun fun σ H => (.nila H fun H => (.Z0 6 rfl H fun b10 σ H => ?_)))))
    refine .move (v := (.mp (b6 + 0))) rfl rfl (.Z2 (off := 0) (fo := 0) H 0 rfl rfl rfl rfl rfl nofun rfl (.ZQ (off := 0) (v := (vi x2.Index)) H 0 rfl rfl rfl rfl rfl nofun rfl (.lookupH (a := x2.Index) H 1 rfl rfl rfl rfl rfl (.int (m := (mget s1.2 x2.Index)) (m' := 1) (r := .int .i64 (w64 ((mget s1.2 x2.Index) + 1))) rfl rfl rfl rfl rfl (.mapUpdateH (a := x2.Index) (b := (w64 ((mget s1.2 x2.Index) + 1))) H 1 rfl rfl rfl rfl rfl fun σ H => ?_)))))
    refine .nila H fun H => (.Z0 2 rfl H fun b11 σ H => (.int (m := s1.1) (m' := 1) (r := .int .i64 (w64 (s1.1 + 1))) rfl rfl rfl rfl rfl (.move (v := (vi (w64 (s1.1 + 1)))) rfl rfl (.nila H fun H => ?_))))
    replace h := sj h; subst h
    exact ⟨rfl, ⟨rfl, rfl, rfl, rfl, rfl, rfl, rfl, trivial⟩, (H.erase 0)⟩
   ·replace h := Z7 hc2 h
    refine .exit ?_
    replace h := sj h; subst h
    exact ⟨nofun, ⟨rfl, ⟨rfl, rfl, rfl, rfl, trivial⟩, H⟩⟩
  ·rintro x e σ ⟨rfl, he, H⟩
   obtain ⟨e, rfl⟩ := he.ex
   refine .then (.Z0 1 rfl H fun b12 σ H => (.assign (v := (vi 0)) rfl rfl (.nila H fun H => (.then (.then ?_)))))
   refine .Z0 13 rfl H fun b13 σ H => (.Z2 (off := 0) (fo := 1) H 2 rfl rfl rfl rfl rfl nofun rfl (.ZQ (off := 1) (v := (.v (.fn 31))) H 2 rfl rfl rfl rfl rfl nofun rfl (.ZX (off := 0) (cs := [(vi f.Period), (vi f.Count), (vl (cL Span.cs) f.Core), .nils]) H 1 rfl rfl rfl rfl rfl rfl rfl nofun rfl (.move (v := (vi x1.1)) rfl rfl (.Z2 (off := 0) (fo := 0) H 2 rfl rfl rfl rfl rfl nofun rfl ?_)))))
   refine .ZQ (off := 0) (v := (vi 1)) H 2 rfl rfl rfl rfl rfl nofun rfl (.int (m := x1.1) (m' := 1) (r := .int .i64 (w64 (x1.1 - 1))) rfl rfl rfl rfl rfl ?_)
   obtain ⟨x3, q3, h⟩ := bind_some h
   refine .callFX (xs := [(.agg [(vi f.Period), (vi f.Count), (vl (cL Span.cs) f.Core), .nils]), (vi (w64 (x1.1 - 1)))]) (ys := [(.agg (vs (Form.cs (Form.mk f.Period f.Count f.Core [])))), (vi (w64 (x1.1 - 1)))]) H rfl rfl (.cons (.a (.cons (.v _) (.cons (.v _) (.cons (.v _) (.cons (.n) .nil))))) (.cons (.c (.v _)) .nil)) (Z4N q3) rfl rfl nofun rfl fun σ H => (.move (v := (.tup [(vi x3.1), (vb x3.2)])) rfl rfl (.extract (v := (vi x3.1)) rfl rfl rfl (.extract (v := (vb x3.2)) rfl rfl rfl (.assign (v := (vi x3.1)) rfl rfl (.assign (v := (vb x3.2)) rfl rfl ?_)))))
   refine .nila H fun H => (.inBlock ?_)
   obtain ⟨y2, hj2, h⟩ := bind_some h
   obtain ⟨n2, hj2⟩ := Zc.1 hj2
   refine .mono (Runs.ZJ hj2 (fun s2 e σ => Z4 e [(5, (.ptr (b1 + 1) 4 0)), (8, (.ptr (b2 + 7) 4 0)), (9, (vi s2.1)), (10, (vb s2.2.1)), (11, (.mp (b6 + 0))), (14, (vi s2.2.2))] ∧ Hs σ [.mp (b6 + 0) y1, .blk (b2 + 7) 25 [(vi f.Period), (vi f.Count), (vl (cL Span.cs) f.Core), .nils], .blk (b1 + 1) 87 [(vi 1), (.v (.fn 31)), (.v (.fn 64)), (.v (.fn 65))]]) (fun y2 x e σ => (∃ a1, y2 = (.go a1) ∧ x = .exit 2 ∧ Z4 e [] ∧ Hs σ []) ∨ (∃ r', y2 = (.ret r') ∧ x = .ret ∧ Ends CX Try.f63.results.toList (.tup [(vi r'.1), (vb r'.2)]) x e σ)) ⟨⟨rfl, rfl, rfl, rfl, rfl, rfl, trivial⟩, H⟩ ?_) ?_
   ·intro s2 e σ hI z h
    obtain ⟨he, H⟩ := hI
    obtain ⟨e, rfl⟩ := he.ex
    unfold Z3.s1 at h
    refine .then (.then (.Z0 5 rfl H fun b14 σ H => (.move (v := (vb s2.2.1)) rfl rfl (.move (v := (vb s2.2.1)) rfl rfl ?_))))
    refine .mid 3 (K1 := fun e σ => Z4 e [(62, (vb (s2.2.1 && (decide (s2.2.2 < 2))))), (5, (.ptr (b1 + 1) 4 0)), (8, (.ptr (b2 + 7) 4 0)), (9, (vi s2.1)), (11, (.mp (b6 + 0))), (14, (vi s2.2.2))] ∧ Has σ (b14 + 5) (b14 + 5) [.mp (b6 + 0) y1, .blk (b2 + 7) 25 [(vi f.Period), (vi f.Count), (vl (cL Span.cs) f.Core), .nils], .blk (b1 + 1) 87 [(vi 1), (.v (.fn 31)), (.v (.fn 64)), (.v (.fn 65))]]) rfl ?_ ?_
    ·refine .split rfl rfl ?_ ?_ <;> intro hc3
     ·skip
      refine .wanted rfl rfl (.move (v := (vi s2.2.2)) rfl rfl (.wanted rfl rfl (.int (m := s2.2.2) (m' := 2) (r := .bool (decide (s2.2.2 < 2))) rfl rfl rfl rfl rfl (.Ze (v := (vb (decide (s2.2.2 < 2)))) rfl rfl rfl (.nil ?_)))))
      exact ⟨⟨Z1D hc3, rfl, rfl, rfl, rfl, rfl, trivial⟩, H.weak (by omega) (Nat.le_refl _)⟩
     ·skip
      refine .pass rfl rfl rfl (.pass rfl rfl rfl (.Zg (v := (vb false)) rfl rfl rfl (.nil ?_)))
      exact ⟨⟨Z1E hc3, rfl, rfl, rfl, rfl, rfl, trivial⟩, H.weak (by omega) (Nat.le_refl _)⟩
    ·rintro e σ ⟨he, H⟩
     obtain ⟨e, rfl⟩ := he.ex
     refine .nila H fun H => ?_
     refine .whether (v := (s2.2.1 && (decide (s2.2.2 < 2)))) rfl ?_ ?_ <;> intro hc4
     ·replace h := Z6 hc4 h
      refine .skip (.then ?_)
      obtain ⟨y3, hj3, h⟩ := bind_some h
      refine .mono (Q := fun x e σ => (∃ a2, y3 = (.go a2) ∧ x = .normal ∧ Z4 e [(5, (.ptr (b1 + 1) 4 0)), (8, (.ptr (b2 + 7) 4 0)), (9, (vi s2.1)), (11, (.mp (b6 + 0))), (14, (vi a2))] ∧ Hs σ [.mp (b6 + 0) y1, .blk (b2 + 7) 25 [(vi f.Period), (vi f.Count), (vl (cL Span.cs) f.Core), .nils], .blk (b1 + 1) 87 [(vi 1), (.v (.fn 31)), (.v (.fn 64)), (.v (.fn 65))]]) ∨ (∃ r', y3 = (.ret r') ∧ x = .ret ∧ Ends CX Try.f63.results.toList (.tup [(vi r'.1), (vb r'.2)]) x e σ)) ?_ ?_
      ·replace h := hj3
       refine .inBlock ?_
       obtain ⟨y4, hj4, h⟩ := bind_some h
       refine .mono (Q := fun x e σ => (∃ a3, y4 = (.go a3) ∧ x = .normal ∧ Z4 e [(5, (.ptr (b1 + 1) 4 0)), (8, (.ptr (b2 + 7) 4 0)), (9, (vi s2.1)), (11, (.mp (b6 + 0))), (14, (vi a3))] ∧ Hs σ [.mp (b6 + 0) y1, .blk (b2 + 7) 25 [(vi f.Period), (vi f.Count), (vl (cL Span.cs) f.Core), .nils], .blk (b1 + 1) 87 [(vi 1), (.v (.fn 31)), (.v (.fn 64)), (.v (.fn 65))]]) ∨ (∃ r', y4 = (.ret r') ∧ x = .ret ∧ Ends CX Try.f63.results.toList (.tup [(vi r'.1), (vb r'.2)]) x e σ)) ?_ ?_
       ·replace h := hj4
        refine .then (.Z0 8 rfl H fun b15 σ H => (.ZX (off := 0) (cs := [(vi f.Period), (vi f.Count), (vl (cL Span.cs) f.Core), .nils]) H 1 rfl rfl rfl rfl rfl rfl rfl nofun rfl (.move (v := (vi s2.1)) rfl rfl ?_)))
        obtain ⟨x4, q4, h⟩ := bind_some h
        refine .Z6W (xs := [(.agg [(vi f.Period), (vi f.Count), (vl (cL Span.cs) f.Core), .nils]), (vi s2.1)]) (ys := [(.agg (vs (Form.cs (Form.mk f.Period f.Count f.Core [])))), (vi s2.1)]) H rfl (.cons (.a (.cons (.v _) (.cons (.v _) (.cons (.v _) (.cons (.n) .nil))))) (.cons (.c (.v _)) .nil)) (Z3l q4) rfl rfl nofun rfl fun σ H => (.move (v := (.tup [(vl Span.cs x4.1), (vi x4.2)])) rfl rfl (.extract (v := (vl Span.cs x4.1)) rfl rfl rfl (.extract (v := (vi x4.2)) rfl rfl rfl (.assign (v := (vl Span.cs x4.1)) rfl rfl (.assign (v := (vi x4.2)) rfl rfl ?_)))))
        refine .nila H fun H => (.then (.Z0 2 rfl H fun b16 σ H => (.move (v := (vi x4.2)) rfl rfl (.int (m := x4.2) (m' := 0) (r := .bool (x4.2 != 0)) rfl rfl rfl rfl rfl (.nila H fun H => ?_)))))
        refine .whether (v := (x4.2 != 0)) rfl ?_ ?_ <;> intro hc5
        ·replace h := Z6 hc5 h
         refine .Z0 3 rfl H fun b17 σ H => (.move (v := (vi s2.2.2)) rfl rfl (.int (m := s2.2.2) (m' := 1) (r := .int .i64 (w64 (s2.2.2 + 1))) rfl rfl rfl rfl rfl (.assign (v := (vi (w64 (s2.2.2 + 1)))) rfl rfl (.nila H fun H => ?_))))
         replace h := sj h; subst h
         exact (.inl ⟨_, rfl, rfl, ⟨rfl, rfl, rfl, rfl, rfl, trivial⟩, H⟩)
        ·replace h := Z7 hc5 h
         refine .then (.Z0 4 rfl H fun b18 σ H => (.move (v := (.mp (b6 + 0))) rfl rfl (.move (v := (vi s2.1)) rfl rfl (.lookupH (a := s2.1) H 0 rfl rfl rfl rfl rfl (.int (m := (mget y1 s2.1)) (m' := 0) (r := .bool ((mget y1 s2.1) == 0)) rfl rfl rfl rfl rfl ?_)))))
         refine .nila H fun H => ?_
         refine .whether (v := ((mget y1 s2.1) == 0)) rfl ?_ ?_ <;> intro hc6
         ·replace h := Z6 hc6 h
          refine .then (.Z0 3 rfl H fun b19 σ H => (.move (v := (vi s2.1)) rfl rfl (.assign (v := (vi s2.1)) rfl rfl (.assign (v := (vb true)) rfl rfl (.nila H fun H => ?_)))))
          refine .ret ?_
          replace h := sj h; subst h
          exact (.inr ⟨_, rfl, rfl, (Ends.H (xs := [(vi s2.1), (vb true)]) (.inr rfl) H (.tmp (v := (vi s2.1)) rfl (.tmp (v := (vb true)) rfl .nil)) (.two (.cons (.c (.v _)) (.cons (.c (.v _)) .nil))))⟩)
         ·replace h := Z7 hc6 h
          refine .skip ?_
          replace h := sj h; subst h
          exact (.inl ⟨_, rfl, rfl, ⟨rfl, rfl, rfl, rfl, rfl, trivial⟩, H⟩)
       ·rintro x e σ (⟨a4, rfl, rfl, he, H⟩ | ⟨r', rfl, rfl, hE⟩)
        ·skip
         replace h := jgo h
         obtain ⟨e, rfl⟩ := he.ex
         replace h := sj h; subst h
         exact (.inl ⟨_, rfl, rfl, ⟨rfl, rfl, rfl, rfl, rfl, trivial⟩, H⟩)
        ·skip
         replace h := jret h
         replace h := sj h; subst h
         exact (.inr ⟨_, rfl, rfl, hE⟩)
      ·rintro x e σ (⟨a5, rfl, rfl, he, H⟩ | ⟨r', rfl, rfl, hE⟩)
       ·skip
        replace h := jgo h
        obtain ⟨e, rfl⟩ := he.ex
        refine .Z0 10 rfl H fun b20 σ H => (.Z2 (off := 0) (fo := 1) H 2 rfl rfl rfl rfl rfl nofun rfl (.ZQ (off := 1) (v := (.v (.fn 31))) H 2 rfl rfl rfl rfl rfl nofun rfl (.ZX (off := 0) (cs := [(vi f.Period), (vi f.Count), (vl (cL Span.cs) f.Core), .nils]) H 1 rfl rfl rfl rfl rfl rfl rfl nofun rfl (.move (v := (vi s2.1)) rfl rfl ?_))))
        obtain ⟨x5, q5, h⟩ := bind_some h
        refine .callFX (xs := [(.agg [(vi f.Period), (vi f.Count), (vl (cL Span.cs) f.Core), .nils]), (vi s2.1)]) (ys := [(.agg (vs (Form.cs (Form.mk f.Period f.Count f.Core [])))), (vi s2.1)]) H rfl rfl (.cons (.a (.cons (.v _) (.cons (.v _) (.cons (.v _) (.cons (.n) .nil))))) (.cons (.c (.v _)) .nil)) (Z4N q5) rfl rfl nofun rfl fun σ H => (.move (v := (.tup [(vi x5.1), (vb x5.2)])) rfl rfl (.extract (v := (vi x5.1)) rfl rfl rfl (.extract (v := (vb x5.2)) rfl rfl rfl (.assign (v := (vi x5.1)) rfl rfl (.assign (v := (vb x5.2)) rfl rfl ?_)))))
        refine .nila H fun H => ?_
        replace h := sj h; subst h
        exact ⟨rfl, ⟨rfl, rfl, rfl, rfl, rfl, rfl, trivial⟩, H⟩
       ·skip
        replace h := jret h
        replace h := sj h; subst h
        exact ⟨nofun, (.inr ⟨_, rfl, rfl, hE⟩)⟩
     ·replace h := Z7 hc4 h
      refine .exit ?_
      replace h := sj h; subst h
      exact ⟨nofun, (.inl ⟨_, rfl, rfl, trivial, (((H.erase 2).erase 1).erase 0)⟩)⟩
   ·rintro x e σ (⟨a6, rfl, rfl, he, H⟩ | ⟨r', rfl, rfl, hE⟩)
    ·skip
     replace h := jgo h
     obtain ⟨e, rfl⟩ := he.ex
     refine .then (.Z0 2 rfl H fun b21 σ H => (.assign (v := (vi 0)) rfl rfl (.assign (v := (vb false)) rfl rfl (.nila H fun H => (.ret ?_)))))
     replace h := sj h; subst h
     exact (Ends.H (xs := [(vi 0), (vb false)]) (.inr rfl) H (.tmp (v := (vi 0)) rfl (.tmp (v := (vb false)) rfl .nil)) (.two (.cons (.c (.v _)) (.cons (.c (.v _)) .nil))))
    ·skip
     replace h := jret h
     replace h := sj h; subst h
     exact hE

theorem find_up_2_fn {h' : Span} {t : Int} {r : Bool} (h : Z22 h' t = r) : Fn CX 65 [(.agg (vs (Span.cs h'))), (vi t)] (vb r) := by
 refine Fn.ends Try.func65 rfl rfl rfl rfl rfl rfl ?_
 have H : Hs (⟨0, fun _ => .none⟩ : Heap) [] := Has.nil (Nat.le_refl _)
 generalize (⟨0, fun _ => .none⟩ : Heap) = σ at H ⊢
 unfold Z22 at h
 refine .then (.Z0 2 rfl H fun b1 σ H => (.boxH (cs := [(vi h'.From), (vi h'.To)]) H (by omega) (by omega) rfl rfl rfl fun σ H => (.assign (v := (vb false)) rfl rfl (.nila H fun H => (.then ?_)))))
 refine .Z0 5 rfl H fun b2 σ H => (.Z2 (off := 0) (fo := 1) H 0 rfl rfl rfl rfl rfl nofun rfl (.ZQ (off := 1) (v := (vi h'.To)) H 0 rfl rfl rfl rfl rfl nofun rfl (.move (v := (vi t)) rfl rfl (.int (m := h'.To) (m' := t) (r := .bool (decide (h'.To ≥ t))) rfl rfl rfl rfl rfl (.assign (v := (vb (decide (h'.To ≥ t)))) rfl rfl ?_)))))
 refine .nila H fun H => (.ret ?_)
 subst h
 exact (Ends.H (xs := [(vb (decide (h'.To ≥ t)))]) (.inr rfl) H (.tmp (v := (vb (decide (h'.To ≥ t)))) rfl .nil) (.one (.c (.v _))))

end Go.Dn

namespace Go.Dn
open Go Go.Proofs
set_option maxRecDepth 100000
set_option maxHeartbeats 4000000

theorem Z1y {f : Form} {t : Int} {r : Int × Bool} (h : Z8 f t = some r) : Fn CX 52 [(.agg (vs (Form.cs f))), (vi t), (.agg [(vi 1), (.v (.fn 31)), (.v (.fn 64)), (.v (.fn 65))])] (.tup [(vi r.1), (vb r.2)]) := by
 refine Fn.ends Try.func52 rfl rfl rfl rfl rfl rfl ?_
 have H : Hs (⟨0, fun _ => .none⟩ : Heap) [] := Has.nil (Nat.le_refl _)
 generalize (⟨0, fun _ => .none⟩ : Heap) = σ at H ⊢
 unfold Z8 at h
 refine .then (.Z0 4 rfl H fun b1 σ H => (.boxH (cs := (vF f)) H (by omega) (by omega) rfl rfl rfl fun σ H => (.boxH (cs := [(vi 1), (.v (.fn 31)), (.v (.fn 64)), (.v (.fn 65))]) H (by omega) (by omega) rfl rfl rfl fun σ H => (.assign (v := (vi 0)) rfl rfl (.assign (v := (vb false)) rfl rfl ?_)))))
 refine .nila H fun H => (.then (.Z0 4 rfl H fun b2 σ H => (.move (v := (vi t)) rfl rfl (.min2 rfl rfl rfl (.max2 rfl rfl rfl ?_)))))
 refine .assign (v := (vi (iMax (iMin t 1099511627777) (-1099511627777)))) rfl rfl (.nila H fun H => (.then (.Z0 9 rfl H fun b3 σ H => (.ZX (off := 0) (cs := (vF f)) H 1 rfl rfl rfl rfl rfl rfl rfl nofun rfl (.move (v := (vi (iMax (iMin t 1099511627777) (-1099511627777)))) rfl rfl ?_)))))
 refine .ZX (off := 0) (cs := [(vi 1), (.v (.fn 31)), (.v (.fn 64)), (.v (.fn 65))]) H 0 rfl rfl rfl rfl rfl rfl rfl nofun rfl ?_
 obtain ⟨x1, q1, h⟩ := bind_some h
 refine .call (ys := [(.agg (vF f)), (vi (iMax (iMin t 1099511627777) (-1099511627777))), (.agg [(vi 1), (.v (.fn 31)), (.v (.fn 64)), (.v (.fn 65))])]) (r := (.tup [(vi x1.1), (vb x1.2)])) rfl (Z29 q1) rfl (.move (v := (.tup [(vi x1.1), (vb x1.2)])) rfl rfl (.extract (v := (vi x1.1)) rfl rfl rfl (.extract (v := (vb x1.2)) rfl rfl rfl (.assign (v := (vi x1.1)) rfl rfl (.assign (v := (vb x1.2)) rfl rfl ?_)))))
 refine .nila H fun H => (.then (.then (.Z0 4 rfl H fun b4 σ H => (.Z2 (off := 0) (fo := 3) H 1 rfl rfl rfl rfl rfl nofun rfl (.ZQ (off := 3) (v := (vl Granule.cs f.Odd)) H 1 rfl rfl rfl rfl rfl nofun rfl ?_)))))
 refine .Z0B (c := Granule.cs) (xs := f.Odd) rfl rfl rfl (.move (v := (vi 0)) rfl rfl (.nila H fun H => (.inBlock ?_)))
 obtain ⟨y1, hj1, h⟩ := bind_some h
 obtain ⟨n1, hj1⟩ := Zc.1 hj1
 refine .mono (Runs.ZJ hj1 (fun s1 e σ => Z4 e [(1, (vi (iMax (iMin t 1099511627777) (-1099511627777)))), (5, (.ptr (b1 + 1) 4 0)), (8, (vi s1.1)), (9, (vb s1.2.1)), (25, (vl Granule.cs f.Odd)), (26, (vi (f.Odd.length : Int))), (27, (vi s1.2.2))] ∧ Hs σ [.blk (b1 + 1) 87 [(vi 1), (.v (.fn 31)), (.v (.fn 64)), (.v (.fn 65))]]) (fun y1 x e σ => x = .exit 0 ∧ Z4 e [(8, (vi y1.1)), (9, (vb y1.2))] ∧ Hs σ []) ⟨⟨rfl, rfl, rfl, rfl, rfl, rfl, rfl, trivial⟩, (H.erase 1)⟩ ?_) ?_
 ·intro s1 e σ hI z h
  obtain ⟨he, H⟩ := hI
  obtain ⟨e, rfl⟩ := he.ex
  unfold Z8.s0 at h
  refine .then (.Z0 1 rfl H fun b5 σ H => (.int (m := s1.2.2) (m' := (f.Odd.length : Int)) (r := .bool (decide (s1.2.2 < (f.Odd.length : Int)))) rfl rfl rfl rfl rfl (.nila H fun H => (.then ?_))))
  refine .whether (v := (decide (s1.2.2 < (f.Odd.length : Int)))) rfl ?_ ?_ <;> intro hc1
  ·replace h := Z6 hc1 h
   refine .skip (.then ?_)
   obtain ⟨y2, hj2, h⟩ := bind_some h
   refine .mono (Q := fun x e σ => x = .normal ∧ Z4 e [(1, (vi (iMax (iMin t 1099511627777) (-1099511627777)))), (5, (.ptr (b1 + 1) 4 0)), (8, (vi y2.1)), (9, (vb y2.2)), (25, (vl Granule.cs f.Odd)), (26, (vi (f.Odd.length : Int))), (27, (vi s1.2.2))] ∧ Hs σ [.blk (b1 + 1) 87 [(vi 1), (.v (.fn 31)), (.v (.fn 64)), (.v (.fn 65))]]) ?_ ?_
   ·replace h := hj2
    refine .inBlock ?_
    obtain ⟨y3, hj3, h⟩ := bind_some h
    refine .mono (Q := fun x e σ => x = .normal ∧ Z4 e [(1, (vi (iMax (iMin t 1099511627777) (-1099511627777)))), (5, (.ptr (b1 + 1) 4 0)), (8, (vi y3.1)), (9, (vb y3.2)), (25, (vl Granule.cs f.Odd)), (26, (vi (f.Odd.length : Int))), (27, (vi s1.2.2))] ∧ Hs σ [.blk (b1 + 1) 87 [(vi 1), (.v (.fn 31)), (.v (.fn 64)), (.v (.fn 65))]]) ?_ ?_
    ·replace h := hj3
     refine .then (.Z0 4 rfl H fun b6 σ H => ?_)
     obtain ⟨x2, q2, h⟩ := bind_some h
     refine .Z0C (c := Granule.cs) (u := x2) rfl rfl q2 rfl rfl rfl rfl (.Z2F (cs := [(.int .i64 x2.Index), (.sl (x2.Ticks.map Span.cs))]) rfl rfl rfl rfl rfl rfl (.Z0t (cs := [(vi 0), .nils]) H (by omega) (by omega) rfl rfl fun σ H => (.Z0U (off := 0) (cells' := [(vi x2.Index), (vl Span.cs x2.Ticks)]) H 0 rfl rfl rfl rfl rfl rfl rfl rfl rfl nofun fun σ H => (.nila H fun H => (.then ?_)))))
     refine .Z0 9 rfl H fun b7 σ H => (.Z2 (off := 0) (fo := 1) H 0 rfl rfl rfl rfl rfl nofun rfl (.ZQ (off := 1) (v := (vl Span.cs x2.Ticks)) H 0 rfl rfl rfl rfl rfl nofun rfl ?_))
     obtain ⟨x3, q3, h⟩ := bind_some h
     refine .call (ys := [(vl Span.cs x2.Ticks)]) (r := (.tup [(.agg [(vi x3.1.From), (vi x3.1.To)]), (vb x3.2)])) rfl (Z4q q3) rfl (.move (v := (.tup [(.agg [(vi x3.1.From), (vi x3.1.To)]), (vb x3.2)])) rfl rfl (.extract (v := (.agg [(vi x3.1.From), (vi x3.1.To)])) rfl rfl rfl (.extract (v := (vb x3.2)) rfl rfl rfl (.Z0t (cs := [(vi 0), (vi 0)]) H (by omega) (by omega) rfl rfl fun σ H => (.Z0U (off := 0) (cells' := [(vi x3.1.From), (vi x3.1.To)]) H 0 rfl rfl rfl rfl rfl rfl rfl rfl rfl nofun fun σ H => ?_)))))
     refine .assign (v := (vb x3.2)) rfl rfl (.nila H fun H => (.then (.Z0 22 rfl H fun b8 σ H => (.move (v := (vb x3.2)) rfl rfl (.move (v := (vb x3.2)) rfl rfl ?_)))))
     refine .mid 6 (K1 := fun e σ => Z4 e [(44, (vb (x3.2 && (Z22 x3.1 (iMax (iMin t 1099511627777) (-1099511627777)))))), (1, (vi (iMax (iMin t 1099511627777) (-1099511627777)))), (5, (.ptr (b1 + 1) 4 0)), (8, (vi s1.1)), (9, (vb s1.2.1)), (11, (.ptr (b6 + 2) 2 0)), (25, (vl Granule.cs f.Odd)), (26, (vi (f.Odd.length : Int))), (27, (vi s1.2.2))] ∧ Has σ (b8 + 8) (b8 + 22) [.blk (b6 + 2) 54 [(vi x2.Index), (vl Span.cs x2.Ticks)], .blk (b1 + 1) 87 [(vi 1), (.v (.fn 31)), (.v (.fn 64)), (.v (.fn 65))]]) rfl ?_ ?_
     ·refine .split rfl rfl ?_ ?_ <;> intro hc2
      ·skip
       refine .wanted rfl rfl (.Z2 (off := 0) (fo := 3) H 2 rfl rfl rfl rfl rfl nofun rfl (.wanted rfl rfl (.ZQ (off := 3) (v := (.v (.fn 65))) H 2 rfl rfl rfl rfl rfl nofun rfl (.wanted rfl rfl (.ZX (off := 0) (cs := [(vi x3.1.From), (vi x3.1.To)]) H 0 rfl rfl rfl rfl rfl rfl rfl nofun rfl ?_)))))
       refine .wanted rfl rfl (.move (v := (vi (iMax (iMin t 1099511627777) (-1099511627777)))) rfl rfl (.wanted rfl rfl (.callF (ys := [(.agg [(vi x3.1.From), (vi x3.1.To)]), (vi (iMax (iMin t 1099511627777) (-1099511627777)))]) (r := (vb (Z22 x3.1 (iMax (iMin t 1099511627777) (-1099511627777))))) rfl rfl (find_up_2_fn (rfl : Z22 x3.1 (iMax (iMin t 1099511627777) (-1099511627777)) = _)) rfl (.Ze (v := (vb (Z22 x3.1 (iMax (iMin t 1099511627777) (-1099511627777))))) rfl rfl rfl (.nil ?_)))))
       exact ⟨⟨Z1D hc2, rfl, rfl, rfl, rfl, rfl, rfl, rfl, rfl, trivial⟩, (H.erase 0).weak (by omega) (Nat.le_refl _)⟩
      ·skip
       refine .pass rfl rfl rfl (.pass rfl rfl rfl (.pass rfl rfl rfl (.pass rfl rfl rfl (.pass rfl rfl rfl (.Zg (v := (vb false)) rfl rfl rfl ?_)))))
       refine .nil ?_
       exact ⟨⟨Z1E hc2, rfl, rfl, rfl, rfl, rfl, rfl, rfl, rfl, trivial⟩, (H.erase 0).weak (by omega) (Nat.le_refl _)⟩
     ·rintro e σ ⟨he, H⟩
      obtain ⟨e, rfl⟩ := he.ex
      refine .move (v := (vb (x3.2 && (Z22 x3.1 (iMax (iMin t 1099511627777) (-1099511627777)))))) rfl rfl ?_
      refine .mid 13 (K1 := fun e σ => Z4 e [(58, (vb ((x3.2 && (Z22 x3.1 (iMax (iMin t 1099511627777) (-1099511627777)))) && ((!s1.2.1) || (decide ((w64 ((w64 (x2.Index - s1.1)) * 1)) < 0)))))), (1, (vi (iMax (iMin t 1099511627777) (-1099511627777)))), (5, (.ptr (b1 + 1) 4 0)), (8, (vi s1.1)), (9, (vb s1.2.1)), (11, (.ptr (b6 + 2) 2 0)), (25, (vl Granule.cs f.Odd)), (26, (vi (f.Odd.length : Int))), (27, (vi s1.2.2))] ∧ Has σ (b8 + 22) (b8 + 22) [.blk (b6 + 2) 54 [(vi x2.Index), (vl Span.cs x2.Ticks)], .blk (b1 + 1) 87 [(vi 1), (.v (.fn 31)), (.v (.fn 64)), (.v (.fn 65))]]) rfl ?_ ?_
      ·refine .split rfl rfl ?_ ?_ <;> intro hc3
       ·skip
        refine .wanted rfl rfl (.move (v := (vb s1.2.1)) rfl rfl (.wanted rfl rfl (.not (b := s1.2.1) rfl rfl (.wanted rfl rfl (.move (v := (vb (!s1.2.1))) rfl rfl ?_)))))
        refine .mid 9 (K1 := fun e σ => Z4 e [(57, (vb ((!s1.2.1) || (decide ((w64 ((w64 (x2.Index - s1.1)) * 1)) < 0))))), (1, (vi (iMax (iMin t 1099511627777) (-1099511627777)))), (5, (.ptr (b1 + 1) 4 0)), (8, (vi s1.1)), (9, (vb s1.2.1)), (11, (.ptr (b6 + 2) 2 0)), (25, (vl Granule.cs f.Odd)), (26, (vi (f.Odd.length : Int))), (27, (vi s1.2.2)), (45, (vb true))] ∧ Has σ (b8 + 21) (b8 + 22) [.blk (b6 + 2) 54 [(vi x2.Index), (vl Span.cs x2.Ticks)], .blk (b1 + 1) 87 [(vi 1), (.v (.fn 31)), (.v (.fn 64)), (.v (.fn 65))]]) rfl ?_ ?_
        ·refine .split rfl rfl ?_ ?_ <;> intro hc4
         ·skip
          refine .pass rfl rfl rfl (.pass rfl rfl rfl (.pass rfl rfl rfl (.pass rfl rfl rfl (.pass rfl rfl rfl (.pass rfl rfl rfl ?_)))))
          refine .pass rfl rfl rfl (.pass rfl rfl rfl (.wanted rfl rfl (.Ze (v := (vb true)) rfl rfl rfl (.nil ?_))))
          exact ⟨⟨or_T hc4, rfl, rfl, rfl, rfl, rfl, rfl, rfl, rfl, rfl, trivial⟩, H.weak (by omega) (Nat.le_refl _)⟩
         ·skip
          refine .wanted rfl rfl (.Z2 (off := 0) (fo := 0) H 0 rfl rfl rfl rfl rfl nofun rfl (.wanted rfl rfl (.ZQ (off := 0) (v := (vi x2.Index)) H 0 rfl rfl rfl rfl rfl nofun rfl (.wanted rfl rfl (.move (v := (vi s1.1)) rfl rfl ?_)))))
          refine .wanted rfl rfl (.int (m := x2.Index) (m' := s1.1) (r := .int .i64 (w64 (x2.Index - s1.1))) rfl rfl rfl rfl rfl (.wanted rfl rfl (.Z2 (off := 0) (fo := 0) H 1 rfl rfl rfl rfl rfl nofun rfl (.wanted rfl rfl (.ZQ (off := 0) (v := (vi 1)) H 1 rfl rfl rfl rfl rfl nofun rfl ?_)))))
          refine .wanted rfl rfl (.int (m := (w64 (x2.Index - s1.1))) (m' := 1) (r := .int .i64 (w64 ((w64 (x2.Index - s1.1)) * 1))) rfl rfl rfl rfl rfl (.wanted rfl rfl (.int (m := (w64 ((w64 (x2.Index - s1.1)) * 1))) (m' := 0) (r := .bool (decide ((w64 ((w64 (x2.Index - s1.1)) * 1)) < 0))) rfl rfl rfl rfl rfl (.wanted rfl rfl (.Zg (v := (vb (decide ((w64 ((w64 (x2.Index - s1.1)) * 1)) < 0)))) rfl rfl rfl ?_)))))
          refine .nil ?_
          exact ⟨⟨or_F hc4, rfl, rfl, rfl, rfl, rfl, rfl, rfl, rfl, rfl, trivial⟩, H.weak (by omega) (Nat.le_refl _)⟩
        ·rintro e σ ⟨he, H⟩
         obtain ⟨e, rfl⟩ := he.ex
         refine .Ze (v := (vb ((!s1.2.1) || (decide ((w64 ((w64 (x2.Index - s1.1)) * 1)) < 0))))) rfl rfl rfl (.nil ?_)
         exact ⟨⟨Z1D hc3, rfl, rfl, rfl, rfl, rfl, rfl, rfl, rfl, trivial⟩, H.weak (by omega) (Nat.le_refl _)⟩
       ·skip
        refine .pass rfl rfl rfl (.pass rfl rfl rfl (.pass rfl rfl rfl (.Z0S rfl rfl rfl (.Z0S rfl rfl rfl (.Z0S rfl rfl rfl ?_)))))
        refine .Z0S rfl rfl rfl (.Z0S rfl rfl rfl (.Z0S rfl rfl rfl (.Z0S rfl rfl rfl (.Z0S rfl rfl rfl (.pass rfl rfl rfl ?_)))))
        refine .Zg (v := (vb false)) rfl rfl rfl (.nil ?_)
        exact ⟨⟨Z1E hc3, rfl, rfl, rfl, rfl, rfl, rfl, rfl, rfl, trivial⟩, H.weak (by omega) (Nat.le_refl _)⟩
      ·rintro e σ ⟨he, H⟩
       obtain ⟨e, rfl⟩ := he.ex
       refine .nila H fun H => ?_
       refine .whether (v := ((x3.2 && (Z22 x3.1 (iMax (iMin t 1099511627777) (-1099511627777)))) && ((!s1.2.1) || (decide ((w64 ((w64 (x2.Index - s1.1)) * 1)) < 0))))) rfl ?_ ?_ <;> intro hc5
       ·replace h := Z6 hc5 h
        refine .Z0 4 rfl H fun b9 σ H => (.Z2 (off := 0) (fo := 0) H 0 rfl rfl rfl rfl rfl nofun rfl (.ZQ (off := 0) (v := (vi x2.Index)) H 0 rfl rfl rfl rfl rfl nofun rfl (.assign (v := (vi x2.Index)) rfl rfl (.assign (v := (vb true)) rfl rfl (.nila H fun H => ?_)))))
        replace h := sj h; subst h
        exact ⟨rfl, ⟨rfl, rfl, rfl, rfl, rfl, rfl, rfl, trivial⟩, (H.erase 0)⟩
       ·replace h := Z7 hc5 h
        refine .skip ?_
        replace h := sj h; subst h
        exact ⟨rfl, ⟨rfl, rfl, rfl, rfl, rfl, rfl, rfl, trivial⟩, (H.erase 0)⟩
    ·rintro x e σ ⟨rfl, he, H⟩
     obtain ⟨e, rfl⟩ := he.ex
     replace h := sj h; subst h
     exact ⟨rfl, ⟨rfl, rfl, rfl, rfl, rfl, rfl, rfl, trivial⟩, H⟩
   ·rintro x e σ ⟨rfl, he, H⟩
    obtain ⟨e, rfl⟩ := he.ex
    refine .Z0 2 rfl H fun b10 σ H => (.int (m := s1.2.2) (m' := 1) (r := .int .i64 (w64 (s1.2.2 + 1))) rfl rfl rfl rfl rfl (.move (v := (vi (w64 (s1.2.2 + 1)))) rfl rfl (.nila H fun H => ?_)))
    replace h := sj h; subst h
    exact ⟨rfl, ⟨rfl, rfl, rfl, rfl, rfl, rfl, rfl, trivial⟩, H⟩
  ·replace h := Z7 hc1 h
   refine .exit ?_
   replace h := sj h; subst h
   exact ⟨nofun, ⟨rfl, ⟨rfl, rfl, trivial⟩, (H.erase 0)⟩⟩
 ·rintro x e σ ⟨rfl, he, H⟩
  obtain ⟨e, rfl⟩ := he.ex
  refine .then (.Z0 4 rfl H fun b11 σ H => (.move (v := (vi y1.1)) rfl rfl (.move (v := (vb y1.2)) rfl rfl (.assign (v := (vi y1.1)) rfl rfl (.assign (v := (vb y1.2)) rfl rfl ?_)))))
  refine .nila H fun H => (.ret ?_)
  replace h := sj h; subst h
  exact (Ends.H (xs := [(vi y1.1), (vb y1.2)]) (.inr rfl) H (.tmp (v := (vi y1.1)) rfl (.tmp (v := (vb y1.2)) rfl .nil)) (.two (.cons (.c (.v _)) (.cons (.c (.v _)) .nil))))

theorem find_From_fn {f : Form} {t : Int} {r : Int × Bool} (h : Z45 f t = some r) : Fn CX 39 [(.agg (vs (Form.cs f))), (vi t)] (.tup [(vi r.1), (vb r.2)]) := by
 refine Fn.ends Try.func39 rfl rfl rfl rfl rfl rfl ?_
 have H : Hs (⟨0, fun _ => .none⟩ : Heap) [] := Has.nil (Nat.le_refl _)
 generalize (⟨0, fun _ => .none⟩ : Heap) = σ at H ⊢
 unfold Z45 at h
 refine .then (.Z0 3 rfl H fun b1 σ H => (.boxH (cs := (vF f)) H (by omega) (by omega) rfl rfl rfl fun σ H => (.assign (v := (vi 0)) rfl rfl (.assign (v := (vb false)) rfl rfl (.nila H fun H => ?_)))))
 refine .then (.Z2X 8 rfl (by kernel_rfl) H fun b2 σ H B2 => (.ZX (off := 0) (cs := (vF f)) H 0 rfl rfl rfl rfl rfl rfl rfl (fun _ => .inl ⟨B2 0 _ rfl _ rfl, nofun, (fun _ => by kernel_rfl)⟩) rfl (.move (v := (vi t)) rfl rfl (.call (ys := []) (r := (.agg [(vi 1), (.v (.fn 31)), (.v (.fn 64)), (.v (.fn 65))])) rfl (find_up_fn rfl) rfl ?_))))
 obtain ⟨x1, q1, h⟩ := bind_some h
 refine .call (ys := [(.agg (vF f)), (vi t), (.agg [(vi 1), (.v (.fn 31)), (.v (.fn 64)), (.v (.fn 65))])]) (r := (.tup [(vi x1.1), (vb x1.2)])) rfl (Z1y q1) rfl (.extract (v := (vi x1.1)) rfl rfl rfl (.extract (v := (vb x1.2)) rfl rfl rfl (.assign (v := (vi x1.1)) rfl rfl (.assign (v := (vb x1.2)) rfl rfl (.nila H fun H => ?_)))))
 refine .ret ?_
 replace h := sj h; subst h
 exact (Ends.H (xs := [(vi x1.1), (vb x1.2)]) (.inr rfl) H (.tmp (v := (vi x1.1)) rfl (.tmp (v := (vb x1.2)) rfl .nil)) (.two (.cons (.c (.v _)) (.cons (.c (.v _)) .nil))))

theorem Z1t {x' : (List Span)} {target : Int} {cmp : Span → Int → Option Int} {C : List Res} {cv0 : PV} (hs0 : cv0.still = true) (hp0 : cv0.pure = true → C = []) (hf0 : ∀ z0 z1 y, cmp z0 z1 = some y → CloH CX cv0 [(.agg (vs (Span.cs z0))), (vi z1)] (vi y) C) {r : Int × Bool} (h : Z9 x' target cmp = some r) : FnH CX 54 [(vl Span.cs x'), (vi target), cv0] (.tup [(vi r.1), (vb r.2)]) C := by
 refine FnH.of Try.func54 rfl rfl rfl rfl (Z2W rfl (Z2W rfl (Z2W hs0 all_nil))) rfl (fun h => hp0 (Z39 h 2 rfl)) ?_
 intro σ L hC H
 unfold Z9 at h
 refine .then (.Z0 2 rfl H fun b1 σ H => (.assign (v := (vi 0)) rfl rfl (.assign (v := (vb false)) rfl rfl (.nila H fun H => (.then ?_)))))
 refine .Z0 3 rfl H fun b2 σ H => (.move (v := (vl Span.cs x')) rfl rfl (.Z0B (c := Span.cs) (xs := x') rfl rfl rfl (.assign (v := (vi (x'.length : Int))) rfl rfl (.nila H fun H => (.then ?_)))))
 refine .Z0 3 rfl H fun b3 σ H => (.move (v := (vi (x'.length : Int))) rfl rfl (.assign (v := (vi 0)) rfl rfl (.assign (v := (vi (x'.length : Int))) rfl rfl (.nila H fun H => (.then ?_)))))
 refine .inBlock ?_
 obtain ⟨y1, hj1, h⟩ := bind_some h
 obtain ⟨n1, hj1⟩ := Zc.1 hj1
 refine .mono (Runs.ZJ hj1 (fun s1 e σ => Z4 e [(0, (vl Span.cs x')), (1, (vi target)), (2, cv0), (8, (vi (x'.length : Int))), (9, (vi s1.1)), (10, (vi s1.2))] ∧ Hs σ (L)) (fun y1 x e σ => x = .exit 0 ∧ Z4 e [(0, (vl Span.cs x')), (1, (vi target)), (2, cv0), (8, (vi (x'.length : Int))), (9, (vi y1))] ∧ Hs σ (L)) ⟨⟨rfl, rfl, rfl, rfl, rfl, rfl, trivial⟩, H⟩ ?_) ?_
 ·intro s1 e σ hI z h
  obtain ⟨he, H⟩ := hI
  obtain ⟨e, rfl⟩ := he.ex
  unfold Z9.s0 at h
  refine .then (.then (.Z0 3 rfl H fun b4 σ H => (.move (v := (vi s1.1)) rfl rfl (.move (v := (vi s1.2)) rfl rfl (.int (m := s1.1) (m' := s1.2) (r := .bool (decide (s1.1 < s1.2))) rfl rfl rfl rfl rfl ?_)))))
  refine .nila H fun H => ?_
  refine .whether (v := (decide (s1.1 < s1.2))) rfl ?_ ?_ <;> intro hc1
  ·replace h := Z6 hc1 h
   refine .skip (.inBlock ?_)
   obtain ⟨y2, hj2, h⟩ := bind_some h
   refine .mono (Q := fun x e σ => x = .normal ∧ Z4 e [(0, (vl Span.cs x')), (1, (vi target)), (2, cv0), (8, (vi (x'.length : Int))), (9, (vi y2.1)), (10, (vi y2.2))] ∧ Hs σ (L)) ?_ ?_
   ·replace h := hj2
    refine .then (.Z0 7 rfl H fun b5 σ H => (.move (v := (vi s1.1)) rfl rfl (.move (v := (vi s1.2)) rfl rfl (.int (m := s1.1) (m' := s1.2) (r := .int .i64 (w64 (s1.1 + s1.2))) rfl rfl rfl rfl rfl (.conv (m := (w64 (s1.1 + s1.2))) rfl rfl rfl rfl ?_)))))
    refine .shr (m := (IntKind.u64.wrap (w64 (s1.1 + s1.2)))) (m' := 1) rfl rfl (by decide) rfl (.conv (m := ((IntKind.u64.wrap (w64 (s1.1 + s1.2))).fdiv (2 ^ 1))) rfl rfl rfl rfl (.assign (v := (vi (w64 ((IntKind.u64.wrap (w64 (s1.1 + s1.2))).fdiv (2 ^ 1))))) rfl rfl (.nila H fun H => (.then (.Z0 8 rfl H fun b6 σ H => ?_)))))
    refine .move (v := cv0) rfl rfl (.move (v := (vl Span.cs x')) rfl rfl (.move (v := (vi (w64 ((IntKind.u64.wrap (w64 (s1.1 + s1.2))).fdiv (2 ^ 1))))) rfl rfl ?_))
    obtain ⟨x1, q1, h⟩ := bind_some h
    refine .Z0C (c := Span.cs) (u := x1) rfl rfl q1 rfl rfl rfl rfl (.Z2F (cs := [(.int .i64 x1.From), (.int .i64 x1.To)]) rfl rfl rfl rfl rfl rfl (.move (v := (vi target)) rfl rfl ?_))
    obtain ⟨x2, q2, h⟩ := bind_some h
    refine .callV (cv := cv0) (ys := [(.agg (vs (Span.cs x1))), (vi target)]) (r := (vi x2)) H rfl rfl (hf0 x1 target _ q2) hC nofun rfl fun σ H => (.int (m := x2) (m' := 0) (r := .bool (decide (x2 < 0))) rfl rfl rfl rfl rfl (.nila H fun H => ?_))
    refine .whether (v := (decide (x2 < 0))) rfl ?_ ?_ <;> intro hc2
    ·replace h := Z6 hc2 h
     refine .Z0 3 rfl H fun b7 σ H => (.move (v := (vi (w64 ((IntKind.u64.wrap (w64 (s1.1 + s1.2))).fdiv (2 ^ 1))))) rfl rfl (.int (m := (w64 ((IntKind.u64.wrap (w64 (s1.1 + s1.2))).fdiv (2 ^ 1)))) (m' := 1) (r := .int .i64 (w64 ((w64 ((IntKind.u64.wrap (w64 (s1.1 + s1.2))).fdiv (2 ^ 1))) + 1))) rfl rfl rfl rfl rfl (.assign (v := (vi (w64 ((w64 ((IntKind.u64.wrap (w64 (s1.1 + s1.2))).fdiv (2 ^ 1))) + 1)))) rfl rfl (.nila H fun H => ?_))))
     replace h := sj h; subst h
     exact ⟨rfl, ⟨rfl, rfl, rfl, rfl, rfl, rfl, trivial⟩, H⟩
    ·replace h := Z7 hc2 h
     refine .Z0 2 rfl H fun b8 σ H => (.move (v := (vi (w64 ((IntKind.u64.wrap (w64 (s1.1 + s1.2))).fdiv (2 ^ 1))))) rfl rfl (.assign (v := (vi (w64 ((IntKind.u64.wrap (w64 (s1.1 + s1.2))).fdiv (2 ^ 1))))) rfl rfl (.nila H fun H => ?_)))
     replace h := sj h; subst h
     exact ⟨rfl, ⟨rfl, rfl, rfl, rfl, rfl, rfl, trivial⟩, H⟩
   ·rintro x e σ ⟨rfl, he, H⟩
    obtain ⟨e, rfl⟩ := he.ex
    replace h := sj h; subst h
    exact ⟨rfl, ⟨rfl, rfl, rfl, rfl, rfl, rfl, trivial⟩, H⟩
  ·replace h := Z7 hc1 h
   refine .exit ?_
   replace h := sj h; subst h
   exact ⟨nofun, ⟨rfl, ⟨rfl, rfl, rfl, rfl, rfl, trivial⟩, H⟩⟩
 ·rintro x e σ ⟨rfl, he, H⟩
  obtain ⟨e, rfl⟩ := he.ex
  refine .then (.Z0 16 rfl H fun b9 σ H => (.move (v := (vi y1)) rfl rfl (.move (v := (vi y1)) rfl rfl (.move (v := (vi (x'.length : Int))) rfl rfl (.int (m := y1) (m' := (x'.length : Int)) (r := .bool (decide (y1 < (x'.length : Int)))) rfl rfl rfl rfl rfl ?_)))))
  refine .move (v := (vb (decide (y1 < (x'.length : Int))))) rfl rfl ?_
  obtain ⟨y3, hj3, h⟩ := bind_some h
  refine .mid 9 (K1 := fun e σ => Z4 e [(48, (vb y3)), (35, (vi y1))] ∧ Has σ (b9 + 14) (b9 + 16) (L)) rfl ?_ ?_
  ·refine .split rfl rfl ?_ ?_ <;> intro hc3
   ·replace h := Z6 hc3 hj3
    refine .wanted rfl rfl (.move (v := cv0) rfl rfl (.wanted rfl rfl (.move (v := (vl Span.cs x')) rfl rfl (.wanted rfl rfl (.move (v := (vi y1)) rfl rfl ?_)))))
    refine .wanted rfl rfl ?_
    obtain ⟨x3, q3, h⟩ := bind_some h
    refine .Z0C (c := Span.cs) (u := x3) rfl rfl q3 rfl rfl rfl rfl (.wanted rfl rfl (.Z2F (cs := [(.int .i64 x3.From), (.int .i64 x3.To)]) rfl rfl rfl rfl rfl rfl (.wanted rfl rfl (.move (v := (vi target)) rfl rfl (.wanted rfl rfl ?_)))))
    obtain ⟨x4, q4, h⟩ := bind_some h
    refine .callV (cv := cv0) (ys := [(.agg (vs (Span.cs x3))), (vi target)]) (r := (vi x4)) H rfl rfl (hf0 x3 target _ q4) hC nofun rfl fun σ H => (.wanted rfl rfl (.int (m := x4) (m' := 0) (r := .bool (x4 == 0)) rfl rfl rfl rfl rfl (.Ze (v := (vb (x4 == 0))) rfl rfl rfl (.nil ?_))))
    replace h := sj h; subst h
    exact ⟨⟨rfl, rfl, trivial⟩, H.weak (by omega) (Nat.le_refl _)⟩
   ·replace h := Z7 hc3 hj3
    refine .pass rfl rfl rfl (.pass rfl rfl rfl (.pass rfl rfl rfl (.pass rfl rfl rfl (.pass rfl rfl rfl (.pass rfl rfl rfl ?_)))))
    refine .pass rfl rfl rfl (.pass rfl rfl rfl (.Zg (v := (vb false)) rfl rfl rfl (.nil ?_)))
    replace h := sj h; subst h
    exact ⟨⟨rfl, rfl, trivial⟩, H.weak (by omega) (Nat.le_refl _)⟩
  ·rintro e σ ⟨he, H⟩
   obtain ⟨e, rfl⟩ := he.ex
   refine .assign (v := (vi y1)) rfl rfl (.assign (v := (vb y3)) rfl rfl (.nila H fun H => (.ret ?_)))
   replace h := sj h; subst h
   exact (EndsH.H (xs := [(vi y1), (vb y3)]) (.inr rfl) H (.tmp (v := (vi y1)) rfl (.tmp (v := (vb y3)) rfl .nil)) (.two (.cons (.c (.v _)) (.cons (.c (.v _)) .nil))) 0 rfl)

theorem Z8t {s : Span} {t : Int} {r : Int} (h : Z2E s t = r) : Fn CX 55 [(.agg (vs (Span.cs s))), (vi t)] (vi r) := by
 refine Fn.ends Try.func55 rfl rfl rfl rfl rfl rfl ?_
 have H : Hs (⟨0, fun _ => .none⟩ : Heap) [] := Has.nil (Nat.le_refl _)
 generalize (⟨0, fun _ => .none⟩ : Heap) = σ at H ⊢
 unfold Z2E at h
 refine .then (.Z0 2 rfl H fun b1 σ H => (.boxH (cs := [(vi s.From), (vi s.To)]) H (by omega) (by omega) rfl rfl rfl fun σ H => (.assign (v := (vi 0)) rfl rfl (.nila H fun H => (.then ?_)))))
 refine .inBlock (.then (.Z0 5 rfl H fun b2 σ H => (.Z2 (off := 0) (fo := 1) H 0 rfl rfl rfl rfl rfl nofun rfl (.ZQ (off := 1) (v := (vi s.To)) H 0 rfl rfl rfl rfl rfl nofun rfl (.move (v := (vi t)) rfl rfl ?_)))))
 refine .int (m := s.To) (m' := t) (r := .bool (decide (s.To < t))) rfl rfl rfl rfl rfl (.assign (v := (vb (decide (s.To < t)))) rfl rfl (.nila H fun H => ?_))
 refine .whether (v := (decide (s.To < t))) rfl ?_ ?_ <;> intro hc1
 ·replace h := Z6 hc1 h
  refine .then (.Z0 1 rfl H fun b3 σ H => (.assign (v := (vi (-1))) rfl rfl (.nila H fun H => (.ret ?_))))
  subst h
  exact (Ends.H (xs := [(vi (-1))]) (.inr rfl) H (.tmp (v := (vi (-1))) rfl .nil) (.one (.c (.v _))))
 ·replace h := Z7 hc1 h
  refine .then (.Z0 5 rfl H fun b4 σ H => (.Z2 (off := 0) (fo := 0) H 0 rfl rfl rfl rfl rfl nofun rfl (.ZQ (off := 0) (v := (vi s.From)) H 0 rfl rfl rfl rfl rfl nofun rfl (.move (v := (vi t)) rfl rfl (.int (m := s.From) (m' := t) (r := .bool (decide (s.From > t))) rfl rfl rfl rfl rfl ?_)))))
  refine .assign (v := (vb (decide (s.From > t)))) rfl rfl (.nila H fun H => ?_)
  refine .whether (v := (decide (s.From > t))) rfl ?_ ?_ <;> intro hc2
  ·replace h := Z6 hc2 h
   refine .then (.Z0 1 rfl H fun b5 σ H => (.assign (v := (vi 1)) rfl rfl (.nila H fun H => (.ret ?_))))
   subst h
   exact (Ends.H (xs := [(vi 1)]) (.inr rfl) H (.tmp (v := (vi 1)) rfl .nil) (.one (.c (.v _))))
  ·replace h := Z7 hc2 h
   refine .skip (.then (.Z0 1 rfl H fun b6 σ H => (.assign (v := (vi 0)) rfl rfl (.nila H fun H => (.ret ?_)))))
   subst h
   exact (Ends.H (xs := [(vi 0)]) (.inr rfl) H (.tmp (v := (vi 0)) rfl .nil) (.one (.c (.v _))))

theorem spans_Has_fn {l : (List Span)} {t : Int} {r : Bool} (h : Z3O l t = some r) : Fn CX 40 [(vl Span.cs l), (vi t)] (vb r) := by
 refine Fn.ends Try.func40 rfl rfl rfl rfl rfl rfl ?_
 have H : Hs (⟨0, fun _ => .none⟩ : Heap) [] := Has.nil (Nat.le_refl _)
 generalize (⟨0, fun _ => .none⟩ : Heap) = σ at H ⊢
 unfold Z3O at h
 refine .then (.Z0 1 rfl H fun b1 σ H => (.assign (v := (vb false)) rfl rfl (.nila H fun H => (.then (.Z0 8 rfl H fun b2 σ H => ?_)))))
 refine .move (v := (vl Span.cs l)) rfl rfl (.move (v := (vi t)) rfl rfl ?_)
 obtain ⟨x1, q1, h⟩ := bind_some h
 refine .Z6V (ys := [(vl Span.cs l), (vi t), (.v (.fn 55))]) (r := (.tup [(vi x1.1), (vb x1.2)])) H rfl (Z1t (C := []) rfl (fun _ => rfl) (fun z0 z1 y hz => (CloH.fn (Fn.toH (Z8t (Option.some.inj hz)) _))) q1) .nil nofun rfl fun σ H => (.move (v := (.tup [(vi x1.1), (vb x1.2)])) rfl rfl (.extract (v := (vi x1.1)) rfl rfl rfl (.extract (v := (vb x1.2)) rfl rfl rfl (.assign (v := (vi x1.1)) rfl rfl (.assign (v := (vb x1.2)) rfl rfl ?_)))))
 refine .nila H fun H => (.then (.Z0 8 rfl H fun b3 σ H => (.move (v := (vb x1.2)) rfl rfl (.move (v := (vb x1.2)) rfl rfl ?_))))
 refine .mid 5 (K1 := fun e σ => Z4 e [(19, (vb (x1.2 && (decide (x1.1 < (l.length : Int))))))] ∧ Has σ (b3 + 7) (b3 + 8) []) rfl ?_ ?_
 ·refine .split rfl rfl ?_ ?_ <;> intro hc1
  ·skip
   refine .wanted rfl rfl (.move (v := (vi x1.1)) rfl rfl (.wanted rfl rfl (.move (v := (vl Span.cs l)) rfl rfl (.wanted rfl rfl (.Z0B (c := Span.cs) (xs := l) rfl rfl rfl ?_)))))
   refine .wanted rfl rfl (.int (m := x1.1) (m' := (l.length : Int)) (r := .bool (decide (x1.1 < (l.length : Int)))) rfl rfl rfl rfl rfl (.Ze (v := (vb (decide (x1.1 < (l.length : Int))))) rfl rfl rfl (.nil ?_)))
   exact ⟨⟨Z1D hc1, trivial⟩, H.weak (by omega) (Nat.le_refl _)⟩
  ·skip
   refine .pass rfl rfl rfl (.pass rfl rfl rfl (.pass rfl rfl rfl (.pass rfl rfl rfl (.Zg (v := (vb false)) rfl rfl rfl (.nil ?_)))))
   exact ⟨⟨Z1E hc1, trivial⟩, H.weak (by omega) (Nat.le_refl _)⟩
 ·rintro e σ ⟨he, H⟩
  obtain ⟨e, rfl⟩ := he.ex
  refine .assign (v := (vb (x1.2 && (decide (x1.1 < (l.length : Int)))))) rfl rfl (.nila H fun H => (.ret ?_))
  replace h := sj h; subst h
  exact (Ends.H (xs := [(vb (x1.2 && (decide (x1.1 < (l.length : Int)))))]) (.inr rfl) H (.tmp (v := (vb (x1.2 && (decide (x1.1 < (l.length : Int)))))) rfl .nil) (.one (.c (.v _))))

theorem Z9M {f : Form} {t : Int} {r : Int × Bool} (h : Z3a f t = some r) : Fn CX 22 [(.agg (vs (Form.cs f))), (vi t)] (.tup [(vi r.1), (vb r.2)]) := by
 refine Fn.ends Try.func22 rfl rfl rfl rfl rfl rfl ?_
 have H : Hs (⟨0, fun _ => .none⟩ : Heap) [] := Has.nil (Nat.le_refl _)
 generalize (⟨0, fun _ => .none⟩ : Heap) = σ at H ⊢
 unfold Z3a at h
 refine .then (.Z0 3 rfl H fun b1 σ H => (.boxH (cs := (vF f)) H (by omega) (by omega) rfl rfl rfl fun σ H => (.assign (v := (vi 0)) rfl rfl (.assign (v := (vb false)) rfl rfl (.nila H fun H => ?_)))))
 refine .then (.Z0 8 rfl H fun b2 σ H => (.ZX (off := 0) (cs := (vF f)) H 0 rfl rfl rfl rfl rfl rfl rfl nofun rfl (.move (v := (vi t)) rfl rfl ?_)))
 obtain ⟨x1, q1, h⟩ := bind_some h
 refine .call (ys := [(.agg (vF f)), (vi t)]) (r := (.tup [(vi x1.1), (vb x1.2)])) rfl (find_From_fn q1) rfl (.move (v := (.tup [(vi x1.1), (vb x1.2)])) rfl rfl (.extract (v := (vi x1.1)) rfl rfl rfl (.extract (v := (vb x1.2)) rfl rfl rfl (.assign (v := (vi x1.1)) rfl rfl (.assign (v := (vb x1.2)) rfl rfl ?_)))))
 refine .nila H fun H => (.then (.then (.Z0 2 rfl H fun b3 σ H => (.move (v := (vb x1.2)) rfl rfl (.not (b := x1.2) rfl rfl ?_)))))
 refine .nila H fun H => ?_
 refine .whether (v := (!x1.2)) rfl ?_ ?_ <;> intro hc1
 ·replace h := Z6 hc1 h
  refine .then (.Z0 2 rfl H fun b4 σ H => (.assign (v := (vi 0)) rfl rfl (.assign (v := (vb false)) rfl rfl (.nila H fun H => (.ret ?_)))))
  replace h := sj h; subst h
  exact (Ends.H (xs := [(vi 0), (vb false)]) (.inr rfl) H (.tmp (v := (vi 0)) rfl (.tmp (v := (vb false)) rfl .nil)) (.two (.cons (.c (.v _)) (.cons (.c (.v _)) .nil))))
 ·replace h := Z7 hc1 h
  refine .skip (.then (.Z0 8 rfl H fun b5 σ H => (.ZX (off := 0) (cs := (vF f)) H 0 rfl rfl rfl rfl rfl rfl rfl nofun rfl (.move (v := (vi x1.1)) rfl rfl ?_))))
  obtain ⟨x2, q2, h⟩ := bind_some h
  refine .call (ys := [(.agg (vF f)), (vi x1.1)]) (r := (.tup [(vl Span.cs x2.1), (vi x2.2)])) rfl (Z3l q2) rfl (.move (v := (.tup [(vl Span.cs x2.1), (vi x2.2)])) rfl rfl (.extract (v := (vl Span.cs x2.1)) rfl rfl rfl (.extract (v := (vi x2.2)) rfl rfl rfl (.assign (v := (vl Span.cs x2.1)) rfl rfl (.assign (v := (vi x2.2)) rfl rfl ?_)))))
  refine .nila H fun H => (.then (.then (.Z0 4 rfl H fun b6 σ H => (.move (v := (vl Span.cs x2.1)) rfl rfl (.move (v := (vi t)) rfl rfl ?_)))))
  obtain ⟨x3, q3, h⟩ := bind_some h
  refine .call (ys := [(vl Span.cs x2.1), (vi t)]) (r := (vb x3)) rfl (spans_Has_fn q3) rfl (.not (b := x3) rfl rfl (.nila H fun H => ?_))
  refine .whether (v := (!x3)) rfl ?_ ?_ <;> intro hc2
  ·replace h := Z6 hc2 h
   refine .then (.Z0 2 rfl H fun b7 σ H => (.assign (v := (vi 0)) rfl rfl (.assign (v := (vb false)) rfl rfl (.nila H fun H => (.ret ?_)))))
   replace h := sj h; subst h
   exact (Ends.H (xs := [(vi 0), (vb false)]) (.inr rfl) H (.tmp (v := (vi 0)) rfl (.tmp (v := (vb false)) rfl .nil)) (.two (.cons (.c (.v _)) (.cons (.c (.v _)) .nil))))
  ·replace h := Z7 hc2 h
   refine .skip (.then (.Z0 3 rfl H fun b8 σ H => (.move (v := (vi x1.1)) rfl rfl (.assign (v := (vi x1.1)) rfl rfl (.assign (v := (vb true)) rfl rfl ?_)))))
   refine .nila H fun H => (.ret ?_)
   replace h := sj h; subst h
   exact (Ends.H (xs := [(vi x1.1), (vb true)]) (.inr rfl) H (.tmp (v := (vi x1.1)) rfl (.tmp (v := (vb true)) rfl .nil)) (.two (.cons (.c (.v _)) (.cons (.c (.v _)) .nil))))

theorem Z3s {f : Form} {a : Int} {b : Int} {r : Int × Bool} (h : Z0y f a b = some r) : Fn CX 9 [(.agg (vs (Form.cs f))), (vi a), (vi b)] (.tup [(vi r.1), (vb r.2)]) := by
 refine Fn.ends Try.func9 rfl rfl rfl rfl rfl rfl ?_
 have H : Hs (⟨0, fun _ => .none⟩ : Heap) [] := Has.nil (Nat.le_refl _)
 generalize (⟨0, fun _ => .none⟩ : Heap) = σ at H ⊢
 unfold Z0y at h
 refine .then (.Z0 3 rfl H fun b1 σ H => (.boxH (cs := (vF f)) H (by omega) (by omega) rfl rfl rfl fun σ H => (.assign (v := (vi 0)) rfl rfl (.assign (v := (vb false)) rfl rfl (.nila H fun H => ?_)))))
 refine .then (.Z0 8 rfl H fun b2 σ H => (.ZX (off := 0) (cs := (vF f)) H 0 rfl rfl rfl rfl rfl rfl rfl nofun rfl (.move (v := (vi a)) rfl rfl ?_)))
 obtain ⟨x1, q1, h⟩ := bind_some h
 refine .call (ys := [(.agg (vF f)), (vi a)]) (r := (.tup [(vi x1.1), (vb x1.2)])) rfl (Z9M q1) rfl (.move (v := (.tup [(vi x1.1), (vb x1.2)])) rfl rfl (.extract (v := (vi x1.1)) rfl rfl rfl (.extract (v := (vb x1.2)) rfl rfl rfl (.assign (v := (vi x1.1)) rfl rfl (.assign (v := (vb x1.2)) rfl rfl ?_)))))
 refine .nila H fun H => (.then (.then (.Z0 2 rfl H fun b3 σ H => (.move (v := (vb x1.2)) rfl rfl (.not (b := x1.2) rfl rfl ?_)))))
 refine .nila H fun H => ?_
 refine .whether (v := (!x1.2)) rfl ?_ ?_ <;> intro hc1
 ·replace h := Z6 hc1 h
  refine .then (.Z0 2 rfl H fun b4 σ H => (.assign (v := (vi 0)) rfl rfl (.assign (v := (vb false)) rfl rfl (.nila H fun H => (.ret ?_)))))
  replace h := sj h; subst h
  exact (Ends.H (xs := [(vi 0), (vb false)]) (.inr rfl) H (.tmp (v := (vi 0)) rfl (.tmp (v := (vb false)) rfl .nil)) (.two (.cons (.c (.v _)) (.cons (.c (.v _)) .nil))))
 ·replace h := Z7 hc1 h
  refine .skip (.then (.Z0 8 rfl H fun b5 σ H => (.ZX (off := 0) (cs := (vF f)) H 0 rfl rfl rfl rfl rfl rfl rfl nofun rfl (.move (v := (vi b)) rfl rfl ?_))))
  obtain ⟨x2, q2, h⟩ := bind_some h
  refine .call (ys := [(.agg (vF f)), (vi b)]) (r := (.tup [(vi x2.1), (vb x2.2)])) rfl (Z9M q2) rfl (.move (v := (.tup [(vi x2.1), (vb x2.2)])) rfl rfl (.extract (v := (vi x2.1)) rfl rfl rfl (.extract (v := (vb x2.2)) rfl rfl rfl (.assign (v := (vi x2.1)) rfl rfl (.assign (v := (vb x2.2)) rfl rfl ?_)))))
  refine .nila H fun H => (.then (.then (.Z0 2 rfl H fun b6 σ H => (.move (v := (vb x2.2)) rfl rfl (.not (b := x2.2) rfl rfl ?_)))))
  refine .nila H fun H => ?_
  refine .whether (v := (!x2.2)) rfl ?_ ?_ <;> intro hc2
  ·replace h := Z6 hc2 h
   refine .then (.Z0 2 rfl H fun b7 σ H => (.assign (v := (vi 0)) rfl rfl (.assign (v := (vb false)) rfl rfl (.nila H fun H => (.ret ?_)))))
   replace h := sj h; subst h
   exact (Ends.H (xs := [(vi 0), (vb false)]) (.inr rfl) H (.tmp (v := (vi 0)) rfl (.tmp (v := (vb false)) rfl .nil)) (.two (.cons (.c (.v _)) (.cons (.c (.v _)) .nil))))
  ·replace h := Z7 hc2 h
   refine .skip (.then (.Z0 5 rfl H fun b8 σ H => (.move (v := (vi x2.1)) rfl rfl (.move (v := (vi x1.1)) rfl rfl (.int (m := x2.1) (m' := x1.1) (r := .int .i64 (w64 (x2.1 - x1.1))) rfl rfl rfl rfl rfl ?_)))))
   refine .assign (v := (vi (w64 (x2.1 - x1.1)))) rfl rfl (.assign (v := (vb true)) rfl rfl (.nila H fun H => (.ret ?_)))
   replace h := sj h; subst h
   exact (Ends.H (xs := [(vi (w64 (x2.1 - x1.1))), (vb true)]) (.inr rfl) H (.tmp (v := (vi (w64 (x2.1 - x1.1)))) rfl (.tmp (v := (vb true)) rfl .nil)) (.two (.cons (.c (.v _)) (.cons (.c (.v _)) .nil))))

theorem Z3p {s : (List Int)} {f : Int → Option Bool} {C : List Res} {cv0 : PV} (hs0 : cv0.still = true) (hp0 : cv0.pure = true → C = []) (hf0 : ∀ z0 y, f z0 = some y → CloH CX cv0 [(vi z0)] (vb y) C) {r : Int} (h : ZO s f = some r) : FnH CX 56 [(vl (cI .i64) s), cv0] (vi r) C := by
 refine FnH.of Try.func56 rfl rfl rfl rfl (Z2W rfl (Z2W hs0 all_nil)) rfl (fun h => hp0 (Z39 h 1 rfl)) ?_
 intro σ L hC H
 unfold ZO at h
 refine .then (.Z0 1 rfl H fun b1 σ H => (.assign (v := (vi 0)) rfl rfl (.nila H fun H => (.then (.then ?_)))))
 refine .Z0 3 rfl H fun b2 σ H => (.move (v := (vl (cI .i64) s)) rfl rfl (.Z0B (c := (cI .i64)) (xs := s) rfl rfl rfl (.move (v := (vi 0)) rfl rfl (.nila H fun H => (.inBlock ?_)))))
 obtain ⟨y1, hj1, h⟩ := bind_some h
 obtain ⟨n1, hj1⟩ := Zc.1 hj1
 refine .mono (Runs.ZJ hj1 (fun s1 e σ => Z4 e [(0, (vl (cI .i64) s)), (1, cv0), (7, (vi (s.length : Int))), (8, (vi s1))] ∧ Hs σ (L)) (fun y1 x e σ => (∃ a1, y1 = (.go a1) ∧ x = .exit 0 ∧ Z4 e [] ∧ Hs σ (L)) ∨ (∃ r', y1 = (.ret r') ∧ x = .ret ∧ EndsH CX Try.f56.results.toList (vi r') L x e σ)) ⟨⟨rfl, rfl, rfl, rfl, trivial⟩, H⟩ ?_) ?_
 ·intro s1 e σ hI z h
  obtain ⟨he, H⟩ := hI
  obtain ⟨e, rfl⟩ := he.ex
  unfold ZO.s0 at h
  refine .then (.Z0 1 rfl H fun b3 σ H => (.int (m := s1) (m' := (s.length : Int)) (r := .bool (decide (s1 < (s.length : Int)))) rfl rfl rfl rfl rfl (.nila H fun H => (.then ?_))))
  refine .whether (v := (decide (s1 < (s.length : Int)))) rfl ?_ ?_ <;> intro hc1
  ·replace h := Z6 hc1 h
   refine .skip (.then (.inBlock (.then (.Z0 2 rfl H fun b4 σ H => (.move (v := (vi s1)) rfl rfl ?_)))))
   refine .assign (v := (vi s1)) rfl rfl (.nila H fun H => (.then (.Z0 6 rfl H fun b5 σ H => (.move (v := cv0) rfl rfl (.move (v := (vl (cI .i64) s)) rfl rfl ?_)))))
   refine .move (v := (vi s1)) rfl rfl ?_
   obtain ⟨x1, q1, h⟩ := bind_some h
   refine .Z0C (c := (cI .i64)) (u := x1) rfl rfl q1 rfl rfl rfl rfl (.Z2H (u := (.int .i64 x1)) rfl rfl rfl rfl ?_)
   obtain ⟨x2, q2, h⟩ := bind_some h
   refine .callV (cv := cv0) (ys := [(vi x1)]) (r := (vb x2)) H rfl rfl (hf0 x1 _ q2) hC nofun rfl fun σ H => (.nila H fun H => ?_)
   refine .whether (v := x2) rfl ?_ ?_ <;> intro hc2
   ·replace h := Z6 hc2 h
    refine .then (.Z0 2 rfl H fun b6 σ H => (.move (v := (vi s1)) rfl rfl (.assign (v := (vi s1)) rfl rfl (.nila H fun H => (.ret ?_)))))
    replace h := sj h; subst h
    exact ⟨nofun, (.inr ⟨_, rfl, rfl, (EndsH.H (xs := [(vi s1)]) (.inr rfl) H (.tmp (v := (vi s1)) rfl .nil) (.one (.c (.v _))) 0 rfl)⟩)⟩
   ·replace h := Z7 hc2 h
    refine .skip (.Z0 2 rfl H fun b7 σ H => (.int (m := s1) (m' := 1) (r := .int .i64 (w64 (s1 + 1))) rfl rfl rfl rfl rfl (.move (v := (vi (w64 (s1 + 1)))) rfl rfl (.nila H fun H => ?_))))
    replace h := sj h; subst h
    exact ⟨rfl, ⟨rfl, rfl, rfl, rfl, trivial⟩, H⟩
  ·replace h := Z7 hc1 h
   refine .exit ?_
   replace h := sj h; subst h
   exact ⟨nofun, (.inl ⟨_, rfl, rfl, trivial, H⟩)⟩
 ·rintro x e σ (⟨a2, rfl, rfl, he, H⟩ | ⟨r', rfl, rfl, hE⟩)
  ·skip
   replace h := jgo h
   obtain ⟨e, rfl⟩ := he.ex
   refine .then (.Z0 1 rfl H fun b8 σ H => (.assign (v := (vi (-1))) rfl rfl (.nila H fun H => (.ret ?_))))
   replace h := sj h; subst h
   exact (EndsH.H (xs := [(vi (-1))]) (.inr rfl) H (.tmp (v := (vi (-1))) rfl .nil) (.one (.c (.v _))) 0 rfl)
  ·skip
   replace h := jret h
   replace h := sj h; subst h
   exact hE

theorem Z3C {s : (List Int)} {f : Int → Option Bool} {C : List Res} {cv0 : PV} (hs0 : cv0.still = true) (hp0 : cv0.pure = true → C = []) (hf0 : ∀ z0 y, f z0 = some y → CloH CX cv0 [(vi z0)] (vb y) C) {r : Bool} (h : Zu s f = some r) : FnH CX 43 [(vl (cI .i64) s), cv0] (vb r) C := by
 refine FnH.of Try.func43 rfl rfl rfl rfl (Z2W rfl (Z2W hs0 all_nil)) rfl (fun h => hp0 (Z39 h 1 rfl)) ?_
 intro σ L hC H
 unfold Zu at h
 refine .then (.Z0 1 rfl H fun b1 σ H => (.assign (v := (vb false)) rfl rfl (.nila H fun H => (.then (.Z0 5 rfl H fun b2 σ H => ?_)))))
 refine .move (v := (vl (cI .i64) s)) rfl rfl (.move (v := cv0) rfl rfl ?_)
 obtain ⟨x1, q1, h⟩ := bind_some h
 refine .Z6V (ys := [(vl (cI .i64) s), cv0]) (r := (vi x1)) H rfl (Z3p (C := C) hs0 hp0 hf0 q1) hC nofun rfl fun σ H => (.int (m := x1) (m' := 0) (r := .bool (decide (x1 ≥ 0))) rfl rfl rfl rfl rfl (.assign (v := (vb (decide (x1 ≥ 0)))) rfl rfl (.nila H fun H => (.ret ?_))))
 replace h := sj h; subst h
 exact (EndsH.H (xs := [(vb (decide (x1 ≥ 0)))]) (.inr rfl) H (.tmp (v := (vb (decide (x1 ≥ 0)))) rfl .nil) (.one (.c (.v _))) 0 rfl)

theorem tag_own_1_fn {t : Int} {r : Bool} (h : Z56 t = r) : Fn CX 42 [(vi t)] (vb r) := by
 refine Fn.ends Try.func42 rfl rfl rfl rfl rfl rfl ?_
 have H : Hs (⟨0, fun _ => .none⟩ : Heap) [] := Has.nil (Nat.le_refl _)
 generalize (⟨0, fun _ => .none⟩ : Heap) = σ at H ⊢
 unfold Z56 at h
 refine .then (.Z0 1 rfl H fun b1 σ H => (.assign (v := (vb false)) rfl rfl (.nila H fun H => (.then (.Z0 7 rfl H fun b2 σ H => ?_)))))
 refine .move (v := (vi t)) rfl rfl (.int (m := t) (m' := (-1099511627776)) (r := .bool (decide (t < (-1099511627776)))) rfl rfl rfl rfl rfl (.move (v := (vb (decide (t < (-1099511627776))))) rfl rfl ?_))
 refine .mid 3 (K1 := fun e σ => Z4 e [(8, (vb ((decide (t < (-1099511627776))) || (decide (t > 1099511627776)))))] ∧ Has σ (b2 + 6) (b2 + 7) []) rfl ?_ ?_
 ·refine .split rfl rfl ?_ ?_ <;> intro hc1
  ·skip
   refine .pass rfl rfl rfl (.pass rfl rfl rfl (.Ze (v := (vb true)) rfl rfl rfl (.nil ?_)))
   exact ⟨⟨or_T hc1, trivial⟩, H.weak (by omega) (Nat.le_refl _)⟩
  ·skip
   refine .wanted rfl rfl (.move (v := (vi t)) rfl rfl (.wanted rfl rfl (.int (m := t) (m' := 1099511627776) (r := .bool (decide (t > 1099511627776))) rfl rfl rfl rfl rfl (.Zg (v := (vb (decide (t > 1099511627776)))) rfl rfl rfl (.nil ?_)))))
   exact ⟨⟨or_F hc1, trivial⟩, H.weak (by omega) (Nat.le_refl _)⟩
 ·rintro e σ ⟨he, H⟩
  obtain ⟨e, rfl⟩ := he.ex
  refine .assign (v := (vb ((decide (t < (-1099511627776))) || (decide (t > 1099511627776))))) rfl rfl (.nila H fun H => (.ret ?_))
  subst h
  exact (Ends.H (xs := [(vb ((decide (t < (-1099511627776))) || (decide (t > 1099511627776))))]) (.inr rfl) H (.tmp (v := (vb ((decide (t < (-1099511627776))) || (decide (t > 1099511627776))))) rfl .nil) (.one (.c (.v _))))

theorem Z9P {n : Net} {ticks : (List Int)} {r : Bool} (h : Z2U n ticks = some r) : Fn CX 24 [(.agg (vs (Net.cs n))), (vl (cI .i64) ticks)] (vb r) := by
 refine Fn.ends Try.func24 rfl rfl rfl rfl rfl rfl ?_
 have H : Hs (⟨0, fun _ => .none⟩ : Heap) [] := Has.nil (Nat.le_refl _)
 generalize (⟨0, fun _ => .none⟩ : Heap) = σ at H ⊢
 unfold Z2U at h
 refine .then (.Z0 2 rfl H fun b1 σ H => (.boxH (cs := [(vi n.Vars), (vl Form.cs n.Forms), (vl Con.cs n.Cons)]) H (by omega) (by omega) rfl rfl rfl fun σ H => (.assign (v := (vb false)) rfl rfl (.nila H fun H => (.then ?_)))))
 refine .Z0 1 rfl H fun b2 σ H => (.assign (v := (.v (.fn 42))) rfl rfl (.nila H fun H => (.then (.Z0 12 rfl H fun b3 σ H => (.move (v := (vl (cI .i64) ticks)) rfl rfl ?_)))))
 refine .Z0B (c := (cI .i64)) (xs := ticks) rfl rfl rfl (.Z2 (off := 0) (fo := 0) H 0 rfl rfl rfl rfl rfl nofun rfl (.ZQ (off := 0) (v := (vi n.Vars)) H 0 rfl rfl rfl rfl rfl nofun rfl (.int (m := (ticks.length : Int)) (m' := n.Vars) (r := .bool ((ticks.length : Int) == n.Vars)) rfl rfl rfl rfl rfl (.move (v := (vb ((ticks.length : Int) == n.Vars))) rfl rfl ?_))))
 obtain ⟨y1, hj1, h⟩ := bind_some h
 refine .mid 5 (K1 := fun e σ => Z4 e [(16, (vb y1))] ∧ Has σ (b3 + 11) (b3 + 12) []) rfl ?_ ?_
 ·refine .split rfl rfl ?_ ?_ <;> intro hc1
  ·replace h := Z6 hc1 hj1
   refine .wanted rfl rfl (.move (v := (vl (cI .i64) ticks)) rfl rfl (.wanted rfl rfl (.move (v := (.v (.fn 42))) rfl rfl (.wanted rfl rfl ?_))))
   obtain ⟨x1, q1, h⟩ := bind_some h
   refine .Z6V (ys := [(vl (cI .i64) ticks), (.v (.fn 42))]) (r := (vb x1)) H rfl (Z3C (C := []) rfl (fun _ => rfl) (fun z0 y hz => (CloH.fn (Fn.toH (tag_own_1_fn (Option.some.inj hz)) _))) q1) .nil nofun rfl fun σ H => (.wanted rfl rfl (.not (b := x1) rfl rfl (.Ze (v := (vb (!x1))) rfl rfl rfl (.nil ?_))))
   replace h := sj h; subst h
   exact ⟨⟨rfl, trivial⟩, (H.erase 0).weak (by omega) (Nat.le_refl _)⟩
  ·replace h := Z7 hc1 hj1
   refine .pass rfl rfl rfl (.pass rfl rfl rfl (.pass rfl rfl rfl (.pass rfl rfl rfl (.Zg (v := (vb false)) rfl rfl rfl (.nil ?_)))))
   replace h := sj h; subst h
   exact ⟨⟨rfl, trivial⟩, (H.erase 0).weak (by omega) (Nat.le_refl _)⟩
 ·rintro e σ ⟨he, H⟩
  obtain ⟨e, rfl⟩ := he.ex
  refine .assign (v := (vb y1)) rfl rfl (.nila H fun H => (.ret ?_))
  replace h := sj h; subst h
  exact (Ends.H (xs := [(vb y1)]) (.inr rfl) H (.tmp (v := (vb y1)) rfl .nil) (.one (.c (.v _))))

theorem Z6D {n : Net} {ticks : (List Int)} {σ : Heap} {lo hi : Nat} {L : List Res} (H : Has σ lo hi L) : ∃ r σ', Z0b CX (.fn 25) [(.agg (vs (Net.cs n))), (vl (cI .i64) ticks)] σ = some (r, σ') ∧ ∃ i0' i1' : Nat, r = (.clo 44 [] [(.ptr i1' 3 0), (.ptr i0' 1 0)]) ∧ Hs σ' (.blk i0' 37 [(vl (cI .i64) ticks)] :: .blk i1' 36 [(vi n.Vars), (vl Form.cs n.Forms), (vl Con.cs n.Cons)] :: L) := by
 refine callO_of (Post := fun r σ' => ∃ i0' i1' : Nat, r = (.clo 44 [] [(.ptr i1' 3 0), (.ptr i0' 1 0)]) ∧ Hs σ' (.blk i0' 37 [(vl (cI .i64) ticks)] :: .blk i1' 36 [(vi n.Vars), (vl Form.cs n.Forms), (vl Con.cs n.Cons)] :: L)) Try.func25 rfl rfl rfl rfl rfl rfl ?_
 replace H := H.all
 refine .then (.Z0 3 rfl H fun b1 σ H => (.boxH (cs := [(vi n.Vars), (vl Form.cs n.Forms), (vl Con.cs n.Cons)]) H (by omega) (by omega) rfl rfl rfl fun σ H => (.boxH (cs := [(vl (cI .i64) ticks)]) H (by omega) (by omega) rfl rfl rfl fun σ H => (.assign (v := (.v .nilf)) rfl rfl (.nila H fun H => ?_)))))
 refine .then (.Z0 2 rfl H fun b2 σ H => (.makeClo (fs := []) (cs := [(.ptr (b1 + 0) 3 0), (.ptr (b1 + 1) 1 0)]) rfl rfl rfl rfl (.assign (v := (.clo 44 [] [(.ptr (b1 + 0) 3 0), (.ptr (b1 + 1) 1 0)])) rfl rfl (.nila H fun H => (.ret ?_)))))
 exact ⟨.inr rfl, [(.clo 44 [] [(.ptr (b1 + 0) 3 0), (.ptr (b1 + 1) 1 0)])], Z7O H (.tmp (v := (.clo 44 [] [(.ptr (b1 + 0) 3 0), (.ptr (b1 + 1) 1 0)])) rfl .nil), (b1 + 1), (b1 + 0), rfl, H.all⟩

theorem tag_met_fn {n : Net} {c : Con} {ticks : (List Int)} {r : Bool} (h : Z1Y n c ticks = some r) : Fn CX 26 [(.agg (vs (Net.cs n))), (.agg (vs (Con.cs c))), (vl (cI .i64) ticks)] (vb r) := by
 refine Fn.ends Try.func26 rfl rfl rfl rfl rfl rfl ?_
 have H : Hs (⟨0, fun _ => .none⟩ : Heap) [] := Has.nil (Nat.le_refl _)
 generalize (⟨0, fun _ => .none⟩ : Heap) = σ at H ⊢
 unfold Z1Y at h
 refine .then (.Z0 3 rfl H fun b1 σ H => (.boxH (cs := [(vi n.Vars), (vl Form.cs n.Forms), (vl Con.cs n.Cons)]) H (by omega) (by omega) rfl rfl rfl fun σ H => (.boxH (cs := [(vi c.X), (vi c.Y), (vi c.Form), (vi c.Range.Low), (vi c.Range.High), (vb c.Range.HasLow), (vb c.Range.HasHigh)]) H (by omega) (by omega) rfl rfl rfl fun σ H => (.assign (v := (vb false)) rfl rfl (.nila H fun H => ?_)))))
 refine .then (.Z2X 22 rfl (by kernel_rfl) H fun b2 σ H B2 => (.Z2 (off := 0) (fo := 1) H 1 rfl rfl rfl rfl rfl (fun _ => .inl ⟨B2 1 _ rfl _ rfl, nofun, (fun _ => by kernel_rfl)⟩) rfl (.ZQ (off := 1) (v := (vl Form.cs n.Forms)) H 1 rfl rfl rfl rfl rfl (fun _ => .inl ⟨B2 1 _ rfl _ rfl, nofun, (fun _ => by kernel_rfl)⟩) rfl (.Z2 (off := 0) (fo := 2) H 0 rfl rfl rfl rfl rfl (fun _ => .inl ⟨B2 0 _ rfl _ rfl, nofun, (fun _ => by kernel_rfl)⟩) rfl (.ZQ (off := 2) (v := (vi c.Form)) H 0 rfl rfl rfl rfl rfl (fun _ => .inl ⟨B2 0 _ rfl _ rfl, nofun, (fun _ => by kernel_rfl)⟩) rfl ?_)))))
 obtain ⟨x1, q1, h⟩ := bind_some h
 refine .Z0C (c := Form.cs) (u := x1) rfl rfl q1 rfl rfl rfl rfl (.Z2F (cs := [(.int .i64 x1.Period), (.int .i64 x1.Count), (.sl (x1.Core.map (cL Span.cs))), (.sl (x1.Odd.map Granule.cs))]) rfl rfl rfl rfl rfl rfl (.move (v := (vl (cI .i64) ticks)) rfl rfl (.Z2 (off := 0) (fo := 0) H 0 rfl rfl rfl rfl rfl (fun _ => .inl ⟨B2 0 _ rfl _ rfl, nofun, (fun _ => by kernel_rfl)⟩) rfl (.ZQ (off := 0) (v := (vi c.X)) H 0 rfl rfl rfl rfl rfl (fun _ => .inl ⟨B2 0 _ rfl _ rfl, nofun, (fun _ => by kernel_rfl)⟩) rfl ?_))))
 obtain ⟨x2, q2, h⟩ := bind_some h
 refine .Z0C (c := (cI .i64)) (u := x2) rfl rfl q2 rfl rfl rfl rfl (.Z2H (u := (.int .i64 x2)) rfl rfl rfl rfl (.move (v := (vl (cI .i64) ticks)) rfl rfl (.Z2 (off := 0) (fo := 1) H 0 rfl rfl rfl rfl rfl (fun _ => .inl ⟨B2 0 _ rfl _ rfl, nofun, (fun _ => by kernel_rfl)⟩) rfl (.ZQ (off := 1) (v := (vi c.Y)) H 0 rfl rfl rfl rfl rfl (fun _ => .inl ⟨B2 0 _ rfl _ rfl, nofun, (fun _ => by kernel_rfl)⟩) rfl ?_))))
 obtain ⟨x3, q3, h⟩ := bind_some h
 refine .Z0C (c := (cI .i64)) (u := x3) rfl rfl q3 rfl rfl rfl rfl (.Z2H (u := (.int .i64 x3)) rfl rfl rfl rfl ?_)
 obtain ⟨x4, q4, h⟩ := bind_some h
 refine .call (ys := [(.agg (vF x1)), (vi x2), (vi x3)]) (r := (.tup [(vi x4.1), (vb x4.2)])) rfl (Z3s q4) rfl (.move (v := (.tup [(vi x4.1), (vb x4.2)])) rfl rfl (.extract (v := (vi x4.1)) rfl rfl rfl (.extract (v := (vb x4.2)) rfl rfl rfl (.assign (v := (vi x4.1)) rfl rfl (.assign (v := (vb x4.2)) rfl rfl ?_)))))
 refine .nila H fun H => (.then ?_)
 obtain ⟨y1, hj1, h⟩ := bind_some h
 refine .mono (Q := fun x e σ => (∃ a1, y1 = (.go a1) ∧ x = .normal ∧ Z4 e [] ∧ Hs σ []) ∨ (∃ r', y1 = (.ret r') ∧ x = .ret ∧ Ends CX Try.f26.results.toList (vb r') x e σ)) ?_ ?_
 ·replace h := hj1
  refine .then (.Z0 4 rfl H fun b3 σ H => (.Z2 (off := 0) (fo := 3) H 0 rfl rfl rfl rfl rfl nofun rfl (.ZX (off := 3) (cs := [(vi c.Range.Low), (vi c.Range.High), (vb c.Range.HasLow), (vb c.Range.HasHigh)]) H 0 rfl rfl rfl rfl rfl rfl rfl nofun rfl (.Z0t (cs := [(vi 0), (vi 0), (vb false), (vb false)]) H (by omega) (by omega) rfl rfl fun σ H => (.Z0U (off := 0) (cells' := [(vi c.Range.Low), (vi c.Range.High), (vb c.Range.HasLow), (vb c.Range.HasHigh)]) H 0 rfl rfl rfl rfl rfl rfl rfl rfl rfl nofun fun σ H => ?_)))))
  refine .nila H fun H => (.inBlock ?_)
  obtain ⟨y2, hj2, h⟩ := bind_some h
  refine .mono (Q := fun x e σ => (∃ a2, y2 = (.go a2) ∧ x = .normal ∧ Z4 e [] ∧ Hs σ []) ∨ (∃ r', y2 = (.ret r') ∧ x = .ret ∧ Ends CX Try.f26.results.toList (vb r') x e σ)) ?_ ?_
  ·replace h := hj2
   refine .then ?_
   obtain ⟨y3, hj3, h⟩ := bind_some h
   refine .mono (Q := fun x e σ => x = .normal ∧ Z4 e [(32, (vb y3))] ∧ Hs σ []) ?_ ?_
   ·replace h := hj3
    refine .then (.Z0 3 rfl H fun b4 σ H => (.move (v := (vb x4.2)) rfl rfl (.not (b := x4.2) rfl rfl (.assign (v := (vb (!x4.2))) rfl rfl (.nila H fun H => ?_)))))
    refine .whether (v := (!x4.2)) rfl ?_ ?_ <;> intro hc1
    ·replace h := Z6 hc1 h
     refine .skip ?_
     replace h := sj h; subst h
     exact ⟨rfl, ⟨rfl, trivial⟩, (((H.erase 2).erase 1).erase 0)⟩
    ·replace h := Z7 hc1 h
     refine .then (.Z0 9 rfl H fun b5 σ H => (.Z2 (off := 0) (fo := 2) H 0 rfl rfl rfl rfl rfl nofun rfl (.ZQ (off := 2) (v := (vb c.Range.HasLow)) H 0 rfl rfl rfl rfl rfl nofun rfl (.move (v := (vb c.Range.HasLow)) rfl rfl ?_))))
     refine .mid 5 (K1 := fun e σ => Z4 e [(42, (vb (c.Range.HasLow && (decide (x4.1 < c.Range.Low))))), (7, (vi x4.1)), (9, (.ptr (b3 + 2) 4 0))] ∧ Has σ (b5 + 8) (b5 + 9) [.blk (b3 + 2) 45 [(vi c.Range.Low), (vi c.Range.High), (vb c.Range.HasLow), (vb c.Range.HasHigh)]]) rfl ?_ ?_
     ·refine .split rfl rfl ?_ ?_ <;> intro hc2
      ·skip
       refine .wanted rfl rfl (.move (v := (vi x4.1)) rfl rfl (.wanted rfl rfl (.Z2 (off := 0) (fo := 0) H 0 rfl rfl rfl rfl rfl nofun rfl (.wanted rfl rfl (.ZQ (off := 0) (v := (vi c.Range.Low)) H 0 rfl rfl rfl rfl rfl nofun rfl ?_)))))
       refine .wanted rfl rfl (.int (m := x4.1) (m' := c.Range.Low) (r := .bool (decide (x4.1 < c.Range.Low))) rfl rfl rfl rfl rfl (.Ze (v := (vb (decide (x4.1 < c.Range.Low)))) rfl rfl rfl (.nil ?_)))
       exact ⟨⟨Z1D hc2, rfl, rfl, trivial⟩, ((H.erase 2).erase 1).weak (by omega) (Nat.le_refl _)⟩
      ·skip
       refine .pass rfl rfl rfl (.pass rfl rfl rfl (.pass rfl rfl rfl (.pass rfl rfl rfl (.Zg (v := (vb false)) rfl rfl rfl (.nil ?_)))))
       exact ⟨⟨Z1E hc2, rfl, rfl, trivial⟩, ((H.erase 2).erase 1).weak (by omega) (Nat.le_refl _)⟩
     ·rintro e σ ⟨he, H⟩
      obtain ⟨e, rfl⟩ := he.ex
      refine .assign (v := (vb (c.Range.HasLow && (decide (x4.1 < c.Range.Low))))) rfl rfl (.nila H fun H => ?_)
      refine .whether (v := (c.Range.HasLow && (decide (x4.1 < c.Range.Low)))) rfl ?_ ?_ <;> intro hc3
      ·replace h := Z6 hc3 h
       refine .skip ?_
       replace h := sj h; subst h
       exact ⟨rfl, ⟨rfl, trivial⟩, (H.erase 0)⟩
      ·replace h := Z7 hc3 h
       refine .Z0 9 rfl H fun b6 σ H => (.Z2 (off := 0) (fo := 3) H 0 rfl rfl rfl rfl rfl nofun rfl (.ZQ (off := 3) (v := (vb c.Range.HasHigh)) H 0 rfl rfl rfl rfl rfl nofun rfl (.move (v := (vb c.Range.HasHigh)) rfl rfl ?_)))
       refine .mid 5 (K1 := fun e σ => Z4 e [(50, (vb (c.Range.HasHigh && (decide (x4.1 > c.Range.High)))))] ∧ Has σ (b6 + 8) (b6 + 9) []) rfl ?_ ?_
       ·refine .split rfl rfl ?_ ?_ <;> intro hc4
        ·skip
         refine .wanted rfl rfl (.move (v := (vi x4.1)) rfl rfl (.wanted rfl rfl (.Z2 (off := 0) (fo := 1) H 0 rfl rfl rfl rfl rfl nofun rfl (.wanted rfl rfl (.ZQ (off := 1) (v := (vi c.Range.High)) H 0 rfl rfl rfl rfl rfl nofun rfl ?_)))))
         refine .wanted rfl rfl (.int (m := x4.1) (m' := c.Range.High) (r := .bool (decide (x4.1 > c.Range.High))) rfl rfl rfl rfl rfl (.Ze (v := (vb (decide (x4.1 > c.Range.High)))) rfl rfl rfl (.nil ?_)))
         exact ⟨⟨Z1D hc4, trivial⟩, (H.erase 0).weak (by omega) (Nat.le_refl _)⟩
        ·skip
         refine .pass rfl rfl rfl (.pass rfl rfl rfl (.pass rfl rfl rfl (.pass rfl rfl rfl (.Zg (v := (vb false)) rfl rfl rfl (.nil ?_)))))
         exact ⟨⟨Z1E hc4, trivial⟩, (H.erase 0).weak (by omega) (Nat.le_refl _)⟩
       ·rintro e σ ⟨he, H⟩
        obtain ⟨e, rfl⟩ := he.ex
        refine .assign (v := (vb (c.Range.HasHigh && (decide (x4.1 > c.Range.High))))) rfl rfl (.nila H fun H => ?_)
        replace h := sj h; subst h
        exact ⟨rfl, ⟨rfl, trivial⟩, H⟩
   ·rintro x e σ ⟨rfl, he, H⟩
    obtain ⟨e, rfl⟩ := he.ex
    refine .whether (v := y3) rfl ?_ ?_ <;> intro hc5
    ·replace h := Z6 hc5 h
     refine .then (.Z0 1 rfl H fun b7 σ H => (.assign (v := (vb false)) rfl rfl (.nila H fun H => (.ret ?_))))
     replace h := sj h; subst h
     exact (.inr ⟨_, rfl, rfl, (Ends.H (xs := [(vb false)]) (.inr rfl) H (.tmp (v := (vb false)) rfl .nil) (.one (.c (.v _))))⟩)
    ·replace h := Z7 hc5 h
     refine .skip ?_
     replace h := sj h; subst h
     exact (.inl ⟨_, rfl, rfl, trivial, H⟩)
  ·rintro x e σ (⟨a3, rfl, rfl, he, H⟩ | ⟨r', rfl, rfl, hE⟩)
   ·skip
    replace h := jgo h
    obtain ⟨e, rfl⟩ := he.ex
    replace h := sj h; subst h
    exact (.inl ⟨_, rfl, rfl, trivial, H⟩)
   ·skip
    replace h := jret h
    replace h := sj h; subst h
    exact (.inr ⟨_, rfl, rfl, hE⟩)
 ·rintro x e σ (⟨a4, rfl, rfl, he, H⟩ | ⟨r', rfl, rfl, hE⟩)
  ·skip
   replace h := jgo h
   obtain ⟨e, rfl⟩ := he.ex
   refine .then (.Z0 1 rfl H fun b8 σ H => (.assign (v := (vb true)) rfl rfl (.nila H fun H => (.ret ?_))))
   replace h := sj h; subst h
   exact (Ends.H (xs := [(vb true)]) (.inr rfl) H (.tmp (v := (vb true)) rfl .nil) (.one (.c (.v _))))
  ·skip
   replace h := jret h
   replace h := sj h; subst h
   exact hE

theorem Z54 {p1' : Net} {p2' : (List Int)} {S : Type} {C : S → List Res → Prop} {yield : S → Int → Option (S × Bool)} {yid : Nat} {id0' : Nat} {id1' : Nat} (hy : YldH CX yid C (fun z => [(vi z)]) yield) (hcap : ∀ s L, C s L → Sub [.blk id0' 36 [(vi p1'.Vars), (vl Form.cs p1'.Forms), (vl Con.cs p1'.Cons)], .blk id1' 37 [(vl (cI .i64) p2')]] L) {st' r : S} (h : Zl p1' p2' yield st' = some r) : ItF CX 44 [(.yld yid), (.ptr id0' 3 0), (.ptr id1' 1 0)] C st' r := by
 refine ItF.of Try.func44 rfl rfl rfl rfl rfl rfl rfl rfl ?_
 intro σ L hC H
 have hc0 := hcap _ _ hC
 obtain ⟨k0', hk0', hc0⟩ := hc0.inv
 obtain ⟨k1', hk1', hc0⟩ := hc0.inv
 unfold Zl at h
 refine .then (.Z0 4 rfl H fun b1 σ H => (.Z2 (off := 0) (fo := 2) H k0' hk0' rfl rfl rfl rfl nofun rfl (.ZQ (off := 2) (v := (vl Con.cs p1'.Cons)) H k0' hk0' rfl rfl rfl rfl nofun rfl (.Z0B (c := Con.cs) (xs := p1'.Cons) rfl rfl rfl (.move (v := (vi 0)) rfl rfl ?_)))))
 refine .nila H fun H => (.inBlock ?_)
 obtain ⟨y1, hj1, h⟩ := bind_some h
 obtain ⟨n1, hj1⟩ := Zc.1 hj1
 refine .mono (Runs.ZJ hj1 (fun s1 e σ => ∃ (L : List Res), C s1.2 L ∧ Z4 e [(0, (.yld yid)), (1, (.ptr id0' 3 0)), (2, (.ptr id1' 1 0)), (7, (vl Con.cs p1'.Cons)), (8, (vi (p1'.Cons.length : Int))), (9, (vi s1.1))] ∧ Hs σ (L)) (fun y1 x e σ => (∃ a1, ∃ (L : List Res), C a1 L ∧ y1 = (.go a1) ∧ x = .exit 0 ∧ Z4 e [] ∧ Hs σ (L)) ∨ (∃ r', y1 = (.ret r') ∧ x = .ret ∧ EndsI C r' x e σ)) ⟨_, hC, ⟨rfl, rfl, rfl, rfl, rfl, rfl, trivial⟩, H⟩ ?_) ?_
 ·intro s1 e σ hI z h
  obtain ⟨L, hC, he, H⟩ := hI
  obtain ⟨e, rfl⟩ := he.ex
  have hc0 := hcap _ _ hC
  obtain ⟨k0', hk0', hc0⟩ := hc0.inv
  obtain ⟨k1', hk1', hc0⟩ := hc0.inv
  unfold Zl.s0 at h
  refine .then (.Z0 1 rfl H fun b2 σ H => (.int (m := s1.1) (m' := (p1'.Cons.length : Int)) (r := .bool (decide (s1.1 < (p1'.Cons.length : Int)))) rfl rfl rfl rfl rfl (.nila H fun H => (.then ?_))))
  refine .whether (v := (decide (s1.1 < (p1'.Cons.length : Int)))) rfl ?_ ?_ <;> intro hc1
  ·replace h := Z6 hc1 h
   refine .skip (.then (.inBlock (.then (.Z0 6 rfl H fun b3 σ H => (.move (v := (vi s1.1)) rfl rfl ?_)))))
   obtain ⟨x1, q1, h⟩ := bind_some h
   refine .Z0C (c := Con.cs) (u := x1) rfl rfl q1 rfl rfl rfl rfl (.Z2F (cs := [(.int .i64 x1.X), (.int .i64 x1.Y), (.int .i64 x1.Form), (.int .i64 x1.Range.Low), (.int .i64 x1.Range.High), (.bool x1.Range.HasLow), (.bool x1.Range.HasHigh)]) rfl rfl rfl rfl rfl rfl (.Z0t (cs := [(vi 0), (vi 0), (vi 0), (vi 0), (vi 0), (vb false), (vb false)]) H (by omega) (by omega) rfl rfl fun σ H => (.assign (v := (vi s1.1)) rfl rfl (.Z0U (off := 0) (cells' := [(vi x1.X), (vi x1.Y), (vi x1.Form), (vi x1.Range.Low), (vi x1.Range.High), (vb x1.Range.HasLow), (vb x1.Range.HasHigh)]) H 0 rfl rfl rfl rfl rfl rfl rfl rfl rfl nofun fun σ H => (.nila H fun H => ?_)))))
   refine .then (.Z0 11 rfl H fun b4 σ H => (.ZX (off := 0) (cs := [(vi p1'.Vars), (vl Form.cs p1'.Forms), (vl Con.cs p1'.Cons)]) H (k0' + 1) hk0' rfl rfl rfl rfl rfl rfl nofun rfl (.ZX (off := 0) (cs := [(vi x1.X), (vi x1.Y), (vi x1.Form), (vi x1.Range.Low), (vi x1.Range.High), (vb x1.Range.HasLow), (vb x1.Range.HasHigh)]) H 0 rfl rfl rfl rfl rfl rfl rfl nofun rfl (.ZQ (off := 0) (v := (vl (cI .i64) p2')) H (k1' + 1) hk1' rfl rfl rfl rfl nofun rfl ?_))))
   obtain ⟨x2, q2, h⟩ := bind_some h
   refine .call (ys := [(.agg [(vi p1'.Vars), (vl Form.cs p1'.Forms), (vl Con.cs p1'.Cons)]), (.agg [(vi x1.X), (vi x1.Y), (vi x1.Form), (vi x1.Range.Low), (vi x1.Range.High), (vb x1.Range.HasLow), (vb x1.Range.HasHigh)]), (vl (cI .i64) p2')]) (r := (vb x2)) rfl (tag_met_fn q2) rfl (.not (b := x2) rfl rfl (.move (v := (vb (!x2))) rfl rfl ?_))
   obtain ⟨y2, hj2, h⟩ := bind_some h
   refine .mid 5 (K1 := fun e σ => ∃ L, C y2.2 L ∧ Z4 e [(24, (vb y2.1)), (0, (.yld yid)), (1, (.ptr id0' 3 0)), (2, (.ptr id1' 1 0)), (7, (vl Con.cs p1'.Cons)), (8, (vi (p1'.Cons.length : Int))), (9, (vi s1.1))] ∧ Hs σ (L)) rfl ?_ ?_
   ·refine .split rfl rfl ?_ ?_ <;> intro hc2
    ·replace h := Z6 hc2 hj2
     refine .wanted rfl rfl (.move (v := (.yld yid)) rfl rfl (.wanted rfl rfl (.move (v := (vi s1.1)) rfl rfl (.wanted rfl rfl ?_))))
     obtain ⟨x3, q3, h⟩ := bind_some h
     refine .callY (z := s1.1) (s' := x3.1) (b := x3.2) [.blk (b3 + 3) 48 [(vi x1.X), (vi x1.Y), (vi x1.Form), (vi x1.Range.Low), (vi x1.Range.High), (vb x1.Range.HasLow), (vb x1.Range.HasHigh)]] H hC rfl rfl hy q3 rfl rfl fun σ L hC H => ?_
     have hc0 := hcap _ _ hC
     obtain ⟨k0', hk0', hc0⟩ := hc0.inv
     obtain ⟨k1', hk1', hc0⟩ := hc0.inv
     refine .wanted rfl rfl (.not (b := x3.2) rfl rfl (.Ze (v := (vb (!x3.2))) rfl rfl rfl (.nil ?_)))
     replace h := sj h; subst h
     exact ⟨_, hC, ⟨rfl, rfl, rfl, rfl, rfl, rfl, rfl, trivial⟩, (H.erase 0).all⟩
    ·replace h := Z7 hc2 hj2
     refine .pass rfl rfl rfl (.pass rfl rfl rfl (.pass rfl rfl rfl (.pass rfl rfl rfl (.Zg (v := (vb false)) rfl rfl rfl (.nil ?_)))))
     replace h := sj h; subst h
     exact ⟨_, hC, ⟨rfl, rfl, rfl, rfl, rfl, rfl, rfl, trivial⟩, (H.erase 0).all⟩
   ·rintro e σ ⟨L, hC, he, H⟩
    obtain ⟨e, rfl⟩ := he.ex
    have hc0 := hcap _ _ hC
    obtain ⟨k0', hk0', hc0⟩ := hc0.inv
    obtain ⟨k1', hk1', hc0⟩ := hc0.inv
    refine .nila H fun H => ?_
    refine .whether (v := y2.1) rfl ?_ ?_ <;> intro hc3
    ·replace h := Z6 hc3 h
     refine .ret ?_
     replace h := sj h; subst h
     exact ⟨nofun, (.inr ⟨_, rfl, rfl, (EndsI.H (.inr rfl) H 0 rfl hC)⟩)⟩
    ·replace h := Z7 hc3 h
     refine .skip (.Z0 2 rfl H fun b5 σ H => (.int (m := s1.1) (m' := 1) (r := .int .i64 (w64 (s1.1 + 1))) rfl rfl rfl rfl rfl (.move (v := (vi (w64 (s1.1 + 1)))) rfl rfl (.nila H fun H => ?_))))
     replace h := sj h; subst h
     exact ⟨rfl, _, hC, ⟨rfl, rfl, rfl, rfl, rfl, rfl, trivial⟩, H⟩
  ·replace h := Z7 hc1 h
   refine .exit ?_
   replace h := sj h; subst h
   exact ⟨nofun, (.inl ⟨_, _, hC, rfl, rfl, trivial, H⟩)⟩
 ·rintro x e σ (⟨a2, L, hC, rfl, rfl, he, H⟩ | ⟨r', rfl, rfl, hE⟩)
  ·skip
   replace h := jgo h
   obtain ⟨e, rfl⟩ := he.ex
   have hc0 := hcap _ _ hC
   obtain ⟨k0', hk0', hc0⟩ := hc0.inv
   obtain ⟨k1', hk1', hc0⟩ := hc0.inv
   replace h := sj h; subst h
   exact (EndsI.H (.inl rfl) H 0 rfl hC)
  ·skip
   replace h := jret h
   replace h := sj h; subst h
   exact hE

theorem Z1I {n : Net} {ticks : (List Int)} {r : (List Int) × Int} (h : Zy n ticks = some r) : FnO CX 11 [(.agg (vs (Net.cs n))), (vl (cI .i64) ticks)] (fun q A => ∃ (w6 : PV), q = (.tup [w6, (vi r.2)]) ∧ A = [.sl w6 3 1 (r.1.map (cI .i64)) true]) := by
 refine FnO.of Try.func11 rfl rfl rfl rfl rfl rfl ?_
 intro σ T H
 unfold Zy at h
 refine .then (.Z0 3 rfl H fun b1 σ H => (.boxH (cs := [(vi n.Vars), (vl Form.cs n.Forms), (vl Con.cs n.Cons)]) H (by omega) (by omega) rfl rfl rfl fun σ H => (.assign (v := .nils) rfl rfl (.assign (v := (vi 0)) rfl rfl (.nila H fun H => ?_)))))
 refine .then (.then (.Z0 4 rfl H fun b2 σ H => (.ZX (off := 0) (cs := [(vi n.Vars), (vl Form.cs n.Forms), (vl Con.cs n.Cons)]) H 0 rfl rfl rfl rfl rfl rfl rfl nofun rfl (.move (v := (vl (cI .i64) ticks)) rfl rfl ?_))))
 obtain ⟨x1, q1, h⟩ := bind_some h
 refine .call (ys := [(.agg [(vi n.Vars), (vl Form.cs n.Forms), (vl Con.cs n.Cons)]), (vl (cI .i64) ticks)]) (r := (vb x1)) rfl (Z9P q1) rfl (.not (b := x1) rfl rfl (.nila H fun H => ?_))
 refine .whether (v := (!x1)) rfl ?_ ?_ <;> intro hc1
 ·replace h := Z6 hc1 h
  refine .then (.Z0 2 rfl H fun b3 σ H => (.assign (v := .nils) rfl rfl (.assign (v := (vi 230)) rfl rfl (.nila H fun H => (.ret ?_)))))
  replace H := H.pushNil 3 1 true
  replace h := sj h; subst h
  exact ⟨.inr rfl, _, Z7O H (.tmp (v := .nils) rfl (.tmp (v := (vi 230)) rfl .nil)), _, ⟨.nils, rfl, rfl⟩, (H.erase 1)⟩
 ·replace h := Z7 hc1 h
  refine .skip (.then (.Z0 1 rfl H fun b4 σ H => (.Z0t (cs := [.nils]) H (by omega) (by omega) rfl rfl fun σ H => (.nila H fun H => (.then ?_)))))
  refine .then (.Z0 3 rfl H fun b5 σ H => (.ZX (off := 0) (cs := [(vi n.Vars), (vl Form.cs n.Forms), (vl Con.cs n.Cons)]) H 1 rfl rfl rfl rfl rfl rfl rfl nofun rfl (.move (v := (vl (cI .i64) ticks)) rfl rfl ?_)))
  refine .callO (ys := [(.agg (vs (Net.cs n))), (vl (cI .i64) ticks)]) rfl (Z6D H) nofun rfl ?_; rintro _ σ ⟨id1, id2, rfl, H⟩
  refine .nila H fun H => (.inBlock ?_)
  replace H := H.pushNil 3 1 true
  replace H := (H.erase 4)
  obtain ⟨y1, hj1, h⟩ := bind_some h
  refine .rangeH H rfl (fun s2 M => ∃ (w3 : PV), M = (.sl w3 3 1 (s2.map (cI .i64)) true :: .blk id1 37 [(vl (cI .i64) ticks)] :: .blk id2 36 [(vi n.Vars), (vl Form.cs n.Forms), (vl Con.cs n.Cons)] :: .blk (b4 + 0) 37 [w3] :: T)) (fun z2 => [(vi z2)]) Zy.b0 (fun p => none) rfl (fun p => ⟨_, rfl⟩) (r := y1) ⟨.nils, rfl⟩ (fun _ => rfl) (fun _ => rfl) ?_ (fun id hy => Z54 hy (fun s L hL => by obtain ⟨M, hM, rfl⟩ := hL; obtain ⟨_, rfl⟩ := hM; exact (.cons 3 rfl (.cons 2 rfl .nil))) hj1) ?_
  ·intro R0 R1 s2 z2 s' p h σ M O hM H
   obtain ⟨w3, rfl⟩ := hM
   unfold Zy.b0 at h
   refine .env [(15, (vi z2)), (4, .nils), (5, (vi 0)), (6, (.ptr (b4 + 0) 1 0)), (14, (.clo 44 [] [(.ptr id2 3 0), (.ptr id1 1 0)]))] ⟨rfl, rfl, rfl, rfl, rfl, trivial⟩ fun e => (.Z0 1 rfl H fun b6 σ H => (.assign (v := (vi z2)) rfl rfl (.nila H fun H => ?_)))
   refine ⟨rfl, (.sl w3 3 1 (s2.map (cI .i64)) true :: .blk id1 37 [(vl (cI .i64) ticks)] :: .blk id2 36 [(vi n.Vars), (vl Form.cs n.Forms), (vl Con.cs n.Cons)] :: .blk (b4 + 0) 37 [w3] :: T), H, ?_⟩; intro σ H
   refine .inBlock (.Z0 5 rfl H fun b7 σ H => (.ZQ (off := 0) (v := w3) H 4 rfl rfl rfl rfl rfl nofun rfl (.move (v := (vi z2)) rfl rfl (.Z2o (sz := 1) ([z2].map (cI .i64)) H (by omega) (by omega) rfl rfl rfl rfl rfl rfl rfl rfl rfl fun σ H => ?_))))
   obtain ⟨x2, q2, h⟩ := bind_some h
   refine .Z5u (c := (cI .i64)) (v := w3) (w := (.buf (b7 + 2) 1 1)) (xs := s2) (ys := [z2]) H (by omega) (by omega) 2 rfl rfl rfl (.s 0 rfl) q2 rfl rfl rfl rfl rfl nofun rfl fun w4 σ H => (.Z0U (off := 0) (v := w4) (ys := [w4]) (cells' := [w4]) H 5 rfl rfl rfl rfl (H.slCells (k := 2) rfl) rfl rfl rfl rfl nofun fun σ H => (.nila H fun H => ?_))
   obtain ⟨rfl, rfl⟩ := Prod.mk.inj (Option.some.inj h)
   exact ⟨⟨rfl, (iff_of_true rfl rfl)⟩, _, ⟨w4, rfl⟩, (H.erase 0)⟩
  ·intro x σ M hx hM H
   obtain ⟨w5, rfl⟩ := hM
   cases hx
   refine .then (.Z0 3 rfl H fun b8 σ H => (.ZQ (off := 0) (v := w5) H 3 rfl rfl rfl rfl rfl nofun rfl (.assign (v := w5) rfl rfl (.assign (v := (vi 0)) rfl rfl (.nila H fun H => ?_)))))
   refine .ret ?_
   replace h := sj h; subst h
   exact ⟨.inr rfl, _, Z7O H (.tmp (v := w5) rfl (.tmp (v := (vi 0)) rfl .nil)), _, ⟨w5, rfl, rfl⟩, (((H.erase 3).erase 2).erase 1)⟩

theorem Z40 {i : Int} {many : Int} {r : Bool} (h : ZT i many = r) : Fn CX 36 [(vi i), (vi many)] (vb r) := by
 refine Fn.ends Try.func36 rfl rfl rfl rfl rfl rfl ?_
 have H : Hs (⟨0, fun _ => .none⟩ : Heap) [] := Has.nil (Nat.le_refl _)
 generalize (⟨0, fun _ => .none⟩ : Heap) = σ at H ⊢
 unfold ZT at h
 refine .then (.Z0 1 rfl H fun b1 σ H => (.assign (v := (vb false)) rfl rfl (.nila H fun H => (.then (.Z0 8 rfl H fun b2 σ H => ?_)))))
 refine .move (v := (vi i)) rfl rfl (.int (m := i) (m' := 0) (r := .bool (decide (i ≥ 0))) rfl rfl rfl rfl rfl (.move (v := (vb (decide (i ≥ 0)))) rfl rfl ?_))
 refine .mid 4 (K1 := fun e σ => Z4 e [(11, (vb ((decide (i ≥ 0)) && (decide (i < many)))))] ∧ Has σ (b2 + 7) (b2 + 8) []) rfl ?_ ?_
 ·refine .split rfl rfl ?_ ?_ <;> intro hc1
  ·skip
   refine .wanted rfl rfl (.move (v := (vi i)) rfl rfl (.wanted rfl rfl (.move (v := (vi many)) rfl rfl (.wanted rfl rfl (.int (m := i) (m' := many) (r := .bool (decide (i < many))) rfl rfl rfl rfl rfl ?_)))))
   refine .Ze (v := (vb (decide (i < many)))) rfl rfl rfl (.nil ?_)
   exact ⟨⟨Z1D hc1, trivial⟩, H.weak (by omega) (Nat.le_refl _)⟩
  ·skip
   refine .pass rfl rfl rfl (.pass rfl rfl rfl (.pass rfl rfl rfl (.Zg (v := (vb false)) rfl rfl rfl (.nil ?_))))
   exact ⟨⟨Z1E hc1, trivial⟩, H.weak (by omega) (Nat.le_refl _)⟩
 ·rintro e σ ⟨he, H⟩
  obtain ⟨e, rfl⟩ := he.ex
  refine .assign (v := (vb ((decide (i ≥ 0)) && (decide (i < many))))) rfl rfl (.nila H fun H => (.ret ?_))
  subst h
  exact (Ends.H (xs := [(vb ((decide (i ≥ 0)) && (decide (i < many))))]) (.inr rfl) H (.tmp (v := (vb ((decide (i ≥ 0)) && (decide (i < many))))) rfl .nil) (.one (.c (.v _))))

theorem Z3S {s : (List Form)} {f : Form → Option Bool} {C : List Res} {cv0 : PV} (hs0 : cv0.still = true) (hp0 : cv0.pure = true → C = []) (hf0 : ∀ z0 y, f z0 = some y → CloH CX cv0 [(.agg (vs (Form.cs z0)))] (vb y) C) {r : Int} (h : ZL s f = some r) : FnH CX 50 [(vl Form.cs s), cv0] (vi r) C := by
 refine FnH.of Try.func50 rfl rfl rfl rfl (Z2W rfl (Z2W hs0 all_nil)) rfl (fun h => hp0 (Z39 h 1 rfl)) ?_
 intro σ L hC H
 unfold ZL at h
 refine .then (.Z0 1 rfl H fun b1 σ H => (.assign (v := (vi 0)) rfl rfl (.nila H fun H => (.then (.then ?_)))))
 refine .Z0 3 rfl H fun b2 σ H => (.move (v := (vl Form.cs s)) rfl rfl (.Z0B (c := Form.cs) (xs := s) rfl rfl rfl (.move (v := (vi 0)) rfl rfl (.nila H fun H => (.inBlock ?_)))))
 obtain ⟨y1, hj1, h⟩ := bind_some h
 obtain ⟨n1, hj1⟩ := Zc.1 hj1
 refine .mono (Runs.ZJ hj1 (fun s1 e σ => Z4 e [(0, (vl Form.cs s)), (1, cv0), (7, (vi (s.length : Int))), (8, (vi s1))] ∧ Hs σ (L)) (fun y1 x e σ => (∃ a1, y1 = (.go a1) ∧ x = .exit 0 ∧ Z4 e [] ∧ Hs σ (L)) ∨ (∃ r', y1 = (.ret r') ∧ x = .ret ∧ EndsH CX Try.f50.results.toList (vi r') L x e σ)) ⟨⟨rfl, rfl, rfl, rfl, trivial⟩, H⟩ ?_) ?_
 ·intro s1 e σ hI z h
  obtain ⟨he, H⟩ := hI
  obtain ⟨e, rfl⟩ := he.ex
  unfold ZL.s0 at h
  refine .then (.Z0 1 rfl H fun b3 σ H => (.int (m := s1) (m' := (s.length : Int)) (r := .bool (decide (s1 < (s.length : Int)))) rfl rfl rfl rfl rfl (.nila H fun H => (.then ?_))))
  refine .whether (v := (decide (s1 < (s.length : Int)))) rfl ?_ ?_ <;> intro hc1
  ·replace h := Z6 hc1 h
   refine .skip (.then (.inBlock (.then (.Z0 2 rfl H fun b4 σ H => (.move (v := (vi s1)) rfl rfl ?_)))))
   refine .assign (v := (vi s1)) rfl rfl (.nila H fun H => (.then (.Z0 6 rfl H fun b5 σ H => (.move (v := cv0) rfl rfl (.move (v := (vl Form.cs s)) rfl rfl ?_)))))
   refine .move (v := (vi s1)) rfl rfl ?_
   obtain ⟨x1, q1, h⟩ := bind_some h
   refine .Z0C (c := Form.cs) (u := x1) rfl rfl q1 rfl rfl rfl rfl (.Z2F (cs := [(.int .i64 x1.Period), (.int .i64 x1.Count), (.sl (x1.Core.map (cL Span.cs))), (.sl (x1.Odd.map Granule.cs))]) rfl rfl rfl rfl rfl rfl ?_)
   obtain ⟨x2, q2, h⟩ := bind_some h
   refine .callV (cv := cv0) (ys := [(.agg (vs (Form.cs x1)))]) (r := (vb x2)) H rfl rfl (hf0 x1 _ q2) hC nofun rfl fun σ H => (.nila H fun H => ?_)
   refine .whether (v := x2) rfl ?_ ?_ <;> intro hc2
   ·replace h := Z6 hc2 h
    refine .then (.Z0 2 rfl H fun b6 σ H => (.move (v := (vi s1)) rfl rfl (.assign (v := (vi s1)) rfl rfl (.nila H fun H => (.ret ?_)))))
    replace h := sj h; subst h
    exact ⟨nofun, (.inr ⟨_, rfl, rfl, (EndsH.H (xs := [(vi s1)]) (.inr rfl) H (.tmp (v := (vi s1)) rfl .nil) (.one (.c (.v _))) 0 rfl)⟩)⟩
   ·replace h := Z7 hc2 h
    refine .skip (.Z0 2 rfl H fun b7 σ H => (.int (m := s1) (m' := 1) (r := .int .i64 (w64 (s1 + 1))) rfl rfl rfl rfl rfl (.move (v := (vi (w64 (s1 + 1)))) rfl rfl (.nila H fun H => ?_))))
    replace h := sj h; subst h
    exact ⟨rfl, ⟨rfl, rfl, rfl, rfl, trivial⟩, H⟩
  ·replace h := Z7 hc1 h
   refine .exit ?_
   replace h := sj h; subst h
   exact ⟨nofun, (.inl ⟨_, rfl, rfl, trivial, H⟩)⟩
 ·rintro x e σ (⟨a2, rfl, rfl, he, H⟩ | ⟨r', rfl, rfl, hE⟩)
  ·skip
   replace h := jgo h
   obtain ⟨e, rfl⟩ := he.ex
   refine .then (.Z0 1 rfl H fun b8 σ H => (.assign (v := (vi (-1))) rfl rfl (.nila H fun H => (.ret ?_))))
   replace h := sj h; subst h
   exact (EndsH.H (xs := [(vi (-1))]) (.inr rfl) H (.tmp (v := (vi (-1))) rfl .nil) (.one (.c (.v _))) 0 rfl)
  ·skip
   replace h := jret h
   replace h := sj h; subst h
   exact hE

theorem Z2w {s : (List Form)} {f : Form → Option Bool} {C : List Res} {cv0 : PV} (hs0 : cv0.still = true) (hp0 : cv0.pure = true → C = []) (hf0 : ∀ z0 y, f z0 = some y → CloH CX cv0 [(.agg (vs (Form.cs z0)))] (vb y) C) {r : Bool} (h : Zi s f = some r) : FnH CX 37 [(vl Form.cs s), cv0] (vb r) C := by
 refine FnH.of Try.func37 rfl rfl rfl rfl (Z2W rfl (Z2W hs0 all_nil)) rfl (fun h => hp0 (Z39 h 1 rfl)) ?_
 intro σ L hC H
 unfold Zi at h
 refine .then (.Z0 1 rfl H fun b1 σ H => (.assign (v := (vb false)) rfl rfl (.nila H fun H => (.then (.Z0 5 rfl H fun b2 σ H => ?_)))))
 refine .move (v := (vl Form.cs s)) rfl rfl (.move (v := cv0) rfl rfl ?_)
 obtain ⟨x1, q1, h⟩ := bind_some h
 refine .Z6V (ys := [(vl Form.cs s), cv0]) (r := (vi x1)) H rfl (Z3S (C := C) hs0 hp0 hf0 q1) hC nofun rfl fun σ H => (.int (m := x1) (m' := 0) (r := .bool (decide (x1 ≥ 0))) rfl rfl rfl rfl rfl (.assign (v := (vb (decide (x1 ≥ 0)))) rfl rfl (.nila H fun H => (.ret ?_))))
 replace h := sj h; subst h
 exact (EndsH.H (xs := [(vb (decide (x1 ≥ 0)))]) (.inr rfl) H (.tmp (v := (vb (decide (x1 ≥ 0)))) rfl .nil) (.one (.c (.v _))) 0 rfl)

theorem Z9e {f : Form} {r : Bool} (h : Z1i f = some r) : Fn CX 35 [(.agg (vs (Form.cs f)))] (vb r) := by
 refine Fn.ends Try.func35 rfl rfl rfl rfl rfl rfl ?_
 have H : Hs (⟨0, fun _ => .none⟩ : Heap) [] := Has.nil (Nat.le_refl _)
 generalize (⟨0, fun _ => .none⟩ : Heap) = σ at H ⊢
 unfold Z1i at h
 refine .then (.Z0 2 rfl H fun b1 σ H => (.boxH (cs := (vF f)) H (by omega) (by omega) rfl rfl rfl fun σ H => (.assign (v := (vb false)) rfl rfl (.nila H fun H => (.then ?_)))))
 refine .Z0 4 rfl H fun b2 σ H => (.ZX (off := 0) (cs := (vF f)) H 0 rfl rfl rfl rfl rfl rfl rfl nofun rfl ?_)
 obtain ⟨x1, q1, h⟩ := bind_some h
 refine .call (ys := [(.agg (vF f))]) (r := (vi x1)) rfl (Z6U q1) rfl (.int (m := x1) (m' := 0) (r := .bool (x1 != 0)) rfl rfl rfl rfl rfl (.assign (v := (vb (x1 != 0))) rfl rfl (.nila H fun H => (.ret ?_))))
 replace h := sj h; subst h
 exact (Ends.H (xs := [(vb (x1 != 0))]) (.inr rfl) H (.tmp (v := (vb (x1 != 0))) rfl .nil) (.one (.c (.v _))))

theorem Z3q {s : (List Con)} {f : Con → Option Bool} {C : List Res} {cv0 : PV} (hs0 : cv0.still = true) (hp0 : cv0.pure = true → C = []) (hf0 : ∀ z0 y, f z0 = some y → CloH CX cv0 [(.agg (vs (Con.cs z0)))] (vb y) C) {r : Int} (h : ZN s f = some r) : FnH CX 51 [(vl Con.cs s), cv0] (vi r) C := by
 refine FnH.of Try.func51 rfl rfl rfl rfl (Z2W rfl (Z2W hs0 all_nil)) rfl (fun h => hp0 (Z39 h 1 rfl)) ?_
 intro σ L hC H
 unfold ZN at h
 refine .then (.Z0 1 rfl H fun b1 σ H => (.assign (v := (vi 0)) rfl rfl (.nila H fun H => (.then (.then ?_)))))
 refine .Z0 3 rfl H fun b2 σ H => (.move (v := (vl Con.cs s)) rfl rfl (.Z0B (c := Con.cs) (xs := s) rfl rfl rfl (.move (v := (vi 0)) rfl rfl (.nila H fun H => (.inBlock ?_)))))
 obtain ⟨y1, hj1, h⟩ := bind_some h
 obtain ⟨n1, hj1⟩ := Zc.1 hj1
 refine .mono (Runs.ZJ hj1 (fun s1 e σ => Z4 e [(0, (vl Con.cs s)), (1, cv0), (7, (vi (s.length : Int))), (8, (vi s1))] ∧ Hs σ (L)) (fun y1 x e σ => (∃ a1, y1 = (.go a1) ∧ x = .exit 0 ∧ Z4 e [] ∧ Hs σ (L)) ∨ (∃ r', y1 = (.ret r') ∧ x = .ret ∧ EndsH CX Try.f51.results.toList (vi r') L x e σ)) ⟨⟨rfl, rfl, rfl, rfl, trivial⟩, H⟩ ?_) ?_
 ·intro s1 e σ hI z h
  obtain ⟨he, H⟩ := hI
  obtain ⟨e, rfl⟩ := he.ex
  unfold ZN.s0 at h
  refine .then (.Z0 1 rfl H fun b3 σ H => (.int (m := s1) (m' := (s.length : Int)) (r := .bool (decide (s1 < (s.length : Int)))) rfl rfl rfl rfl rfl (.nila H fun H => (.then ?_))))
  refine .whether (v := (decide (s1 < (s.length : Int)))) rfl ?_ ?_ <;> intro hc1
  ·replace h := Z6 hc1 h
   refine .skip (.then (.inBlock (.then (.Z0 2 rfl H fun b4 σ H => (.move (v := (vi s1)) rfl rfl ?_)))))
   refine .assign (v := (vi s1)) rfl rfl (.nila H fun H => (.then (.Z0 6 rfl H fun b5 σ H => (.move (v := cv0) rfl rfl (.move (v := (vl Con.cs s)) rfl rfl ?_)))))
   refine .move (v := (vi s1)) rfl rfl ?_
   obtain ⟨x1, q1, h⟩ := bind_some h
   refine .Z0C (c := Con.cs) (u := x1) rfl rfl q1 rfl rfl rfl rfl (.Z2F (cs := [(.int .i64 x1.X), (.int .i64 x1.Y), (.int .i64 x1.Form), (.int .i64 x1.Range.Low), (.int .i64 x1.Range.High), (.bool x1.Range.HasLow), (.bool x1.Range.HasHigh)]) rfl rfl rfl rfl rfl rfl ?_)
   obtain ⟨x2, q2, h⟩ := bind_some h
   refine .callV (cv := cv0) (ys := [(.agg (vs (Con.cs x1)))]) (r := (vb x2)) H rfl rfl (hf0 x1 _ q2) hC nofun rfl fun σ H => (.nila H fun H => ?_)
   refine .whether (v := x2) rfl ?_ ?_ <;> intro hc2
   ·replace h := Z6 hc2 h
    refine .then (.Z0 2 rfl H fun b6 σ H => (.move (v := (vi s1)) rfl rfl (.assign (v := (vi s1)) rfl rfl (.nila H fun H => (.ret ?_)))))
    replace h := sj h; subst h
    exact ⟨nofun, (.inr ⟨_, rfl, rfl, (EndsH.H (xs := [(vi s1)]) (.inr rfl) H (.tmp (v := (vi s1)) rfl .nil) (.one (.c (.v _))) 0 rfl)⟩)⟩
   ·replace h := Z7 hc2 h
    refine .skip (.Z0 2 rfl H fun b7 σ H => (.int (m := s1) (m' := 1) (r := .int .i64 (w64 (s1 + 1))) rfl rfl rfl rfl rfl (.move (v := (vi (w64 (s1 + 1)))) rfl rfl (.nila H fun H => ?_))))
    replace h := sj h; subst h
    exact ⟨rfl, ⟨rfl, rfl, rfl, rfl, trivial⟩, H⟩
  ·replace h := Z7 hc1 h
   refine .exit ?_
   replace h := sj h; subst h
   exact ⟨nofun, (.inl ⟨_, rfl, rfl, trivial, H⟩)⟩
 ·rintro x e σ (⟨a2, rfl, rfl, he, H⟩ | ⟨r', rfl, rfl, hE⟩)
  ·skip
   replace h := jgo h
   obtain ⟨e, rfl⟩ := he.ex
   refine .then (.Z0 1 rfl H fun b8 σ H => (.assign (v := (vi (-1))) rfl rfl (.nila H fun H => (.ret ?_))))
   replace h := sj h; subst h
   exact (EndsH.H (xs := [(vi (-1))]) (.inr rfl) H (.tmp (v := (vi (-1))) rfl .nil) (.one (.c (.v _))) 0 rfl)
  ·skip
   replace h := jret h
   replace h := sj h; subst h
   exact hE

theorem Z3B {s : (List Con)} {f : Con → Option Bool} {C : List Res} {cv0 : PV} (hs0 : cv0.still = true) (hp0 : cv0.pure = true → C = []) (hf0 : ∀ z0 y, f z0 = some y → CloH CX cv0 [(.agg (vs (Con.cs z0)))] (vb y) C) {r : Bool} (h : Zs s f = some r) : FnH CX 38 [(vl Con.cs s), cv0] (vb r) C := by
 refine FnH.of Try.func38 rfl rfl rfl rfl (Z2W rfl (Z2W hs0 all_nil)) rfl (fun h => hp0 (Z39 h 1 rfl)) ?_
 intro σ L hC H
 unfold Zs at h
 refine .then (.Z0 1 rfl H fun b1 σ H => (.assign (v := (vb false)) rfl rfl (.nila H fun H => (.then (.Z0 5 rfl H fun b2 σ H => ?_)))))
 refine .move (v := (vl Con.cs s)) rfl rfl (.move (v := cv0) rfl rfl ?_)
 obtain ⟨x1, q1, h⟩ := bind_some h
 refine .Z6V (ys := [(vl Con.cs s), cv0]) (r := (vi x1)) H rfl (Z3q (C := C) hs0 hp0 hf0 q1) hC nofun rfl fun σ H => (.int (m := x1) (m' := 0) (r := .bool (decide (x1 ≥ 0))) rfl rfl rfl rfl rfl (.assign (v := (vb (decide (x1 ≥ 0)))) rfl rfl (.nila H fun H => (.ret ?_))))
 replace h := sj h; subst h
 exact (EndsH.H (xs := [(vb (decide (x1 ≥ 0)))]) (.inr rfl) H (.tmp (v := (vb (decide (x1 ≥ 0)))) rfl .nil) (.one (.c (.v _))) 0 rfl)

theorem tag_scoped_fn {r' : Range} {r : Bool} (h : Z1U r' = r) : Fn CX 49 [(.agg (vs (Range.cs r')))] (vb r) := by
 refine Fn.ends Try.func49 rfl rfl rfl rfl rfl rfl ?_
 have H : Hs (⟨0, fun _ => .none⟩ : Heap) [] := Has.nil (Nat.le_refl _)
 generalize (⟨0, fun _ => .none⟩ : Heap) = σ at H ⊢
 unfold Z1U at h
 refine .then (.Z0 2 rfl H fun b1 σ H => (.boxH (cs := [(vi r'.Low), (vi r'.High), (vb r'.HasLow), (vb r'.HasHigh)]) H (by omega) (by omega) rfl rfl rfl fun σ H => (.assign (v := (vb false)) rfl rfl (.nila H fun H => (.then ?_)))))
 refine .Z0 17 rfl H fun b2 σ H => (.Z2 (off := 0) (fo := 2) H 0 rfl rfl rfl rfl rfl nofun rfl (.ZQ (off := 2) (v := (vb r'.HasLow)) H 0 rfl rfl rfl rfl rfl nofun rfl (.move (v := (vb r'.HasLow)) rfl rfl ?_)))
 refine .mid 4 (K1 := fun e σ => Z4 e [(9, (vb (r'.HasLow || (r'.Low == 0)))), (1, (.ptr (b1 + 0) 4 0))] ∧ Has σ (b2 + 7) (b2 + 17) [.blk (b1 + 0) 45 [(vi r'.Low), (vi r'.High), (vb r'.HasLow), (vb r'.HasHigh)]]) rfl ?_ ?_
 ·refine .split rfl rfl ?_ ?_ <;> intro hc1
  ·skip
   refine .pass rfl rfl rfl (.pass rfl rfl rfl (.pass rfl rfl rfl (.Ze (v := (vb true)) rfl rfl rfl (.nil ?_))))
   exact ⟨⟨or_T hc1, rfl, trivial⟩, H.weak (by omega) (Nat.le_refl _)⟩
  ·skip
   refine .wanted rfl rfl (.Z2 (off := 0) (fo := 0) H 0 rfl rfl rfl rfl rfl nofun rfl (.wanted rfl rfl (.ZQ (off := 0) (v := (vi r'.Low)) H 0 rfl rfl rfl rfl rfl nofun rfl (.wanted rfl rfl (.int (m := r'.Low) (m' := 0) (r := .bool (r'.Low == 0)) rfl rfl rfl rfl rfl ?_)))))
   refine .Zg (v := (vb (r'.Low == 0))) rfl rfl rfl (.nil ?_)
   exact ⟨⟨or_F hc1, rfl, trivial⟩, H.weak (by omega) (Nat.le_refl _)⟩
 ·rintro e σ ⟨he, H⟩
  obtain ⟨e, rfl⟩ := he.ex
  refine .move (v := (vb (r'.HasLow || (r'.Low == 0)))) rfl rfl ?_
  refine .mid 8 (K1 := fun e σ => Z4 e [(18, (vb ((r'.HasLow || (r'.Low == 0)) && (r'.HasHigh || (r'.High == 0)))))] ∧ Has σ (b2 + 16) (b2 + 17) []) rfl ?_ ?_
  ·refine .split rfl rfl ?_ ?_ <;> intro hc2
   ·skip
    refine .wanted rfl rfl (.Z2 (off := 0) (fo := 3) H 0 rfl rfl rfl rfl rfl nofun rfl (.wanted rfl rfl (.ZQ (off := 3) (v := (vb r'.HasHigh)) H 0 rfl rfl rfl rfl rfl nofun rfl (.wanted rfl rfl (.move (v := (vb r'.HasHigh)) rfl rfl ?_)))))
    refine .mid 4 (K1 := fun e σ => Z4 e [(17, (vb (r'.HasHigh || (r'.High == 0)))), (10, (vb true))] ∧ Has σ (b2 + 15) (b2 + 17) []) rfl ?_ ?_
    ·refine .split rfl rfl ?_ ?_ <;> intro hc3
     ·skip
      refine .pass rfl rfl rfl (.pass rfl rfl rfl (.pass rfl rfl rfl (.wanted rfl rfl (.Ze (v := (vb true)) rfl rfl rfl (.nil ?_)))))
      exact ⟨⟨or_T hc3, rfl, trivial⟩, (H.erase 0).weak (by omega) (Nat.le_refl _)⟩
     ·skip
      refine .wanted rfl rfl (.Z2 (off := 0) (fo := 1) H 0 rfl rfl rfl rfl rfl nofun rfl (.wanted rfl rfl (.ZQ (off := 1) (v := (vi r'.High)) H 0 rfl rfl rfl rfl rfl nofun rfl (.wanted rfl rfl (.int (m := r'.High) (m' := 0) (r := .bool (r'.High == 0)) rfl rfl rfl rfl rfl ?_)))))
      refine .wanted rfl rfl (.Zg (v := (vb (r'.High == 0))) rfl rfl rfl (.nil ?_))
      exact ⟨⟨or_F hc3, rfl, trivial⟩, (H.erase 0).weak (by omega) (Nat.le_refl _)⟩
    ·rintro e σ ⟨he, H⟩
     obtain ⟨e, rfl⟩ := he.ex
     refine .Ze (v := (vb (r'.HasHigh || (r'.High == 0)))) rfl rfl rfl (.nil ?_)
     exact ⟨⟨Z1D hc2, trivial⟩, H.weak (by omega) (Nat.le_refl _)⟩
   ·skip
    refine .pass rfl rfl rfl (.pass rfl rfl rfl (.pass rfl rfl rfl (.Z0S rfl rfl rfl (.Z0S rfl rfl rfl (.Z0S rfl rfl rfl ?_)))))
    refine .pass rfl rfl rfl (.Zg (v := (vb false)) rfl rfl rfl (.nil ?_))
    exact ⟨⟨Z1E hc2, trivial⟩, (H.erase 0).weak (by omega) (Nat.le_refl _)⟩
  ·rintro e σ ⟨he, H⟩
   obtain ⟨e, rfl⟩ := he.ex
   refine .assign (v := (vb ((r'.HasLow || (r'.Low == 0)) && (r'.HasHigh || (r'.High == 0))))) rfl rfl (.nila H fun H => (.ret ?_))
   subst h
   exact (Ends.H (xs := [(vb ((r'.HasLow || (r'.Low == 0)) && (r'.HasHigh || (r'.High == 0))))]) (.inr rfl) H (.tmp (v := (vb ((r'.HasLow || (r'.Low == 0)) && (r'.HasHigh || (r'.High == 0))))) rfl .nil) (.one (.c (.v _))))

theorem tag_right_fn {n : Net} {c : Con} {r : Bool} (h : Z21 n c = r) : Fn CX 34 [(.agg (vs (Net.cs n))), (.agg (vs (Con.cs c)))] (vb r) := by
 refine Fn.ends Try.func34 rfl rfl rfl rfl rfl rfl ?_
 have H : Hs (⟨0, fun _ => .none⟩ : Heap) [] := Has.nil (Nat.le_refl _)
 generalize (⟨0, fun _ => .none⟩ : Heap) = σ at H ⊢
 unfold Z21 at h
 refine .then (.Z0 3 rfl H fun b1 σ H => (.boxH (cs := [(vi n.Vars), (vl Form.cs n.Forms), (vl Con.cs n.Cons)]) H (by omega) (by omega) rfl rfl rfl fun σ H => (.boxH (cs := [(vi c.X), (vi c.Y), (vi c.Form), (vi c.Range.Low), (vi c.Range.High), (vb c.Range.HasLow), (vb c.Range.HasHigh)]) H (by omega) (by omega) rfl rfl rfl fun σ H => (.assign (v := (vb false)) rfl rfl (.nila H fun H => ?_)))))
 refine .then (.Z0 26 rfl H fun b2 σ H => (.Z2 (off := 0) (fo := 0) H 0 rfl rfl rfl rfl rfl nofun rfl (.ZQ (off := 0) (v := (vi c.X)) H 0 rfl rfl rfl rfl rfl nofun rfl (.Z2 (off := 0) (fo := 0) H 1 rfl rfl rfl rfl rfl nofun rfl (.ZQ (off := 0) (v := (vi n.Vars)) H 1 rfl rfl rfl rfl rfl nofun rfl ?_)))))
 refine .call (ys := [(vi c.X), (vi n.Vars)]) (r := (vb (ZT c.X n.Vars))) rfl (Z40 rfl) rfl (.move (v := (vb (ZT c.X n.Vars))) rfl rfl ?_)
 refine .mid 6 (K1 := fun e σ => Z4 e [(16, (vb ((ZT c.X n.Vars) && (ZT c.Y n.Vars)))), (2, (.ptr (b1 + 0) 3 0)), (3, (.ptr (b1 + 1) 7 0))] ∧ Has σ (b2 + 12) (b2 + 26) [.blk (b1 + 1) 48 [(vi c.X), (vi c.Y), (vi c.Form), (vi c.Range.Low), (vi c.Range.High), (vb c.Range.HasLow), (vb c.Range.HasHigh)], .blk (b1 + 0) 36 [(vi n.Vars), (vl Form.cs n.Forms), (vl Con.cs n.Cons)]]) rfl ?_ ?_
 ·refine .split rfl rfl ?_ ?_ <;> intro hc1
  ·skip
   refine .wanted rfl rfl (.Z2 (off := 0) (fo := 1) H 0 rfl rfl rfl rfl rfl nofun rfl (.wanted rfl rfl (.ZQ (off := 1) (v := (vi c.Y)) H 0 rfl rfl rfl rfl rfl nofun rfl (.wanted rfl rfl (.Z2 (off := 0) (fo := 0) H 1 rfl rfl rfl rfl rfl nofun rfl ?_)))))
   refine .wanted rfl rfl (.ZQ (off := 0) (v := (vi n.Vars)) H 1 rfl rfl rfl rfl rfl nofun rfl (.wanted rfl rfl (.call (ys := [(vi c.Y), (vi n.Vars)]) (r := (vb (ZT c.Y n.Vars))) rfl (Z40 rfl) rfl (.Ze (v := (vb (ZT c.Y n.Vars))) rfl rfl rfl (.nil ?_)))))
   exact ⟨⟨Z1D hc1, rfl, rfl, trivial⟩, H.weak (by omega) (Nat.le_refl _)⟩
  ·skip
   refine .pass rfl rfl rfl (.pass rfl rfl rfl (.pass rfl rfl rfl (.pass rfl rfl rfl (.pass rfl rfl rfl (.Zg (v := (vb false)) rfl rfl rfl ?_)))))
   refine .nil ?_
   exact ⟨⟨Z1E hc1, rfl, rfl, trivial⟩, H.weak (by omega) (Nat.le_refl _)⟩
 ·rintro e σ ⟨he, H⟩
  obtain ⟨e, rfl⟩ := he.ex
  refine .move (v := (vb ((ZT c.X n.Vars) && (ZT c.Y n.Vars)))) rfl rfl ?_
  refine .mid 7 (K1 := fun e σ => Z4 e [(24, (vb (((ZT c.X n.Vars) && (ZT c.Y n.Vars)) && (ZT c.Form (n.Forms.length : Int))))), (3, (.ptr (b1 + 1) 7 0))] ∧ Has σ (b2 + 20) (b2 + 26) [.blk (b1 + 1) 48 [(vi c.X), (vi c.Y), (vi c.Form), (vi c.Range.Low), (vi c.Range.High), (vb c.Range.HasLow), (vb c.Range.HasHigh)]]) rfl ?_ ?_
  ·refine .split rfl rfl ?_ ?_ <;> intro hc2
   ·skip
    refine .wanted rfl rfl (.Z2 (off := 0) (fo := 2) H 0 rfl rfl rfl rfl rfl nofun rfl (.wanted rfl rfl (.ZQ (off := 2) (v := (vi c.Form)) H 0 rfl rfl rfl rfl rfl nofun rfl (.wanted rfl rfl (.Z2 (off := 0) (fo := 1) H 1 rfl rfl rfl rfl rfl nofun rfl ?_)))))
    refine .wanted rfl rfl (.ZQ (off := 1) (v := (vl Form.cs n.Forms)) H 1 rfl rfl rfl rfl rfl nofun rfl (.wanted rfl rfl (.Z0B (c := Form.cs) (xs := n.Forms) rfl rfl rfl (.wanted rfl rfl (.call (ys := [(vi c.Form), (vi (n.Forms.length : Int))]) (r := (vb (ZT c.Form (n.Forms.length : Int)))) rfl (Z40 rfl) rfl ?_)))))
    refine .Ze (v := (vb (ZT c.Form (n.Forms.length : Int)))) rfl rfl rfl (.nil ?_)
    exact ⟨⟨Z1D hc2, rfl, trivial⟩, (H.erase 1).weak (by omega) (Nat.le_refl _)⟩
   ·skip
    refine .pass rfl rfl rfl (.pass rfl rfl rfl (.pass rfl rfl rfl (.pass rfl rfl rfl (.pass rfl rfl rfl (.pass rfl rfl rfl ?_)))))
    refine .Zg (v := (vb false)) rfl rfl rfl (.nil ?_)
    exact ⟨⟨Z1E hc2, rfl, trivial⟩, (H.erase 1).weak (by omega) (Nat.le_refl _)⟩
  ·rintro e σ ⟨he, H⟩
   obtain ⟨e, rfl⟩ := he.ex
   refine .move (v := (vb (((ZT c.X n.Vars) && (ZT c.Y n.Vars)) && (ZT c.Form (n.Forms.length : Int))))) rfl rfl ?_
   refine .mid 4 (K1 := fun e σ => Z4 e [(29, (vb ((((ZT c.X n.Vars) && (ZT c.Y n.Vars)) && (ZT c.Form (n.Forms.length : Int))) && (Z1U c.Range))))] ∧ Has σ (b2 + 25) (b2 + 26) []) rfl ?_ ?_
   ·refine .split rfl rfl ?_ ?_ <;> intro hc3
    ·skip
     refine .wanted rfl rfl (.Z2 (off := 0) (fo := 3) H 0 rfl rfl rfl rfl rfl nofun rfl (.wanted rfl rfl (.ZX (off := 3) (cs := [(vi c.Range.Low), (vi c.Range.High), (vb c.Range.HasLow), (vb c.Range.HasHigh)]) H 0 rfl rfl rfl rfl rfl rfl rfl nofun rfl (.wanted rfl rfl (.call (ys := [(.agg [(vi c.Range.Low), (vi c.Range.High), (vb c.Range.HasLow), (vb c.Range.HasHigh)])]) (r := (vb (Z1U c.Range))) rfl (tag_scoped_fn (rfl : Z1U c.Range = _)) rfl ?_)))))
     refine .Ze (v := (vb (Z1U c.Range))) rfl rfl rfl (.nil ?_)
     exact ⟨⟨Z1D hc3, trivial⟩, (H.erase 0).weak (by omega) (Nat.le_refl _)⟩
    ·skip
     refine .pass rfl rfl rfl (.pass rfl rfl rfl (.pass rfl rfl rfl (.Zg (v := (vb false)) rfl rfl rfl (.nil ?_))))
     exact ⟨⟨Z1E hc3, trivial⟩, (H.erase 0).weak (by omega) (Nat.le_refl _)⟩
   ·rintro e σ ⟨he, H⟩
    obtain ⟨e, rfl⟩ := he.ex
    refine .assign (v := (vb ((((ZT c.X n.Vars) && (ZT c.Y n.Vars)) && (ZT c.Form (n.Forms.length : Int))) && (Z1U c.Range)))) rfl rfl (.nila H fun H => (.ret ?_))
    subst h
    exact (Ends.H (xs := [(vb ((((ZT c.X n.Vars) && (ZT c.Y n.Vars)) && (ZT c.Form (n.Forms.length : Int))) && (Z1U c.Range)))]) (.inr rfl) H (.tmp (v := (vb ((((ZT c.X n.Vars) && (ZT c.Y n.Vars)) && (ZT c.Form (n.Forms.length : Int))) && (Z1U c.Range)))) rfl .nil) (.one (.c (.v _))))

theorem Z9H {c : Con} {p1' : Net} {id0' : Nat} {r : Bool} (h : Z1h c p1' = r) : FnH CX 33 [(.agg (vs (Con.cs c))), (.ptr id0' 3 0)] (vb r) [.blk id0' 36 [(vi p1'.Vars), (vl Form.cs p1'.Forms), (vl Con.cs p1'.Cons)]] := by
 refine FnH.of Try.func33 rfl rfl rfl rfl rfl rfl (fun h => by have := Z39 h 1 rfl; cases this) ?_
 intro σ L hC H
 have hC0 := hC
 obtain ⟨k0', hk0', hC⟩ := hC.inv
 unfold Z1h at h
 refine .then (.Z0 2 rfl H fun b1 σ H => (.boxH (cs := [(vi c.X), (vi c.Y), (vi c.Form), (vi c.Range.Low), (vi c.Range.High), (vb c.Range.HasLow), (vb c.Range.HasHigh)]) H (by omega) (by omega) rfl rfl rfl fun σ H => (.assign (v := (vb false)) rfl rfl (.nila H fun H => (.then ?_)))))
 refine .Z0 5 rfl H fun b2 σ H => (.ZX (off := 0) (cs := [(vi p1'.Vars), (vl Form.cs p1'.Forms), (vl Con.cs p1'.Cons)]) H (k0' + 1) hk0' rfl rfl rfl rfl rfl rfl nofun rfl (.ZX (off := 0) (cs := [(vi c.X), (vi c.Y), (vi c.Form), (vi c.Range.Low), (vi c.Range.High), (vb c.Range.HasLow), (vb c.Range.HasHigh)]) H 0 rfl rfl rfl rfl rfl rfl rfl nofun rfl (.call (ys := [(.agg [(vi p1'.Vars), (vl Form.cs p1'.Forms), (vl Con.cs p1'.Cons)]), (.agg [(vi c.X), (vi c.Y), (vi c.Form), (vi c.Range.Low), (vi c.Range.High), (vb c.Range.HasLow), (vb c.Range.HasHigh)])]) (r := (vb (Z21 p1' c))) rfl (tag_right_fn (rfl : Z21 p1' c = _)) rfl (.not (b := (Z21 p1' c)) rfl rfl (.assign (v := (vb (!(Z21 p1' c)))) rfl rfl ?_)))))
 refine .nila H fun H => (.ret ?_)
 subst h
 exact (EndsH.H (xs := [(vb (!(Z21 p1' c)))]) (.inr rfl) H (.tmp (v := (vb (!(Z21 p1' c)))) rfl .nil) (.one (.c (.v _))) 1 rfl)

theorem Z7Z {n : Net} {r : Int} (h : Z2p n = some r) : Fn CX 21 [(.agg (vs (Net.cs n)))] (vi r) := by
 refine Fn.ends Try.func21 rfl rfl rfl rfl rfl rfl ?_
 have H : Hs (⟨0, fun _ => .none⟩ : Heap) [] := Has.nil (Nat.le_refl _)
 generalize (⟨0, fun _ => .none⟩ : Heap) = σ at H ⊢
 unfold Z2p at h
 refine .then (.Z0 2 rfl H fun b1 σ H => (.boxH (cs := [(vi n.Vars), (vl Form.cs n.Forms), (vl Con.cs n.Cons)]) H (by omega) (by omega) rfl rfl rfl fun σ H => (.assign (v := (vi 0)) rfl rfl (.nila H fun H => (.then ?_)))))
 refine .Z0 2 rfl H fun b2 σ H => (.makeClo (fs := []) (cs := [(.ptr (b1 + 0) 3 0)]) rfl rfl rfl rfl (.assign (v := (.clo 33 [] [(.ptr (b1 + 0) 3 0)])) rfl rfl (.nila H fun H => (.then (.Z0 1 rfl H fun b3 σ H => ?_)))))
 refine .assign (v := (.v (.fn 35))) rfl rfl (.nila H fun H => (.then ?_))
 obtain ⟨y1, hj1, h⟩ := bind_some h
 refine .mono (Q := fun x e σ => (∃ a1, y1 = (.go a1) ∧ x = .normal ∧ Z4 e [] ∧ Hs σ []) ∨ (∃ r', y1 = (.ret r') ∧ x = .ret ∧ Ends CX Try.f21.results.toList (vi r') x e σ)) ?_ ?_
 ·replace h := hj1
  refine .inBlock ?_
  obtain ⟨y2, hj2, h⟩ := bind_some h
  refine .mono (Q := fun x e σ => (∃ a2, y2 = (.go a2) ∧ x = .normal ∧ Z4 e [] ∧ Hs σ []) ∨ (∃ r', y2 = (.ret r') ∧ x = .ret ∧ Ends CX Try.f21.results.toList (vi r') x e σ)) ?_ ?_
  ·replace h := hj2
   refine .then ?_
   obtain ⟨y3, hj3, h⟩ := bind_some h
   refine .mono (Q := fun x e σ => x = .normal ∧ Z4 e [(1, (.ptr (b1 + 0) 3 0)), (3, (.clo 33 [] [(.ptr (b1 + 0) 3 0)])), (4, (.v (.fn 35))), (6, (vb y3))] ∧ Hs σ [.blk (b1 + 0) 36 [(vi n.Vars), (vl Form.cs n.Forms), (vl Con.cs n.Cons)]]) ?_ ?_
   ·replace h := hj3
    refine .then (.Z0 5 rfl H fun b4 σ H => (.Z2 (off := 0) (fo := 0) H 0 rfl rfl rfl rfl rfl nofun rfl (.ZQ (off := 0) (v := (vi n.Vars)) H 0 rfl rfl rfl rfl rfl nofun rfl (.call (ys := [(vi n.Vars), (vi 25)]) (r := (vb (ZT n.Vars 25))) rfl (Z40 rfl) rfl (.not (b := (ZT n.Vars 25)) rfl rfl ?_)))))
    refine .assign (v := (vb (!(ZT n.Vars 25)))) rfl rfl (.nila H fun H => ?_)
    refine .whether (v := (!(ZT n.Vars 25))) rfl ?_ ?_ <;> intro hc1
    ·replace h := Z6 hc1 h
     refine .skip ?_
     replace h := sj h; subst h
     exact ⟨rfl, ⟨rfl, rfl, rfl, rfl, trivial⟩, H⟩
    ·replace h := Z7 hc1 h
     refine .then (.Z0 5 rfl H fun b5 σ H => (.Z2 (off := 0) (fo := 1) H 0 rfl rfl rfl rfl rfl nofun rfl (.ZQ (off := 1) (v := (vl Form.cs n.Forms)) H 0 rfl rfl rfl rfl rfl nofun rfl (.Z0B (c := Form.cs) (xs := n.Forms) rfl rfl rfl (.int (m := (n.Forms.length : Int)) (m' := 20) (r := .bool (decide ((n.Forms.length : Int) > 20))) rfl rfl rfl rfl rfl ?_)))))
     refine .assign (v := (vb (decide ((n.Forms.length : Int) > 20)))) rfl rfl (.nila H fun H => ?_)
     refine .whether (v := (decide ((n.Forms.length : Int) > 20))) rfl ?_ ?_ <;> intro hc2
     ·replace h := Z6 hc2 h
      refine .skip ?_
      replace h := sj h; subst h
      exact ⟨rfl, ⟨rfl, rfl, rfl, rfl, trivial⟩, H⟩
     ·replace h := Z7 hc2 h
      refine .Z0 5 rfl H fun b6 σ H => (.Z2 (off := 0) (fo := 2) H 0 rfl rfl rfl rfl rfl nofun rfl (.ZQ (off := 2) (v := (vl Con.cs n.Cons)) H 0 rfl rfl rfl rfl rfl nofun rfl (.Z0B (c := Con.cs) (xs := n.Cons) rfl rfl rfl (.int (m := (n.Cons.length : Int)) (m' := 200) (r := .bool (decide ((n.Cons.length : Int) > 200))) rfl rfl rfl rfl rfl (.assign (v := (vb (decide ((n.Cons.length : Int) > 200)))) rfl rfl ?_)))))
      refine .nila H fun H => ?_
      replace h := sj h; subst h
      exact ⟨rfl, ⟨rfl, rfl, rfl, rfl, trivial⟩, H⟩
   ·rintro x e σ ⟨rfl, he, H⟩
    obtain ⟨e, rfl⟩ := he.ex
    refine .whether (v := y3) rfl ?_ ?_ <;> intro hc3
    ·replace h := Z6 hc3 h
     refine .then (.Z0 1 rfl H fun b7 σ H => (.assign (v := (vi 230)) rfl rfl (.nila H fun H => (.ret ?_))))
     replace h := sj h; subst h
     exact (.inr ⟨_, rfl, rfl, (Ends.H (xs := [(vi 230)]) (.inr rfl) H (.tmp (v := (vi 230)) rfl .nil) (.one (.c (.v _))))⟩)
    ·replace h := Z7 hc3 h
     refine .then ?_
     obtain ⟨y4, hj4, h⟩ := bind_some h
     refine .mono (Q := fun x e σ => x = .normal ∧ Z4 e [(19, (vb y4))] ∧ Hs σ []) ?_ ?_
     ·replace h := hj4
      refine .then (.Z0 5 rfl H fun b8 σ H => (.Z2 (off := 0) (fo := 1) H 0 rfl rfl rfl rfl rfl nofun rfl (.ZQ (off := 1) (v := (vl Form.cs n.Forms)) H 0 rfl rfl rfl rfl rfl nofun rfl (.move (v := (.v (.fn 35))) rfl rfl ?_))))
      obtain ⟨x1, q1, h⟩ := bind_some h
      refine .Z6V (ys := [(vl Form.cs n.Forms), (.v (.fn 35))]) (r := (vb x1)) H rfl (Z2w (C := []) rfl (fun _ => rfl) (fun z0 y hz => (CloH.fn (Fn.toH (Z9e hz) _))) q1) .nil nofun rfl fun σ H => (.assign (v := (vb x1)) rfl rfl (.nila H fun H => ?_))
      refine .whether (v := x1) rfl ?_ ?_ <;> intro hc4
      ·replace h := Z6 hc4 h
       refine .skip ?_
       replace h := sj h; subst h
       exact ⟨rfl, ⟨rfl, trivial⟩, (H.erase 0)⟩
      ·replace h := Z7 hc4 h
       refine .Z0 5 rfl H fun b9 σ H => (.Z2 (off := 0) (fo := 2) H 0 rfl rfl rfl rfl rfl nofun rfl (.ZQ (off := 2) (v := (vl Con.cs n.Cons)) H 0 rfl rfl rfl rfl rfl nofun rfl (.move (v := (.clo 33 [] [(.ptr (b1 + 0) 3 0)])) rfl rfl ?_)))
       obtain ⟨x2, q2, h⟩ := bind_some h
       refine .Z6V (ys := [(vl Con.cs n.Cons), (.clo 33 [] [(.ptr (b1 + 0) 3 0)])]) (r := (vb x2)) H rfl (Z3B (C := [.blk (b1 + 0) 36 [(vi n.Vars), (vl Form.cs n.Forms), (vl Con.cs n.Cons)]]) rfl (fun h => by simp [PV.pure] at h) (fun z0 y hz => (CloH.clo (Z9H (Option.some.inj hz)))) q2) (.cons 0 rfl .nil) nofun rfl fun σ H => (.assign (v := (vb x2)) rfl rfl (.nila H fun H => ?_))
       replace h := sj h; subst h
       exact ⟨rfl, ⟨rfl, trivial⟩, (H.erase 0)⟩
     ·rintro x e σ ⟨rfl, he, H⟩
      obtain ⟨e, rfl⟩ := he.ex
      refine .whether (v := y4) rfl ?_ ?_ <;> intro hc5
      ·replace h := Z6 hc5 h
       refine .then (.Z0 1 rfl H fun b10 σ H => (.assign (v := (vi 230)) rfl rfl (.nila H fun H => (.ret ?_))))
       replace h := sj h; subst h
       exact (.inr ⟨_, rfl, rfl, (Ends.H (xs := [(vi 230)]) (.inr rfl) H (.tmp (v := (vi 230)) rfl .nil) (.one (.c (.v _))))⟩)
      ·replace h := Z7 hc5 h
       refine .skip ?_
       replace h := sj h; subst h
       exact (.inl ⟨_, rfl, rfl, trivial, H⟩)
  ·rintro x e σ (⟨a3, rfl, rfl, he, H⟩ | ⟨r', rfl, rfl, hE⟩)
   ·skip
    replace h := jgo h
    obtain ⟨e, rfl⟩ := he.ex
    replace h := sj h; subst h
    exact (.inl ⟨_, rfl, rfl, trivial, H⟩)
   ·skip
    replace h := jret h
    replace h := sj h; subst h
    exact (.inr ⟨_, rfl, rfl, hE⟩)
 ·rintro x e σ (⟨a4, rfl, rfl, he, H⟩ | ⟨r', rfl, rfl, hE⟩)
  ·skip
   replace h := jgo h
   obtain ⟨e, rfl⟩ := he.ex
   refine .then (.Z0 1 rfl H fun b11 σ H => (.assign (v := (vi 0)) rfl rfl (.nila H fun H => (.ret ?_))))
   replace h := sj h; subst h
   exact (Ends.H (xs := [(vi 0)]) (.inr rfl) H (.tmp (v := (vi 0)) rfl .nil) (.one (.c (.v _))))
  ·skip
   replace h := jret h
   replace h := sj h; subst h
   exact hE

end Go.Dn

namespace Go.Dn
open Go Go.Proofs
set_option maxRecDepth 100000
set_option maxHeartbeats 4000000

theorem Z10 {n : Net} {ticks : (List Int)} {r : Bool} (h : Zo n ticks = some r) : Fn CX 13 [(.agg (vs (Net.cs n))), (vl (cI .i64) ticks)] (vb r) := by
 refine Fn.ends Try.func13 rfl rfl rfl rfl rfl rfl ?_
 have H : Hs (⟨0, fun _ => .none⟩ : Heap) [] := Has.nil (Nat.le_refl _)
 generalize (⟨0, fun _ => .none⟩ : Heap) = σ at H ⊢
 unfold Zo at h
 refine .then (.Z0 2 rfl H fun b1 σ H => (.boxH (cs := [(vi n.Vars), (vl Form.cs n.Forms), (vl Con.cs n.Cons)]) H (by omega) (by omega) rfl rfl rfl fun σ H => (.Z0t (cs := [(vb false)]) H (by omega) (by omega) rfl rfl fun σ H => (.nila H fun H => (.then ?_)))))
 refine .then (.Z0 4 rfl H fun b2 σ H => (.ZX (off := 0) (cs := [(vi n.Vars), (vl Form.cs n.Forms), (vl Con.cs n.Cons)]) H 1 rfl rfl rfl rfl rfl rfl rfl nofun rfl (.move (v := (vl (cI .i64) ticks)) rfl rfl ?_)))
 obtain ⟨x1, q1, h⟩ := bind_some h
 refine .call (ys := [(.agg [(vi n.Vars), (vl Form.cs n.Forms), (vl Con.cs n.Cons)]), (vl (cI .i64) ticks)]) (r := (vb x1)) rfl (Z9P q1) rfl (.not (b := x1) rfl rfl (.nila H fun H => ?_))
 refine .whether (v := (!x1)) rfl ?_ ?_ <;> intro hc1
 ·replace h := Z6 hc1 h
  refine .then (.Z0 1 rfl H fun b3 σ H => (.Z0U (off := 0) (cells' := [(vb false)]) H 0 rfl rfl rfl rfl rfl rfl rfl rfl rfl nofun fun σ H => (.nila H fun H => (.ret ?_))))
  replace h := sj h; subst h
  exact (Ends.H (xs := [(vb false)]) (.inr rfl) H (.cell (v := (vb false)) (off := 0) 0 rfl rfl rfl rfl rfl .nil) (.one (.c (.v _))))
 ·replace h := Z7 hc1 h
  refine .skip (.then (.then (.Z0 3 rfl H fun b4 σ H => (.ZX (off := 0) (cs := [(vi n.Vars), (vl Form.cs n.Forms), (vl Con.cs n.Cons)]) H 1 rfl rfl rfl rfl rfl rfl rfl nofun rfl (.move (v := (vl (cI .i64) ticks)) rfl rfl ?_)))))
  refine .callO (ys := [(.agg (vs (Net.cs n))), (vl (cI .i64) ticks)]) rfl (Z6D H) nofun rfl ?_; rintro _ σ ⟨id1, id2, rfl, H⟩
  refine .nila H fun H => (.inBlock ?_)
  replace H := (H.erase 3)
  obtain ⟨y1, hj1, h⟩ := bind_some h
  refine .rangeH H rfl (fun s1 M => M = [.blk id1 37 [(vl (cI .i64) ticks)], .blk id2 36 [(vi n.Vars), (vl Form.cs n.Forms), (vl Con.cs n.Cons)], .blk (b1 + 1) 4 [(vb false)]]) (fun z1 => [(vi z1)]) Zo.b0 (fun p => if p = 0 then none else some .ret) rfl (fun p => by (repeat' split) <;> exact ⟨_, rfl⟩) (r := y1) rfl (fun _ => rfl) (fun _ => rfl) ?_ (fun id hy => Z54 hy (fun s L hL => by obtain ⟨M, hM, rfl⟩ := hL; obtain rfl := hM; exact (.cons 2 rfl (.cons 1 rfl .nil))) hj1) ?_
  ·intro R0 R1 s1 z1 s' p h σ M O hM H
   obtain rfl := hM
   unfold Zo.b0 at h
   refine .env [(12, (vi z1)), (4, (.ptr (b1 + 1) 1 0)), (11, (.clo 44 [] [(.ptr id2 3 0), (.ptr id1 1 0)]))] ⟨rfl, rfl, rfl, trivial⟩ fun e => (.skip ?_)
   refine ⟨rfl, [.blk id1 37 [(vl (cI .i64) ticks)], .blk id2 36 [(vi n.Vars), (vl Form.cs n.Forms), (vl Con.cs n.Cons)], .blk (b1 + 1) 4 [(vb false)]], H, ?_⟩; intro σ H
   refine .inBlock (.then (.Z0 1 rfl H fun b5 σ H => (.Z0U (off := 0) (cells' := [(vb false)]) H 3 rfl rfl rfl rfl rfl rfl rfl rfl rfl nofun fun σ H => (.nila H fun H => (.ret ?_)))))
   obtain ⟨rfl, rfl⟩ := Prod.mk.inj (Option.some.inj h)
   exact ⟨⟨rfl, (iff_of_false nofun nofun)⟩, _, rfl, H⟩
  ·intro x σ M hx hM H
   obtain rfl := hM
   cases hc0_ : (y1.2 == 0)
   ·replace h := Z7 hc0_ h
    have hx : x = .ret := by simpa [ne_of_beq_false hc0_, Z5f] using hx.symm
    subst hx
    replace h := sj h; subst h
    exact (Ends.H (xs := [(vb false)]) (.inr rfl) H (.cell (v := (vb false)) (off := 0) 2 rfl rfl rfl rfl rfl .nil) (.one (.c (.v _))))
   ·replace h := Z6 hc0_ h
    have hx : x = .normal := by rw [eq_of_beq hc0_] at hx; exact (Option.some.inj hx).symm
    subst hx
    refine .then (.Z0 1 rfl H fun b6 σ H => (.Z0U (off := 0) (cells' := [(vb true)]) H 2 rfl rfl rfl rfl rfl rfl rfl rfl rfl nofun fun σ H => (.nila H fun H => (.ret ?_))))
    replace h := sj h; subst h
    exact (Ends.H (xs := [(vb true)]) (.inr rfl) H (.cell (v := (vb true)) (off := 0) 2 rfl rfl rfl rfl rfl .nil) (.one (.c (.v _))))

theorem Z1o {a : (List Int)} {b : (List Int)} {r : Bool} (h : Zh a b = some r) : Fn CX 12 [(vl (cI .i64) a), (vl (cI .i64) b)] (vb r) := by
 refine Fn.ends Try.func12 rfl rfl rfl rfl rfl rfl ?_
 have H : Hs (⟨0, fun _ => .none⟩ : Heap) [] := Has.nil (Nat.le_refl _)
 generalize (⟨0, fun _ => .none⟩ : Heap) = σ at H ⊢
 unfold Zh at h
 refine .then (.Z0 1 rfl H fun b1 σ H => (.assign (v := (vb false)) rfl rfl (.nila H fun H => (.then (.then ?_)))))
 refine .Z0 5 rfl H fun b2 σ H => (.move (v := (vl (cI .i64) a)) rfl rfl (.Z0B (c := (cI .i64)) (xs := a) rfl rfl rfl (.move (v := (vl (cI .i64) b)) rfl rfl (.Z0B (c := (cI .i64)) (xs := b) rfl rfl rfl (.int (m := (a.length : Int)) (m' := (b.length : Int)) (r := .bool ((a.length : Int) != (b.length : Int))) rfl rfl rfl rfl rfl ?_)))))
 refine .nila H fun H => ?_
 refine .whether (v := ((a.length : Int) != (b.length : Int))) rfl ?_ ?_ <;> intro hc1
 ·replace h := Z6 hc1 h
  refine .then (.Z0 1 rfl H fun b3 σ H => (.assign (v := (vb false)) rfl rfl (.nila H fun H => (.ret ?_))))
  replace h := sj h; subst h
  exact (Ends.H (xs := [(vb false)]) (.inr rfl) H (.tmp (v := (vb false)) rfl .nil) (.one (.c (.v _))))
 ·replace h := Z7 hc1 h
  refine .skip (.then (.then (.Z0 3 rfl H fun b4 σ H => (.move (v := (vl (cI .i64) a)) rfl rfl (.Z0B (c := (cI .i64)) (xs := a) rfl rfl rfl ?_)))))
  refine .move (v := (vi 0)) rfl rfl (.nila H fun H => (.inBlock ?_))
  obtain ⟨y1, hj1, h⟩ := bind_some h
  obtain ⟨n1, hj1⟩ := Zc.1 hj1
  refine .mono (Runs.ZJ hj1 (fun s1 e σ => Z4 e [(0, (vl (cI .i64) a)), (1, (vl (cI .i64) b)), (12, (vi (a.length : Int))), (13, (vi s1))] ∧ Hs σ []) (fun y1 x e σ => (∃ a1, y1 = (.go a1) ∧ x = .exit 0 ∧ Z4 e [] ∧ Hs σ []) ∨ (∃ r', y1 = (.ret r') ∧ x = .ret ∧ Ends CX Try.f12.results.toList (vb r') x e σ)) ⟨⟨rfl, rfl, rfl, rfl, trivial⟩, H⟩ ?_) ?_
  ·intro s1 e σ hI z h
   obtain ⟨he, H⟩ := hI
   obtain ⟨e, rfl⟩ := he.ex
   unfold Zh.s0 at h
   refine .then (.Z0 1 rfl H fun b5 σ H => (.int (m := s1) (m' := (a.length : Int)) (r := .bool (decide (s1 < (a.length : Int)))) rfl rfl rfl rfl rfl (.nila H fun H => (.then ?_))))
   refine .whether (v := (decide (s1 < (a.length : Int)))) rfl ?_ ?_ <;> intro hc2
   ·replace h := Z6 hc2 h
    refine .skip (.then (.inBlock (.then (.Z0 2 rfl H fun b6 σ H => (.move (v := (vi s1)) rfl rfl ?_)))))
    refine .assign (v := (vi s1)) rfl rfl (.nila H fun H => (.then (.Z2X 9 rfl (by kernel_rfl) H fun b7 σ H B7 => (.move (v := (vl (cI .i64) a)) rfl rfl (.move (v := (vi s1)) rfl rfl ?_)))))
    obtain ⟨x1, q1, h⟩ := bind_some h
    refine .Z0C (c := (cI .i64)) (u := x1) rfl rfl q1 rfl rfl rfl rfl (.Z2H (u := (.int .i64 x1)) rfl rfl rfl rfl (.move (v := (vl (cI .i64) b)) rfl rfl (.move (v := (vi s1)) rfl rfl ?_)))
    obtain ⟨x2, q2, h⟩ := bind_some h
    refine .Z0C (c := (cI .i64)) (u := x2) rfl rfl q2 rfl rfl rfl rfl (.Z2H (u := (.int .i64 x2)) rfl rfl rfl rfl (.int (m := x1) (m' := x2) (r := .bool (x1 != x2)) rfl rfl rfl rfl rfl (.nila H fun H => ?_)))
    refine .whether (v := (x1 != x2)) rfl ?_ ?_ <;> intro hc3
    ·replace h := Z6 hc3 h
     refine .then (.Z0 1 rfl H fun b8 σ H => (.assign (v := (vb false)) rfl rfl (.nila H fun H => (.ret ?_))))
     replace h := sj h; subst h
     exact ⟨nofun, (.inr ⟨_, rfl, rfl, (Ends.H (xs := [(vb false)]) (.inr rfl) H (.tmp (v := (vb false)) rfl .nil) (.one (.c (.v _))))⟩)⟩
    ·replace h := Z7 hc3 h
     refine .skip (.Z0 2 rfl H fun b9 σ H => (.int (m := s1) (m' := 1) (r := .int .i64 (w64 (s1 + 1))) rfl rfl rfl rfl rfl (.move (v := (vi (w64 (s1 + 1)))) rfl rfl (.nila H fun H => ?_))))
     replace h := sj h; subst h
     exact ⟨rfl, ⟨rfl, rfl, rfl, rfl, trivial⟩, H⟩
   ·replace h := Z7 hc2 h
    refine .exit ?_
    replace h := sj h; subst h
    exact ⟨nofun, (.inl ⟨_, rfl, rfl, trivial, H⟩)⟩
  ·rintro x e σ (⟨a2, rfl, rfl, he, H⟩ | ⟨r', rfl, rfl, hE⟩)
   ·skip
    replace h := jgo h
    obtain ⟨e, rfl⟩ := he.ex
    refine .then (.Z0 1 rfl H fun b10 σ H => (.assign (v := (vb true)) rfl rfl (.nila H fun H => (.ret ?_))))
    replace h := sj h; subst h
    exact (Ends.H (xs := [(vb true)]) (.inr rfl) H (.tmp (v := (vb true)) rfl .nil) (.one (.c (.v _))))
   ·skip
    replace h := jret h
    replace h := sj h; subst h
    exact hE

theorem Z5m {r : Bool} (h : Z1O = some r) : Fn CX 8 [] (vb r) := by
 refine Fn.ends Try.func8 rfl rfl rfl rfl rfl rfl ?_
 have H : Hs (⟨0, fun _ => .none⟩ : Heap) [] := Has.nil (Nat.le_refl _)
 generalize (⟨0, fun _ => .none⟩ : Heap) = σ at H ⊢
 unfold Z1O at h
 refine .then (.Z0 1 rfl H fun b1 σ H => (.assign (v := (vb false)) rfl rfl (.nila H fun H => (.then (.Z0 3 rfl H fun b2 σ H => ?_)))))
 refine .call (ys := []) (r := (.agg (vF ZG))) rfl (Z6R rfl) rfl (.Z0t (cs := [(vi 0), (vi 0), .nils, .nils]) H (by omega) (by omega) rfl rfl fun σ H => (.Z0U (off := 0) (cells' := (vF ZG)) H 0 rfl rfl rfl rfl rfl rfl rfl rfl rfl nofun fun σ H => (.nila H fun H => (.then (.Z0 7 rfl H fun b3 σ H => ?_)))))
 refine .ZX (off := 0) (cs := (vF ZG)) H 0 rfl rfl rfl rfl rfl rfl rfl nofun rfl ?_
 obtain ⟨x1, q1, h⟩ := bind_some h
 refine .call (ys := [(.agg (vF ZG)), (vi 3), (vi 9)]) (r := (.tup [(vi x1.1), (vb x1.2)])) rfl (Z3s q1) rfl (.move (v := (.tup [(vi x1.1), (vb x1.2)])) rfl rfl (.extract (v := (vi x1.1)) rfl rfl rfl (.extract (v := (vb x1.2)) rfl rfl rfl (.assign (v := (vi x1.1)) rfl rfl (.assign (v := (vb x1.2)) rfl rfl ?_)))))
 refine .nila H fun H => (.then (.Z0 7 rfl H fun b4 σ H => (.ZX (off := 0) (cs := (vF ZG)) H 0 rfl rfl rfl rfl rfl rfl rfl nofun rfl ?_)))
 obtain ⟨x2, q2, h⟩ := bind_some h
 refine .call (ys := [(.agg (vF ZG)), (vi 3), (vi 5)]) (r := (.tup [(vi x2.1), (vb x2.2)])) rfl (Z3s q2) rfl (.move (v := (.tup [(vi x2.1), (vb x2.2)])) rfl rfl (.extract (v := (vi x2.1)) rfl rfl rfl (.extract (v := (vb x2.2)) rfl rfl rfl (.assign (v := (vi x2.1)) rfl rfl (.assign (v := (vb x2.2)) rfl rfl ?_)))))
 refine .nila H fun H => (.then (.Z0 8 rfl H fun b5 σ H => (.ZX (off := 0) (cs := (vF ZG)) H 0 rfl rfl rfl rfl rfl rfl rfl nofun rfl (.Z2o (sz := 4) ([ZG].map Form.cs) H (by omega) (by omega) rfl rfl rfl rfl rfl rfl rfl rfl rfl fun σ H => (.Z4r (cs := [(vi 1), (vi 2), (vb true), (vb true)]) rfl rfl ?_)))))
 refine .Z4r (cs := [(vi 0), (vi 1), (vi 0), (vi 1), (vi 2), (vb true), (vb true)]) rfl rfl (.Z2o (sz := 7) ([(Con.mk 0 1 0 (Range.mk 1 2 true true))].map Con.cs) H (by omega) (by omega) rfl rfl rfl rfl rfl rfl rfl rfl rfl fun σ H => (.Z4r (cs := [(vi 2), (.buf (b5 + 1) 1 4), (.buf (b5 + 4) 1 7)]) rfl rfl (.Z0t (cs := [(vi 0), .nils, .nils]) H (by omega) (by omega) rfl rfl fun σ H => (.Z0U (off := 0) (cells' := [(vi 2), (.buf (b5 + 1) 1 4), (.buf (b5 + 4) 1 7)]) H 0 rfl rfl rfl rfl rfl rfl rfl rfl rfl nofun fun σ H => (.nila H fun H => ?_)))))
 refine .then (.Z0 8 rfl H fun b6 σ H => (.ZX (off := 0) (cs := [(vi 2), (.buf (b5 + 1) 1 4), (.buf (b5 + 4) 1 7)]) H 0 rfl rfl rfl rfl rfl rfl rfl nofun rfl (.Z2o (sz := 1) ([3, 4].map (cI .i64)) H (by omega) (by omega) rfl rfl rfl rfl rfl rfl rfl rfl rfl fun σ H => ?_)))
 obtain ⟨x3, q3, h⟩ := bind_some h
 refine .callFOX (xs := [(.agg [(vi 2), (.buf (b5 + 1) 1 4), (.buf (b5 + 4) 1 7)]), (.buf (b6 + 1) 2 1)]) (ys := [(.agg (vs (Net.cs (Net.mk 2 [ZG] [(Con.mk 0 1 0 (Range.mk 1 2 true true))])))), (vl (cI .i64) [3, 4])]) H rfl (.cons (.a (.cons (.v _) (.cons (.s 3 rfl) (.cons (.s 2 rfl) .nil)))) (.cons (.c (.s 0 rfl)) .nil)) (Z1I q3) rfl rfl rfl rfl nofun rfl ?_; rintro _ _ σ ⟨w1, rfl, rfl⟩ H
 refine .move (v := (.tup [w1, (vi x3.2)])) rfl rfl (.extract (v := w1) rfl rfl rfl (.extract (v := (vi x3.2)) rfl rfl rfl (.assign (v := w1) rfl rfl (.assign (v := (vi x3.2)) rfl rfl (.nila H fun H => ?_)))))
 refine .then (.Z0 8 rfl H fun b7 σ H => (.ZX (off := 0) (cs := [(vi 2), (.buf (b5 + 1) 1 4), (.buf (b5 + 4) 1 7)]) H 2 rfl rfl rfl rfl rfl rfl rfl nofun rfl (.Z2o (sz := 1) ([3, 5].map (cI .i64)) H (by omega) (by omega) rfl rfl rfl rfl rfl rfl rfl rfl rfl fun σ H => ?_)))
 obtain ⟨x4, q4, h⟩ := bind_some h
 refine .callFOX (xs := [(.agg [(vi 2), (.buf (b5 + 1) 1 4), (.buf (b5 + 4) 1 7)]), (.buf (b7 + 1) 2 1)]) (ys := [(.agg (vs (Net.cs (Net.mk 2 [ZG] [(Con.mk 0 1 0 (Range.mk 1 2 true true))])))), (vl (cI .i64) [3, 5])]) H rfl (.cons (.a (.cons (.v _) (.cons (.s 5 rfl) (.cons (.s 4 rfl) .nil)))) (.cons (.c (.s 0 rfl)) .nil)) (Z1I q4) rfl rfl rfl rfl nofun rfl ?_; rintro _ _ σ ⟨w2, rfl, rfl⟩ H
 refine .move (v := (.tup [w2, (vi x4.2)])) rfl rfl (.extract (v := w2) rfl rfl rfl (.extract (v := (vi x4.2)) rfl rfl rfl (.assign (v := w2) rfl rfl (.assign (v := (vi x4.2)) rfl rfl (.nila H fun H => ?_)))))
 refine .then (.Z0 38 rfl H fun b8 σ H => (.move (v := (vb x1.2)) rfl rfl (.move (v := (vb x1.2)) rfl rfl ?_)))
 refine .mid 3 (K1 := fun e σ => Z4 e [(44, (vb (x1.2 && (x1.1 == 1)))), (5, (vb x2.2)), (6, (.ptr (b5 + 6) 3 0)), (7, w1), (8, (vi x3.2)), (9, w2), (10, (vi x4.2))] ∧ Has σ (b8 + 5) (b8 + 38) [.sl w2 3 1 (x4.1.map (cI .i64)) true, .sl w1 3 1 (x3.1.map (cI .i64)) true, .blk (b5 + 6) 36 [(vi 2), (.buf (b5 + 1) 1 4), (.buf (b5 + 4) 1 7)], .sl (.buf (b5 + 4) 1 7) 48 7 ([(Con.mk 0 1 0 (Range.mk 1 2 true true))].map Con.cs) false, .sl (.buf (b5 + 1) 1 4) 25 4 ([ZG].map Form.cs) false]) rfl ?_ ?_
 ·refine .split rfl rfl ?_ ?_ <;> intro hc1
  ·skip
   refine .wanted rfl rfl (.move (v := (vi x1.1)) rfl rfl (.wanted rfl rfl (.int (m := x1.1) (m' := 1) (r := .bool (x1.1 == 1)) rfl rfl rfl rfl rfl (.Ze (v := (vb (x1.1 == 1))) rfl rfl rfl (.nil ?_)))))
   exact ⟨⟨Z1D hc1, rfl, rfl, rfl, rfl, rfl, rfl, trivial⟩, (((H.erase 7).erase 3).erase 1).weak (by omega) (Nat.le_refl _)⟩
  ·skip
   refine .pass rfl rfl rfl (.pass rfl rfl rfl (.Zg (v := (vb false)) rfl rfl rfl (.nil ?_)))
   exact ⟨⟨Z1E hc1, rfl, rfl, rfl, rfl, rfl, rfl, trivial⟩, (((H.erase 7).erase 3).erase 1).weak (by omega) (Nat.le_refl _)⟩
 ·rintro e σ ⟨he, H⟩
  obtain ⟨e, rfl⟩ := he.ex
  refine .move (v := (vb (x1.2 && (x1.1 == 1)))) rfl rfl ?_
  refine .mid 3 (K1 := fun e σ => Z4 e [(48, (vb ((x1.2 && (x1.1 == 1)) && (!x2.2)))), (6, (.ptr (b5 + 6) 3 0)), (7, w1), (8, (vi x3.2)), (9, w2), (10, (vi x4.2))] ∧ Has σ (b8 + 9) (b8 + 38) [.sl w2 3 1 (x4.1.map (cI .i64)) true, .sl w1 3 1 (x3.1.map (cI .i64)) true, .blk (b5 + 6) 36 [(vi 2), (.buf (b5 + 1) 1 4), (.buf (b5 + 4) 1 7)], .sl (.buf (b5 + 4) 1 7) 48 7 ([(Con.mk 0 1 0 (Range.mk 1 2 true true))].map Con.cs) false, .sl (.buf (b5 + 1) 1 4) 25 4 ([ZG].map Form.cs) false]) rfl ?_ ?_
  ·refine .split rfl rfl ?_ ?_ <;> intro hc2
   ·skip
    refine .wanted rfl rfl (.move (v := (vb x2.2)) rfl rfl (.wanted rfl rfl (.not (b := x2.2) rfl rfl (.Ze (v := (vb (!x2.2))) rfl rfl rfl (.nil ?_)))))
    exact ⟨⟨Z1D hc2, rfl, rfl, rfl, rfl, rfl, trivial⟩, H.weak (by omega) (Nat.le_refl _)⟩
   ·skip
    refine .pass rfl rfl rfl (.pass rfl rfl rfl (.Zg (v := (vb false)) rfl rfl rfl (.nil ?_)))
    exact ⟨⟨Z1E hc2, rfl, rfl, rfl, rfl, rfl, trivial⟩, H.weak (by omega) (Nat.le_refl _)⟩
  ·rintro e σ ⟨he, H⟩
   obtain ⟨e, rfl⟩ := he.ex
   refine .move (v := (vb ((x1.2 && (x1.1 == 1)) && (!x2.2)))) rfl rfl ?_
   obtain ⟨y1, hj1, h⟩ := bind_some h
   refine .mid 4 (K1 := fun e σ => Z4 e [(53, (vb y1)), (6, (.ptr (b5 + 6) 3 0)), (7, w1), (8, (vi x3.2)), (9, w2), (10, (vi x4.2))] ∧ Has σ (b8 + 14) (b8 + 38) [.sl w2 3 1 (x4.1.map (cI .i64)) true, .sl w1 3 1 (x3.1.map (cI .i64)) true, .blk (b5 + 6) 36 [(vi 2), (.buf (b5 + 1) 1 4), (.buf (b5 + 4) 1 7)], .sl (.buf (b5 + 4) 1 7) 48 7 ([(Con.mk 0 1 0 (Range.mk 1 2 true true))].map Con.cs) false, .sl (.buf (b5 + 1) 1 4) 25 4 ([ZG].map Form.cs) false]) rfl ?_ ?_
   ·refine .split rfl rfl ?_ ?_ <;> intro hc3
    ·replace h := Z6 hc3 hj1
     refine .wanted rfl rfl (.ZX (off := 0) (cs := [(vi 2), (.buf (b5 + 1) 1 4), (.buf (b5 + 4) 1 7)]) H 2 rfl rfl rfl rfl rfl rfl rfl nofun rfl (.wanted rfl rfl ?_))
     obtain ⟨x5, q5, h⟩ := bind_some h
     refine .Z6W (xs := [(.agg [(vi 2), (.buf (b5 + 1) 1 4), (.buf (b5 + 4) 1 7)])]) (ys := [(.agg (vs (Net.cs (Net.mk 2 [ZG] [(Con.mk 0 1 0 (Range.mk 1 2 true true))]))))]) H rfl (.cons (.a (.cons (.v _) (.cons (.s 4 rfl) (.cons (.s 3 rfl) .nil)))) .nil) (Z7Z q5) rfl rfl nofun rfl fun σ H => (.wanted rfl rfl (.int (m := x5) (m' := 0) (r := .bool (x5 == 0)) rfl rfl rfl rfl rfl (.Ze (v := (vb (x5 == 0))) rfl rfl rfl (.nil ?_))))
     replace h := sj h; subst h
     exact ⟨⟨rfl, rfl, rfl, rfl, rfl, rfl, trivial⟩, H.weak (by omega) (Nat.le_refl _)⟩
    ·replace h := Z7 hc3 hj1
     refine .pass rfl rfl rfl (.pass rfl rfl rfl (.pass rfl rfl rfl (.Zg (v := (vb false)) rfl rfl rfl (.nil ?_))))
     replace h := sj h; subst h
     exact ⟨⟨rfl, rfl, rfl, rfl, rfl, rfl, trivial⟩, H.weak (by omega) (Nat.le_refl _)⟩
   ·rintro e σ ⟨he, H⟩
    obtain ⟨e, rfl⟩ := he.ex
    refine .move (v := (vb y1)) rfl rfl ?_
    obtain ⟨y2, hj2, h⟩ := bind_some h
    refine .mid 4 (K1 := fun e σ => Z4 e [(58, (vb y2)), (7, w1), (8, (vi x3.2)), (9, w2), (10, (vi x4.2))] ∧ Has σ (b8 + 19) (b8 + 38) [.sl w2 3 1 (x4.1.map (cI .i64)) true, .sl w1 3 1 (x3.1.map (cI .i64)) true]) rfl ?_ ?_
    ·refine .split rfl rfl ?_ ?_ <;> intro hc4
     ·replace h := Z6 hc4 hj2
      refine .wanted rfl rfl (.ZX (off := 0) (cs := [(vi 2), (.buf (b5 + 1) 1 4), (.buf (b5 + 4) 1 7)]) H 2 rfl rfl rfl rfl rfl rfl rfl nofun rfl (.wanted rfl rfl (.Z2o (sz := 1) ([3, 9].map (cI .i64)) H (by omega) (by omega) rfl rfl rfl rfl rfl rfl rfl rfl rfl fun σ H => (.wanted rfl rfl ?_))))
      obtain ⟨x6, q6, h⟩ := bind_some h
      refine .Z6W (xs := [(.agg [(vi 2), (.buf (b5 + 1) 1 4), (.buf (b5 + 4) 1 7)]), (.buf (b8 + 16) 2 1)]) (ys := [(.agg (vs (Net.cs (Net.mk 2 [ZG] [(Con.mk 0 1 0 (Range.mk 1 2 true true))])))), (vl (cI .i64) [3, 9])]) H rfl (.cons (.a (.cons (.v _) (.cons (.s 5 rfl) (.cons (.s 4 rfl) .nil)))) (.cons (.c (.s 0 rfl)) .nil)) (Z10 q6) rfl rfl nofun rfl fun σ H => (.Ze (v := (vb x6)) rfl rfl rfl (.nil ?_))
      replace h := sj h; subst h
      exact ⟨⟨rfl, rfl, rfl, rfl, rfl, trivial⟩, ((((H.erase 5).erase 4).erase 3).erase 0).weak (by omega) (Nat.le_refl _)⟩
     ·replace h := Z7 hc4 hj2
      refine .pass rfl rfl rfl (.pass rfl rfl rfl (.pass rfl rfl rfl (.Zg (v := (vb false)) rfl rfl rfl (.nil ?_))))
      replace h := sj h; subst h
      exact ⟨⟨rfl, rfl, rfl, rfl, rfl, trivial⟩, (((H.erase 4).erase 3).erase 2).weak (by omega) (Nat.le_refl _)⟩
    ·rintro e σ ⟨he, H⟩
     obtain ⟨e, rfl⟩ := he.ex
     refine .move (v := (vb y2)) rfl rfl ?_
     refine .mid 3 (K1 := fun e σ => Z4 e [(62, (vb (y2 && (x3.2 == 0)))), (7, w1), (9, w2), (10, (vi x4.2))] ∧ Has σ (b8 + 23) (b8 + 38) [.sl w2 3 1 (x4.1.map (cI .i64)) true, .sl w1 3 1 (x3.1.map (cI .i64)) true]) rfl ?_ ?_
     ·refine .split rfl rfl ?_ ?_ <;> intro hc5
      ·skip
       refine .wanted rfl rfl (.move (v := (vi x3.2)) rfl rfl (.wanted rfl rfl (.int (m := x3.2) (m' := 0) (r := .bool (x3.2 == 0)) rfl rfl rfl rfl rfl (.Ze (v := (vb (x3.2 == 0))) rfl rfl rfl (.nil ?_)))))
       exact ⟨⟨Z1D hc5, rfl, rfl, rfl, trivial⟩, H.weak (by omega) (Nat.le_refl _)⟩
      ·skip
       refine .pass rfl rfl rfl (.pass rfl rfl rfl (.Zg (v := (vb false)) rfl rfl rfl (.nil ?_)))
       exact ⟨⟨Z1E hc5, rfl, rfl, rfl, trivial⟩, H.weak (by omega) (Nat.le_refl _)⟩
     ·rintro e σ ⟨he, H⟩
      obtain ⟨e, rfl⟩ := he.ex
      refine .move (v := (vb (y2 && (x3.2 == 0)))) rfl rfl ?_
      obtain ⟨y3, hj3, h⟩ := bind_some h
      refine .mid 4 (K1 := fun e σ => Z4 e [(67, (vb y3)), (9, w2), (10, (vi x4.2))] ∧ Has σ (b8 + 28) (b8 + 38) [.sl w2 3 1 (x4.1.map (cI .i64)) true]) rfl ?_ ?_
      ·refine .split rfl rfl ?_ ?_ <;> intro hc6
       ·replace h := Z6 hc6 hj3
        refine .wanted rfl rfl (.move (v := w1) rfl rfl (.wanted rfl rfl (.Z2o (sz := 1) ([0].map (cI .i64)) H (by omega) (by omega) rfl rfl rfl rfl rfl rfl rfl rfl rfl fun σ H => (.wanted rfl rfl ?_))))
        obtain ⟨x7, q7, h⟩ := bind_some h
        refine .Z6W (xs := [w1, (.buf (b8 + 25) 1 1)]) (ys := [(vl (cI .i64) x3.1), (vl (cI .i64) [0])]) H rfl (.cons (.c (.s 2 rfl)) (.cons (.c (.s 0 rfl)) .nil)) (Z1o q7) rfl rfl nofun rfl fun σ H => (.Ze (v := (vb x7)) rfl rfl rfl (.nil ?_))
        replace h := sj h; subst h
        exact ⟨⟨rfl, rfl, rfl, trivial⟩, ((H.erase 2).erase 0).weak (by omega) (Nat.le_refl _)⟩
       ·replace h := Z7 hc6 hj3
        refine .pass rfl rfl rfl (.pass rfl rfl rfl (.pass rfl rfl rfl (.Zg (v := (vb false)) rfl rfl rfl (.nil ?_))))
        replace h := sj h; subst h
        exact ⟨⟨rfl, rfl, rfl, trivial⟩, (H.erase 1).weak (by omega) (Nat.le_refl _)⟩
      ·rintro e σ ⟨he, H⟩
       obtain ⟨e, rfl⟩ := he.ex
       refine .move (v := (vb y3)) rfl rfl ?_
       refine .mid 3 (K1 := fun e σ => Z4 e [(71, (vb (y3 && (x4.2 == 0)))), (9, w2)] ∧ Has σ (b8 + 32) (b8 + 38) [.sl w2 3 1 (x4.1.map (cI .i64)) true]) rfl ?_ ?_
       ·refine .split rfl rfl ?_ ?_ <;> intro hc7
        ·skip
         refine .wanted rfl rfl (.move (v := (vi x4.2)) rfl rfl (.wanted rfl rfl (.int (m := x4.2) (m' := 0) (r := .bool (x4.2 == 0)) rfl rfl rfl rfl rfl (.Ze (v := (vb (x4.2 == 0))) rfl rfl rfl (.nil ?_)))))
         exact ⟨⟨Z1D hc7, rfl, trivial⟩, H.weak (by omega) (Nat.le_refl _)⟩
        ·skip
         refine .pass rfl rfl rfl (.pass rfl rfl rfl (.Zg (v := (vb false)) rfl rfl rfl (.nil ?_)))
         exact ⟨⟨Z1E hc7, rfl, trivial⟩, H.weak (by omega) (Nat.le_refl _)⟩
       ·rintro e σ ⟨he, H⟩
        obtain ⟨e, rfl⟩ := he.ex
        refine .move (v := (vb (y3 && (x4.2 == 0)))) rfl rfl ?_
        obtain ⟨y4, hj4, h⟩ := bind_some h
        refine .mid 4 (K1 := fun e σ => Z4 e [(76, (vb y4))] ∧ Has σ (b8 + 37) (b8 + 38) []) rfl ?_ ?_
        ·refine .split rfl rfl ?_ ?_ <;> intro hc8
         ·replace h := Z6 hc8 hj4
          refine .wanted rfl rfl (.move (v := w2) rfl rfl (.wanted rfl rfl (.Z2o (sz := 1) ([0].map (cI .i64)) H (by omega) (by omega) rfl rfl rfl rfl rfl rfl rfl rfl rfl fun σ H => (.wanted rfl rfl ?_))))
          obtain ⟨x8, q8, h⟩ := bind_some h
          refine .Z6W (xs := [w2, (.buf (b8 + 34) 1 1)]) (ys := [(vl (cI .i64) x4.1), (vl (cI .i64) [0])]) H rfl (.cons (.c (.s 1 rfl)) (.cons (.c (.s 0 rfl)) .nil)) (Z1o q8) rfl rfl nofun rfl fun σ H => (.Ze (v := (vb x8)) rfl rfl rfl (.nil ?_))
          replace h := sj h; subst h
          exact ⟨⟨rfl, trivial⟩, ((H.erase 1).erase 0).weak (by omega) (Nat.le_refl _)⟩
         ·replace h := Z7 hc8 hj4
          refine .pass rfl rfl rfl (.pass rfl rfl rfl (.pass rfl rfl rfl (.Zg (v := (vb false)) rfl rfl rfl (.nil ?_))))
          replace h := sj h; subst h
          exact ⟨⟨rfl, trivial⟩, (H.erase 0).weak (by omega) (Nat.le_refl _)⟩
        ·rintro e σ ⟨he, H⟩
         obtain ⟨e, rfl⟩ := he.ex
         refine .assign (v := (vb y4)) rfl rfl (.nila H fun H => (.ret ?_))
         replace h := sj h; subst h
         exact (Ends.H (xs := [(vb y4)]) (.inr rfl) H (.tmp (v := (vb y4)) rfl .nil) (.one (.c (.v _))))

theorem Z2Y {r : Bool} (h : ZV = r) : Fn CX 8 [] (vb r) := by
 subst h
 exact Z5m Z5R

theorem Z70 {f : Form} {r : Bool} (h : ZW f = some r) : Fn CX 23 [(.agg (vs (Form.cs f)))] (vb r) := by
 refine Fn.ends Try.func23 rfl rfl rfl rfl rfl rfl ?_
 have H : Hs (⟨0, fun _ => .none⟩ : Heap) [] := Has.nil (Nat.le_refl _)
 generalize (⟨0, fun _ => .none⟩ : Heap) = σ at H ⊢
 unfold ZW at h
 refine .then (.Z0 2 rfl H fun b1 σ H => (.boxH (cs := (vF f)) H (by omega) (by omega) rfl rfl rfl fun σ H => (.assign (v := (vb false)) rfl rfl (.nila H fun H => (.then ?_)))))
 refine .then (.Z0 13 rfl H fun b2 σ H => (.ZX (off := 0) (cs := (vF f)) H 0 rfl rfl rfl rfl rfl rfl rfl nofun rfl ?_))
 obtain ⟨x1, q1, h⟩ := bind_some h
 refine .call (ys := [(.agg (vF f))]) (r := (vb x1)) rfl (Z6S q1) rfl (.not (b := x1) rfl rfl (.move (v := (vb (!x1))) rfl rfl ?_))
 obtain ⟨y1, hj1, h⟩ := bind_some h
 refine .mid 4 (K1 := fun e σ => Z4 e [(16, (vb y1)), (1, (.ptr (b1 + 0) 4 0))] ∧ Has σ (b2 + 8) (b2 + 13) [.blk (b1 + 0) 25 (vF f)]) rfl ?_ ?_
 ·refine .split rfl rfl ?_ ?_ <;> intro hc1
  ·replace h := Z6 hc1 hj1
   refine .pass rfl rfl rfl (.pass rfl rfl rfl (.pass rfl rfl rfl (.Ze (v := (vb true)) rfl rfl rfl (.nil ?_))))
   replace h := sj h; subst h
   exact ⟨⟨rfl, rfl, trivial⟩, H.weak (by omega) (Nat.le_refl _)⟩
  ·replace h := Z7 hc1 hj1
   refine .wanted rfl rfl (.ZX (off := 0) (cs := (vF f)) H 0 rfl rfl rfl rfl rfl rfl rfl nofun rfl (.wanted rfl rfl ?_))
   obtain ⟨x2, q2, h⟩ := bind_some h
   refine .call (ys := [(.agg (vF f))]) (r := (vi x2)) rfl (Z6U q2) rfl (.wanted rfl rfl (.int (m := x2) (m' := 0) (r := .bool (x2 != 0)) rfl rfl rfl rfl rfl (.Zg (v := (vb (x2 != 0))) rfl rfl rfl (.nil ?_))))
   replace h := sj h; subst h
   exact ⟨⟨rfl, rfl, trivial⟩, H.weak (by omega) (Nat.le_refl _)⟩
 ·rintro e σ ⟨he, H⟩
  obtain ⟨e, rfl⟩ := he.ex
  refine .move (v := (vb y1)) rfl rfl ?_
  refine .mid 4 (K1 := fun e σ => Z4 e [(21, (vb (y1 || (decide (f.Period > 200))))), (1, (.ptr (b1 + 0) 4 0))] ∧ Has σ (b2 + 13) (b2 + 13) [.blk (b1 + 0) 25 (vF f)]) rfl ?_ ?_
  ·refine .split rfl rfl ?_ ?_ <;> intro hc2
   ·skip
    refine .pass rfl rfl rfl (.pass rfl rfl rfl (.pass rfl rfl rfl (.Ze (v := (vb true)) rfl rfl rfl (.nil ?_))))
    exact ⟨⟨or_T hc2, rfl, trivial⟩, H.weak (by omega) (Nat.le_refl _)⟩
   ·skip
    refine .wanted rfl rfl (.Z2 (off := 0) (fo := 0) H 0 rfl rfl rfl rfl rfl nofun rfl (.wanted rfl rfl (.ZQ (off := 0) (v := (vi f.Period)) H 0 rfl rfl rfl rfl rfl nofun rfl (.wanted rfl rfl (.int (m := f.Period) (m' := 200) (r := .bool (decide (f.Period > 200))) rfl rfl rfl rfl rfl ?_)))))
    refine .Zg (v := (vb (decide (f.Period > 200)))) rfl rfl rfl (.nil ?_)
    exact ⟨⟨or_F hc2, rfl, trivial⟩, H.weak (by omega) (Nat.le_refl _)⟩
  ·rintro e σ ⟨he, H⟩
   obtain ⟨e, rfl⟩ := he.ex
   refine .nila H fun H => ?_
   refine .whether (v := (y1 || (decide (f.Period > 200)))) rfl ?_ ?_ <;> intro hc3
   ·replace h := Z6 hc3 h
    refine .then (.Z0 1 rfl H fun b3 σ H => (.assign (v := (vb false)) rfl rfl (.nila H fun H => (.ret ?_))))
    replace h := sj h; subst h
    exact (Ends.H (xs := [(vb false)]) (.inr rfl) H (.tmp (v := (vb false)) rfl .nil) (.one (.c (.v _))))
   ·replace h := Z7 hc3 h
    refine .skip (.then (.then (.Z0 4 rfl H fun b4 σ H => (.Z2 (off := 0) (fo := 2) H 0 rfl rfl rfl rfl rfl nofun rfl (.ZQ (off := 2) (v := (vl (cL Span.cs) f.Core)) H 0 rfl rfl rfl rfl rfl nofun rfl ?_)))))
    refine .Z0B (c := (cL Span.cs)) (xs := f.Core) rfl rfl rfl (.move (v := (vi 0)) rfl rfl (.nila H fun H => (.inBlock ?_)))
    obtain ⟨y2, hj2, h⟩ := bind_some h
    obtain ⟨n1, hj2⟩ := Zc.1 hj2
    refine .mono (Runs.ZJ hj2 (fun s1 e σ => Z4 e [(1, (.ptr (b1 + 0) 4 0)), (23, (vl (cL Span.cs) f.Core)), (24, (vi (f.Core.length : Int))), (25, (vi s1))] ∧ Hs σ [.blk (b1 + 0) 25 (vF f)]) (fun y2 x e σ => (∃ a1, y2 = (.go a1) ∧ x = .exit 0 ∧ Z4 e [(1, (.ptr (b1 + 0) 4 0))] ∧ Hs σ [.blk (b1 + 0) 25 (vF f)]) ∨ (∃ r', y2 = (.ret r') ∧ x = .ret ∧ Ends CX Try.f23.results.toList (vb r') x e σ)) ⟨⟨rfl, rfl, rfl, rfl, trivial⟩, H⟩ ?_) ?_
    ·intro s1 e σ hI z h
     obtain ⟨he, H⟩ := hI
     obtain ⟨e, rfl⟩ := he.ex
     unfold ZW.s0 at h
     refine .then (.Z0 1 rfl H fun b5 σ H => (.int (m := s1) (m' := (f.Core.length : Int)) (r := .bool (decide (s1 < (f.Core.length : Int)))) rfl rfl rfl rfl rfl (.nila H fun H => (.then ?_))))
     refine .whether (v := (decide (s1 < (f.Core.length : Int)))) rfl ?_ ?_ <;> intro hc4
     ·replace h := Z6 hc4 h
      refine .skip (.then (.inBlock (.then (.Z0 3 rfl H fun b6 σ H => ?_))))
      obtain ⟨x3, q3, h⟩ := bind_some h
      refine .Z0C (c := (cL Span.cs)) (u := x3) rfl rfl q3 rfl rfl rfl rfl (.Z2H (u := (.sl (x3.map Span.cs))) rfl rfl rfl rfl (.assign (v := (vl Span.cs x3)) rfl rfl (.nila H fun H => (.then (.Z0 8 rfl H fun b7 σ H => ?_)))))
      refine .move (v := (vl Span.cs x3)) rfl rfl ?_
      obtain ⟨x4, q4, h⟩ := bind_some h
      refine .call (ys := [(vl Span.cs x3)]) (r := (.tup [(.agg [(vi x4.1.From), (vi x4.1.To)]), (vb x4.2)])) rfl (Z4q q4) rfl (.move (v := (.tup [(.agg [(vi x4.1.From), (vi x4.1.To)]), (vb x4.2)])) rfl rfl (.extract (v := (.agg [(vi x4.1.From), (vi x4.1.To)])) rfl rfl rfl (.extract (v := (vb x4.2)) rfl rfl rfl (.Z0t (cs := [(vi 0), (vi 0)]) H (by omega) (by omega) rfl rfl fun σ H => (.Z0U (off := 0) (cells' := [(vi x4.1.From), (vi x4.1.To)]) H 0 rfl rfl rfl rfl rfl rfl rfl rfl rfl nofun fun σ H => ?_)))))
      refine .assign (v := (vb x4.2)) rfl rfl (.nila H fun H => (.then (.Z0 11 rfl H fun b8 σ H => (.move (v := (vb x4.2)) rfl rfl (.move (v := (vb x4.2)) rfl rfl ?_)))))
      refine .mid 9 (K1 := fun e σ => Z4 e [(44, (vb (x4.2 && ((decide (x4.1.From < (-100))) || (decide (x4.1.To > 100)))))), (1, (.ptr (b1 + 0) 4 0)), (23, (vl (cL Span.cs) f.Core)), (24, (vi (f.Core.length : Int))), (25, (vi s1))] ∧ Has σ (b8 + 11) (b8 + 11) [.blk (b1 + 0) 25 (vF f)]) rfl ?_ ?_
      ·refine .split rfl rfl ?_ ?_ <;> intro hc5
       ·skip
        refine .wanted rfl rfl (.Z2 (off := 0) (fo := 0) H 0 rfl rfl rfl rfl rfl nofun rfl (.wanted rfl rfl (.ZQ (off := 0) (v := (vi x4.1.From)) H 0 rfl rfl rfl rfl rfl nofun rfl (.wanted rfl rfl (.int (m := x4.1.From) (m' := (-100)) (r := .bool (decide (x4.1.From < (-100)))) rfl rfl rfl rfl rfl ?_)))))
        refine .wanted rfl rfl (.move (v := (vb (decide (x4.1.From < (-100))))) rfl rfl ?_)
        refine .mid 4 (K1 := fun e σ => Z4 e [(43, (vb ((decide (x4.1.From < (-100))) || (decide (x4.1.To > 100))))), (1, (.ptr (b1 + 0) 4 0)), (23, (vl (cL Span.cs) f.Core)), (24, (vi (f.Core.length : Int))), (25, (vi s1)), (35, (vb true))] ∧ Has σ (b8 + 10) (b8 + 11) [.blk (b1 + 0) 25 (vF f)]) rfl ?_ ?_
        ·refine .split rfl rfl ?_ ?_ <;> intro hc6
         ·skip
          refine .pass rfl rfl rfl (.pass rfl rfl rfl (.pass rfl rfl rfl (.wanted rfl rfl (.Ze (v := (vb true)) rfl rfl rfl (.nil ?_)))))
          exact ⟨⟨or_T hc6, rfl, rfl, rfl, rfl, rfl, trivial⟩, (H.erase 0).weak (by omega) (Nat.le_refl _)⟩
         ·skip
          refine .wanted rfl rfl (.Z2 (off := 0) (fo := 1) H 0 rfl rfl rfl rfl rfl nofun rfl (.wanted rfl rfl (.ZQ (off := 1) (v := (vi x4.1.To)) H 0 rfl rfl rfl rfl rfl nofun rfl (.wanted rfl rfl (.int (m := x4.1.To) (m' := 100) (r := .bool (decide (x4.1.To > 100))) rfl rfl rfl rfl rfl ?_)))))
          refine .wanted rfl rfl (.Zg (v := (vb (decide (x4.1.To > 100)))) rfl rfl rfl (.nil ?_))
          exact ⟨⟨or_F hc6, rfl, rfl, rfl, rfl, rfl, trivial⟩, (H.erase 0).weak (by omega) (Nat.le_refl _)⟩
        ·rintro e σ ⟨he, H⟩
         obtain ⟨e, rfl⟩ := he.ex
         refine .Ze (v := (vb ((decide (x4.1.From < (-100))) || (decide (x4.1.To > 100))))) rfl rfl rfl (.nil ?_)
         exact ⟨⟨Z1D hc5, rfl, rfl, rfl, rfl, trivial⟩, H.weak (by omega) (Nat.le_refl _)⟩
       ·skip
        refine .pass rfl rfl rfl (.pass rfl rfl rfl (.pass rfl rfl rfl (.pass rfl rfl rfl (.Z0S rfl rfl rfl (.Z0S rfl rfl rfl ?_)))))
        refine .Z0S rfl rfl rfl (.pass rfl rfl rfl (.Zg (v := (vb false)) rfl rfl rfl (.nil ?_)))
        exact ⟨⟨Z1E hc5, rfl, rfl, rfl, rfl, trivial⟩, (H.erase 0).weak (by omega) (Nat.le_refl _)⟩
      ·rintro e σ ⟨he, H⟩
       obtain ⟨e, rfl⟩ := he.ex
       refine .nila H fun H => ?_
       refine .whether (v := (x4.2 && ((decide (x4.1.From < (-100))) || (decide (x4.1.To > 100))))) rfl ?_ ?_ <;> intro hc7
       ·replace h := Z6 hc7 h
        refine .then (.Z0 1 rfl H fun b9 σ H => (.assign (v := (vb false)) rfl rfl (.nila H fun H => (.ret ?_))))
        replace h := sj h; subst h
        exact ⟨nofun, (.inr ⟨_, rfl, rfl, (Ends.H (xs := [(vb false)]) (.inr rfl) H (.tmp (v := (vb false)) rfl .nil) (.one (.c (.v _))))⟩)⟩
       ·replace h := Z7 hc7 h
        refine .skip (.Z0 2 rfl H fun b10 σ H => (.int (m := s1) (m' := 1) (r := .int .i64 (w64 (s1 + 1))) rfl rfl rfl rfl rfl (.move (v := (vi (w64 (s1 + 1)))) rfl rfl (.nila H fun H => ?_))))
        replace h := sj h; subst h
        exact ⟨rfl, ⟨rfl, rfl, rfl, rfl, trivial⟩, H⟩
     ·replace h := Z7 hc4 h
      refine .exit ?_
      replace h := sj h; subst h
      exact ⟨nofun, (.inl ⟨_, rfl, rfl, ⟨rfl, trivial⟩, H⟩)⟩
    ·rintro x e σ (⟨a2, rfl, rfl, he, H⟩ | ⟨r', rfl, rfl, hE⟩)
     ·skip
      replace h := jgo h
      obtain ⟨e, rfl⟩ := he.ex
      refine .then (.then (.Z0 4 rfl H fun b11 σ H => (.Z2 (off := 0) (fo := 3) H 0 rfl rfl rfl rfl rfl nofun rfl (.ZQ (off := 3) (v := (vl Granule.cs f.Odd)) H 0 rfl rfl rfl rfl rfl nofun rfl (.Z0B (c := Granule.cs) (xs := f.Odd) rfl rfl rfl ?_)))))
      refine .move (v := (vi 0)) rfl rfl (.nila H fun H => (.inBlock ?_))
      obtain ⟨y3, hj3, h⟩ := bind_some h
      obtain ⟨n2, hj3⟩ := Zc.1 hj3
      refine .mono (Runs.ZJ hj3 (fun s2 e σ => Z4 e [(47, (vl Granule.cs f.Odd)), (48, (vi (f.Odd.length : Int))), (49, (vi s2))] ∧ Hs σ []) (fun y3 x e σ => (∃ a3, y3 = (.go a3) ∧ x = .exit 2 ∧ Z4 e [] ∧ Hs σ []) ∨ (∃ r', y3 = (.ret r') ∧ x = .ret ∧ Ends CX Try.f23.results.toList (vb r') x e σ)) ⟨⟨rfl, rfl, rfl, trivial⟩, (H.erase 0)⟩ ?_) ?_
      ·intro s2 e σ hI z h
       obtain ⟨he, H⟩ := hI
       obtain ⟨e, rfl⟩ := he.ex
       unfold ZW.s1 at h
       refine .then (.Z0 1 rfl H fun b12 σ H => (.int (m := s2) (m' := (f.Odd.length : Int)) (r := .bool (decide (s2 < (f.Odd.length : Int)))) rfl rfl rfl rfl rfl (.nila H fun H => (.then ?_))))
       refine .whether (v := (decide (s2 < (f.Odd.length : Int)))) rfl ?_ ?_ <;> intro hc8
       ·replace h := Z6 hc8 h
        refine .skip (.then (.inBlock (.then (.Z0 4 rfl H fun b13 σ H => ?_))))
        obtain ⟨x5, q5, h⟩ := bind_some h
        refine .Z0C (c := Granule.cs) (u := x5) rfl rfl q5 rfl rfl rfl rfl (.Z2F (cs := [(.int .i64 x5.Index), (.sl (x5.Ticks.map Span.cs))]) rfl rfl rfl rfl rfl rfl (.Z0t (cs := [(vi 0), .nils]) H (by omega) (by omega) rfl rfl fun σ H => (.Z0U (off := 0) (cells' := [(vi x5.Index), (vl Span.cs x5.Ticks)]) H 0 rfl rfl rfl rfl rfl rfl rfl rfl rfl nofun fun σ H => (.nila H fun H => (.then ?_)))))
        refine .Z0 8 rfl H fun b14 σ H => (.Z2 (off := 0) (fo := 0) H 0 rfl rfl rfl rfl rfl nofun rfl (.ZQ (off := 0) (v := (vi x5.Index)) H 0 rfl rfl rfl rfl rfl nofun rfl (.int (m := x5.Index) (m' := (-100)) (r := .bool (decide (x5.Index < (-100)))) rfl rfl rfl rfl rfl (.move (v := (vb (decide (x5.Index < (-100))))) rfl rfl ?_))))
        refine .mid 4 (K1 := fun e σ => Z4 e [(60, (vb ((decide (x5.Index < (-100))) || (decide (x5.Index > 100))))), (47, (vl Granule.cs f.Odd)), (48, (vi (f.Odd.length : Int))), (49, (vi s2))] ∧ Has σ (b14 + 8) (b14 + 8) []) rfl ?_ ?_
        ·refine .split rfl rfl ?_ ?_ <;> intro hc9
         ·skip
          refine .pass rfl rfl rfl (.pass rfl rfl rfl (.pass rfl rfl rfl (.Ze (v := (vb true)) rfl rfl rfl (.nil ?_))))
          exact ⟨⟨or_T hc9, rfl, rfl, rfl, trivial⟩, (H.erase 0).weak (by omega) (Nat.le_refl _)⟩
         ·skip
          refine .wanted rfl rfl (.Z2 (off := 0) (fo := 0) H 0 rfl rfl rfl rfl rfl nofun rfl (.wanted rfl rfl (.ZQ (off := 0) (v := (vi x5.Index)) H 0 rfl rfl rfl rfl rfl nofun rfl (.wanted rfl rfl (.int (m := x5.Index) (m' := 100) (r := .bool (decide (x5.Index > 100))) rfl rfl rfl rfl rfl ?_)))))
          refine .Zg (v := (vb (decide (x5.Index > 100)))) rfl rfl rfl (.nil ?_)
          exact ⟨⟨or_F hc9, rfl, rfl, rfl, trivial⟩, (H.erase 0).weak (by omega) (Nat.le_refl _)⟩
        ·rintro e σ ⟨he, H⟩
         obtain ⟨e, rfl⟩ := he.ex
         refine .nila H fun H => ?_
         refine .whether (v := ((decide (x5.Index < (-100))) || (decide (x5.Index > 100)))) rfl ?_ ?_ <;> intro hc10
         ·replace h := Z6 hc10 h
          refine .then (.Z0 1 rfl H fun b15 σ H => (.assign (v := (vb false)) rfl rfl (.nila H fun H => (.ret ?_))))
          replace h := sj h; subst h
          exact ⟨nofun, (.inr ⟨_, rfl, rfl, (Ends.H (xs := [(vb false)]) (.inr rfl) H (.tmp (v := (vb false)) rfl .nil) (.one (.c (.v _))))⟩)⟩
         ·replace h := Z7 hc10 h
          refine .skip (.Z0 2 rfl H fun b16 σ H => (.int (m := s2) (m' := 1) (r := .int .i64 (w64 (s2 + 1))) rfl rfl rfl rfl rfl (.move (v := (vi (w64 (s2 + 1)))) rfl rfl (.nila H fun H => ?_))))
          replace h := sj h; subst h
          exact ⟨rfl, ⟨rfl, rfl, rfl, trivial⟩, H⟩
       ·replace h := Z7 hc8 h
        refine .exit ?_
        replace h := sj h; subst h
        exact ⟨nofun, (.inl ⟨_, rfl, rfl, trivial, H⟩)⟩
      ·rintro x e σ (⟨a4, rfl, rfl, he, H⟩ | ⟨r', rfl, rfl, hE⟩)
       ·skip
        replace h := jgo h
        obtain ⟨e, rfl⟩ := he.ex
        refine .then (.Z0 1 rfl H fun b17 σ H => (.assign (v := (vb true)) rfl rfl (.nila H fun H => (.ret ?_))))
        replace h := sj h; subst h
        exact (Ends.H (xs := [(vb true)]) (.inr rfl) H (.tmp (v := (vb true)) rfl .nil) (.one (.c (.v _))))
       ·skip
        replace h := jret h
        replace h := sj h; subst h
        exact hE
     ·skip
      replace h := jret h
      replace h := sj h; subst h
      exact hE

theorem Z7g {n : Net} {r : Bool} (h : Z0Y n = some r) : Fn CX 10 [(.agg (vs (Net.cs n)))] (vb r) := by
 refine Fn.ends Try.func10 rfl rfl rfl rfl rfl rfl ?_
 have H : Hs (⟨0, fun _ => .none⟩ : Heap) [] := Has.nil (Nat.le_refl _)
 generalize (⟨0, fun _ => .none⟩ : Heap) = σ at H ⊢
 unfold Z0Y at h
 refine .then (.Z0 2 rfl H fun b1 σ H => (.boxH (cs := [(vi n.Vars), (vl Form.cs n.Forms), (vl Con.cs n.Cons)]) H (by omega) (by omega) rfl rfl rfl fun σ H => (.assign (v := (vb false)) rfl rfl (.nila H fun H => (.then ?_)))))
 refine .then (.Z0 15 rfl H fun b2 σ H => (.Z2 (off := 0) (fo := 1) H 0 rfl rfl rfl rfl rfl nofun rfl (.ZQ (off := 1) (v := (vl Form.cs n.Forms)) H 0 rfl rfl rfl rfl rfl nofun rfl (.Z0B (c := Form.cs) (xs := n.Forms) rfl rfl rfl (.int (m := (n.Forms.length : Int)) (m' := 4) (r := .bool (decide ((n.Forms.length : Int) > 4))) rfl rfl rfl rfl rfl ?_)))))
 refine .move (v := (vb (decide ((n.Forms.length : Int) > 4)))) rfl rfl ?_
 refine .mid 5 (K1 := fun e σ => Z4 e [(14, (vb ((decide ((n.Forms.length : Int) > 4)) || (decide ((n.Cons.length : Int) > 8))))), (1, (.ptr (b1 + 0) 3 0))] ∧ Has σ (b2 + 10) (b2 + 15) [.blk (b1 + 0) 36 [(vi n.Vars), (vl Form.cs n.Forms), (vl Con.cs n.Cons)]]) rfl ?_ ?_
 ·refine .split rfl rfl ?_ ?_ <;> intro hc1
  ·skip
   refine .pass rfl rfl rfl (.pass rfl rfl rfl (.pass rfl rfl rfl (.pass rfl rfl rfl (.Ze (v := (vb true)) rfl rfl rfl (.nil ?_)))))
   exact ⟨⟨or_T hc1, rfl, trivial⟩, H.weak (by omega) (Nat.le_refl _)⟩
  ·skip
   refine .wanted rfl rfl (.Z2 (off := 0) (fo := 2) H 0 rfl rfl rfl rfl rfl nofun rfl (.wanted rfl rfl (.ZQ (off := 2) (v := (vl Con.cs n.Cons)) H 0 rfl rfl rfl rfl rfl nofun rfl (.wanted rfl rfl (.Z0B (c := Con.cs) (xs := n.Cons) rfl rfl rfl ?_)))))
   refine .wanted rfl rfl (.int (m := (n.Cons.length : Int)) (m' := 8) (r := .bool (decide ((n.Cons.length : Int) > 8))) rfl rfl rfl rfl rfl (.Zg (v := (vb (decide ((n.Cons.length : Int) > 8)))) rfl rfl rfl (.nil ?_)))
   exact ⟨⟨or_F hc1, rfl, trivial⟩, H.weak (by omega) (Nat.le_refl _)⟩
 ·rintro e σ ⟨he, H⟩
  obtain ⟨e, rfl⟩ := he.ex
  refine .move (v := (vb ((decide ((n.Forms.length : Int) > 4)) || (decide ((n.Cons.length : Int) > 8))))) rfl rfl ?_
  refine .mid 4 (K1 := fun e σ => Z4 e [(19, (vb (((decide ((n.Forms.length : Int) > 4)) || (decide ((n.Cons.length : Int) > 8))) || (decide (n.Vars > 8))))), (1, (.ptr (b1 + 0) 3 0))] ∧ Has σ (b2 + 15) (b2 + 15) [.blk (b1 + 0) 36 [(vi n.Vars), (vl Form.cs n.Forms), (vl Con.cs n.Cons)]]) rfl ?_ ?_
  ·refine .split rfl rfl ?_ ?_ <;> intro hc2
   ·skip
    refine .pass rfl rfl rfl (.pass rfl rfl rfl (.pass rfl rfl rfl (.Ze (v := (vb true)) rfl rfl rfl (.nil ?_))))
    exact ⟨⟨or_T hc2, rfl, trivial⟩, H.weak (by omega) (Nat.le_refl _)⟩
   ·skip
    refine .wanted rfl rfl (.Z2 (off := 0) (fo := 0) H 0 rfl rfl rfl rfl rfl nofun rfl (.wanted rfl rfl (.ZQ (off := 0) (v := (vi n.Vars)) H 0 rfl rfl rfl rfl rfl nofun rfl (.wanted rfl rfl (.int (m := n.Vars) (m' := 8) (r := .bool (decide (n.Vars > 8))) rfl rfl rfl rfl rfl ?_)))))
    refine .Zg (v := (vb (decide (n.Vars > 8)))) rfl rfl rfl (.nil ?_)
    exact ⟨⟨or_F hc2, rfl, trivial⟩, H.weak (by omega) (Nat.le_refl _)⟩
  ·rintro e σ ⟨he, H⟩
   obtain ⟨e, rfl⟩ := he.ex
   refine .nila H fun H => ?_
   refine .whether (v := (((decide ((n.Forms.length : Int) > 4)) || (decide ((n.Cons.length : Int) > 8))) || (decide (n.Vars > 8)))) rfl ?_ ?_ <;> intro hc3
   ·replace h := Z6 hc3 h
    refine .then (.Z0 1 rfl H fun b3 σ H => (.assign (v := (vb false)) rfl rfl (.nila H fun H => (.ret ?_))))
    replace h := sj h; subst h
    exact (Ends.H (xs := [(vb false)]) (.inr rfl) H (.tmp (v := (vb false)) rfl .nil) (.one (.c (.v _))))
   ·replace h := Z7 hc3 h
    refine .skip (.then (.then (.Z0 4 rfl H fun b4 σ H => (.Z2 (off := 0) (fo := 1) H 0 rfl rfl rfl rfl rfl nofun rfl (.ZQ (off := 1) (v := (vl Form.cs n.Forms)) H 0 rfl rfl rfl rfl rfl nofun rfl ?_)))))
    refine .Z0B (c := Form.cs) (xs := n.Forms) rfl rfl rfl (.move (v := (vi 0)) rfl rfl (.nila H fun H => (.inBlock ?_)))
    obtain ⟨y1, hj1, h⟩ := bind_some h
    obtain ⟨n1, hj1⟩ := Zc.1 hj1
    refine .mono (Runs.ZJ hj1 (fun s1 e σ => Z4 e [(1, (.ptr (b1 + 0) 3 0)), (21, (vl Form.cs n.Forms)), (22, (vi (n.Forms.length : Int))), (23, (vi s1))] ∧ Hs σ [.blk (b1 + 0) 36 [(vi n.Vars), (vl Form.cs n.Forms), (vl Con.cs n.Cons)]]) (fun y1 x e σ => (∃ a1, y1 = (.go a1) ∧ x = .exit 0 ∧ Z4 e [(1, (.ptr (b1 + 0) 3 0))] ∧ Hs σ [.blk (b1 + 0) 36 [(vi n.Vars), (vl Form.cs n.Forms), (vl Con.cs n.Cons)]]) ∨ (∃ r', y1 = (.ret r') ∧ x = .ret ∧ Ends CX Try.f10.results.toList (vb r') x e σ)) ⟨⟨rfl, rfl, rfl, rfl, trivial⟩, H⟩ ?_) ?_
    ·intro s1 e σ hI z h
     obtain ⟨he, H⟩ := hI
     obtain ⟨e, rfl⟩ := he.ex
     unfold Z0Y.s0 at h
     refine .then (.Z0 1 rfl H fun b5 σ H => (.int (m := s1) (m' := (n.Forms.length : Int)) (r := .bool (decide (s1 < (n.Forms.length : Int)))) rfl rfl rfl rfl rfl (.nila H fun H => (.then ?_))))
     refine .whether (v := (decide (s1 < (n.Forms.length : Int)))) rfl ?_ ?_ <;> intro hc4
     ·replace h := Z6 hc4 h
      refine .skip (.then (.inBlock (.then (.Z0 4 rfl H fun b6 σ H => ?_))))
      obtain ⟨x1, q1, h⟩ := bind_some h
      refine .Z0C (c := Form.cs) (u := x1) rfl rfl q1 rfl rfl rfl rfl (.Z2F (cs := [(.int .i64 x1.Period), (.int .i64 x1.Count), (.sl (x1.Core.map (cL Span.cs))), (.sl (x1.Odd.map Granule.cs))]) rfl rfl rfl rfl rfl rfl (.Z0t (cs := [(vi 0), (vi 0), .nils, .nils]) H (by omega) (by omega) rfl rfl fun σ H => (.Z0U (off := 0) (cells' := (vF x1)) H 0 rfl rfl rfl rfl rfl rfl rfl rfl rfl nofun fun σ H => (.nila H fun H => (.then ?_)))))
      refine .Z0 3 rfl H fun b7 σ H => (.ZX (off := 0) (cs := (vF x1)) H 0 rfl rfl rfl rfl rfl rfl rfl nofun rfl ?_)
      obtain ⟨x2, q2, h⟩ := bind_some h
      refine .call (ys := [(.agg (vF x1))]) (r := (vb x2)) rfl (Z70 q2) rfl (.not (b := x2) rfl rfl (.nila H fun H => ?_))
      refine .whether (v := (!x2)) rfl ?_ ?_ <;> intro hc5
      ·replace h := Z6 hc5 h
       refine .then (.Z0 1 rfl H fun b8 σ H => (.assign (v := (vb false)) rfl rfl (.nila H fun H => (.ret ?_))))
       replace h := sj h; subst h
       exact ⟨nofun, (.inr ⟨_, rfl, rfl, (Ends.H (xs := [(vb false)]) (.inr rfl) H (.tmp (v := (vb false)) rfl .nil) (.one (.c (.v _))))⟩)⟩
      ·replace h := Z7 hc5 h
       refine .skip (.Z0 2 rfl H fun b9 σ H => (.int (m := s1) (m' := 1) (r := .int .i64 (w64 (s1 + 1))) rfl rfl rfl rfl rfl (.move (v := (vi (w64 (s1 + 1)))) rfl rfl (.nila H fun H => ?_))))
       replace h := sj h; subst h
       exact ⟨rfl, ⟨rfl, rfl, rfl, rfl, trivial⟩, (H.erase 0)⟩
     ·replace h := Z7 hc4 h
      refine .exit ?_
      replace h := sj h; subst h
      exact ⟨nofun, (.inl ⟨_, rfl, rfl, ⟨rfl, trivial⟩, H⟩)⟩
    ·rintro x e σ (⟨a2, rfl, rfl, he, H⟩ | ⟨r', rfl, rfl, hE⟩)
     ·skip
      replace h := jgo h
      obtain ⟨e, rfl⟩ := he.ex
      refine .then (.Z0 4 rfl H fun b10 σ H => (.ZX (off := 0) (cs := [(vi n.Vars), (vl Form.cs n.Forms), (vl Con.cs n.Cons)]) H 0 rfl rfl rfl rfl rfl rfl rfl nofun rfl ?_))
      obtain ⟨x3, q3, h⟩ := bind_some h
      refine .call (ys := [(.agg [(vi n.Vars), (vl Form.cs n.Forms), (vl Con.cs n.Cons)])]) (r := (vi x3)) rfl (Z7Z q3) rfl (.int (m := x3) (m' := 0) (r := .bool (x3 == 0)) rfl rfl rfl rfl rfl (.assign (v := (vb (x3 == 0))) rfl rfl (.nila H fun H => (.ret ?_))))
      replace h := sj h; subst h
      exact (Ends.H (xs := [(vb (x3 == 0))]) (.inr rfl) H (.tmp (v := (vb (x3 == 0))) rfl .nil) (.one (.c (.v _))))
     ·skip
      replace h := jret h
      replace h := sj h; subst h
      exact hE

end Go.Dn
