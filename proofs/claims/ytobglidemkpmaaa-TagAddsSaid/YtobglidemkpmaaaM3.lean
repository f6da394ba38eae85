/- Part 3 of what the row stands on. -/
import Derived.Test.YtobglidemkpmaaaM2
set_option linter.unusedVariables false
set_option linter.unusedSimpArgs false
namespace Go.Dn
open Go Go.Proofs
set_option maxRecDepth 100000
set_option maxHeartbeats 4000000

theorem spans_Move_fn {l : (List Span)} {by' : Int} {r : (List Span) × Int} (h : Z02 l by' = some r) : Fn CX 47 [(vl Span.cs l), (vi by')] (.tup [(vl Span.cs r.1), (vi r.2)]) := by
 refine Fn.ends Try.func47 rfl rfl rfl rfl rfl rfl ?_
 have H : Hs (⟨0, fun _ => .none⟩ : Heap) [] := Has.nil (Nat.le_refl _)
 generalize (⟨0, fun _ => .none⟩ : Heap) = σ at H ⊢
 unfold Z02 at h
 refine .then (.Z0 2 rfl H fun b1 σ H => (.assign (v := .nils) rfl rfl (.assign (v := (vi 0)) rfl rfl (.nila H fun H => (.then ?_)))))
 refine .Z0 1 rfl H fun b2 σ H => (.assign (v := .nils) rfl rfl (.nila H fun H => (.then (.then (.Z0 3 rfl H fun b3 σ H => ?_)))))
 refine .move (v := (vl Span.cs l)) rfl rfl (.Z0O (c := Span.cs) (xs := l) rfl rfl rfl (.move (v := (vi 0)) rfl rfl (.nila H fun H => (.inBlock ?_))))
 replace H := H.pushNil 65 2 true
 obtain ⟨y1, hj1, h⟩ := bind_some h
 obtain ⟨n1, hj1⟩ := Zf.1 hj1
 refine .mono (Runs.ZM hj1 (fun s2 e σ => ∃ (w3 : PV), Z5 e [(1, (vi by')), (6, w3), (13, (vl Span.cs l)), (14, (vi (l.length : Int))), (15, (vi s2.1))] ∧ Hs σ [.sl w3 65 2 (s2.2.map Span.cs) true]) (fun y1 x e σ => (∃ a1, ∃ (w4 : PV), y1 = (.go a1) ∧ x = .exit 0 ∧ Z5 e [(6, w4)] ∧ Hs σ [.sl w4 65 2 (a1.map Span.cs) true]) ∨ (∃ r', y1 = (.ret r') ∧ x = .ret ∧ Ends CX Try.f47.results.toList (.tup [(vl Span.cs r'.1), (vi r'.2)]) x e σ)) ⟨.nils, ⟨rfl, rfl, rfl, rfl, rfl, trivial⟩, H⟩ ?_) ?_
 ·intro s2 e σ hI z h
  obtain ⟨w3, he, H⟩ := hI
  obtain ⟨e, rfl⟩ := he.ex
  unfold Z02.s0 at h
  refine .then (.Z0 1 rfl H fun b4 σ H => (.int (m := s2.1) (m' := (l.length : Int)) (r := .bool (decide (s2.1 < (l.length : Int)))) rfl rfl rfl rfl rfl (.nila H fun H => (.then ?_))))
  refine .whether (v := (decide (s2.1 < (l.length : Int)))) rfl ?_ ?_ <;> intro hc1
  ·replace h := Z8 hc1 h
   refine .skip (.then (.inBlock (.then (.Z0 4 rfl H fun b5 σ H => ?_))))
   obtain ⟨x1, q1, h⟩ := bind_some h
   refine .Z0D (c := Span.cs) (u := x1) rfl rfl q1 rfl rfl rfl rfl (.Z2Y (cs := [(.int .i64 x1.From), (.int .i64 x1.To)]) rfl rfl rfl rfl rfl rfl (.Z1b (cs := [(vi 0), (vi 0)]) H (by omega) (by omega) rfl rfl fun σ H => (.Z11 (off := 0) (cells' := [(vi x1.From), (vi x1.To)]) H 0 rfl rfl rfl rfl rfl rfl rfl rfl rfl nofun fun σ H => (.nila H fun H => (.then ?_)))))
   refine .Z0 9 rfl H fun b6 σ H => (.Z2 (off := 0) (fo := 0) H 0 rfl rfl rfl rfl rfl nofun rfl (.ZS (off := 0) (v := (vi x1.From)) H 0 rfl rfl rfl rfl rfl nofun rfl (.move (v := (vi by')) rfl rfl (.call (ys := [(vi x1.From), (vi by')]) (r := (.tup [(vi (ZB x1.From by').1), (vi (ZB x1.From by').2)])) rfl (Z7v rfl) rfl (.move (v := (.tup [(vi (ZB x1.From by').1), (vi (ZB x1.From by').2)])) rfl rfl ?_)))))
   refine .extract (v := (vi (ZB x1.From by').1)) rfl rfl rfl (.extract (v := (vi (ZB x1.From by').2)) rfl rfl rfl (.assign (v := (vi (ZB x1.From by').1)) rfl rfl (.assign (v := (vi (ZB x1.From by').2)) rfl rfl (.nila H fun H => (.then ?_)))))
   refine .Z0 9 rfl H fun b7 σ H => (.Z2 (off := 0) (fo := 1) H 0 rfl rfl rfl rfl rfl nofun rfl (.ZS (off := 1) (v := (vi x1.To)) H 0 rfl rfl rfl rfl rfl nofun rfl (.move (v := (vi by')) rfl rfl (.call (ys := [(vi x1.To), (vi by')]) (r := (.tup [(vi (ZB x1.To by').1), (vi (ZB x1.To by').2)])) rfl (Z7v rfl) rfl (.move (v := (.tup [(vi (ZB x1.To by').1), (vi (ZB x1.To by').2)])) rfl rfl ?_)))))
   refine .extract (v := (vi (ZB x1.To by').1)) rfl rfl rfl (.extract (v := (vi (ZB x1.To by').2)) rfl rfl rfl (.assign (v := (vi (ZB x1.To by').1)) rfl rfl (.assign (v := (vi (ZB x1.To by').2)) rfl rfl (.nila H fun H => (.then ?_)))))
   refine .then (.Z0 16 rfl H fun b8 σ H => (.move (v := (vi (ZB x1.From by').2)) rfl rfl (.int (m := (ZB x1.From by').2) (m' := 0) (r := .bool (((ZB x1.From by').2) != 0)) rfl rfl rfl rfl rfl (.move (v := (vb (((ZB x1.From by').2) != 0))) rfl rfl ?_))))
   refine .mid 3 (K1 := fun e σ => Z5 e [(38, (vb ((((ZB x1.From by').2) != 0) || (((ZB x1.To by').2) != 0)))), (1, (vi by')), (6, w3), (9, (vi (ZB x1.From by').1)), (11, (vi (ZB x1.To by').1)), (13, (vl Span.cs l)), (14, (vi (l.length : Int))), (15, (vi s2.1))] ∧ Has σ (b8 + 6) (b8 + 16) [.sl w3 65 2 (s2.2.map Span.cs) true]) rfl ?_ ?_
   ·refine .split rfl rfl ?_ ?_ <;> intro hc2
    ·skip
     refine .pass rfl rfl rfl (.pass rfl rfl rfl (.ZZ (v := (vb true)) rfl rfl rfl (.nil ?_)))
     exact ⟨⟨or_T hc2, rfl, rfl, rfl, rfl, rfl, rfl, rfl, trivial⟩, (H.erase 0).weak (by omega) (Nat.le_refl _)⟩
    ·skip
     refine .wanted rfl rfl (.move (v := (vi (ZB x1.To by').2)) rfl rfl (.wanted rfl rfl (.int (m := (ZB x1.To by').2) (m' := 0) (r := .bool (((ZB x1.To by').2) != 0)) rfl rfl rfl rfl rfl (.Zb (v := (vb (((ZB x1.To by').2) != 0))) rfl rfl rfl (.nil ?_)))))
     exact ⟨⟨or_F hc2, rfl, rfl, rfl, rfl, rfl, rfl, rfl, trivial⟩, (H.erase 0).weak (by omega) (Nat.le_refl _)⟩
   ·rintro e σ ⟨he, H⟩
    obtain ⟨e, rfl⟩ := he.ex
    refine .move (v := (vb ((((ZB x1.From by').2) != 0) || (((ZB x1.To by').2) != 0)))) rfl rfl ?_
    refine .mid 4 (K1 := fun e σ => Z5 e [(43, (vb (((((ZB x1.From by').2) != 0) || (((ZB x1.To by').2) != 0)) || (!(ZR ((ZB x1.From by').1)))))), (1, (vi by')), (6, w3), (9, (vi (ZB x1.From by').1)), (11, (vi (ZB x1.To by').1)), (13, (vl Span.cs l)), (14, (vi (l.length : Int))), (15, (vi s2.1))] ∧ Has σ (b8 + 11) (b8 + 16) [.sl w3 65 2 (s2.2.map Span.cs) true]) rfl ?_ ?_
    ·refine .split rfl rfl ?_ ?_ <;> intro hc3
     ·skip
      refine .pass rfl rfl rfl (.pass rfl rfl rfl (.pass rfl rfl rfl (.ZZ (v := (vb true)) rfl rfl rfl (.nil ?_))))
      exact ⟨⟨or_T hc3, rfl, rfl, rfl, rfl, rfl, rfl, rfl, trivial⟩, H.weak (by omega) (Nat.le_refl _)⟩
     ·skip
      refine .wanted rfl rfl (.move (v := (vi (ZB x1.From by').1)) rfl rfl (.wanted rfl rfl (.call (ys := [(vi (ZB x1.From by').1)]) (r := (vb (ZR ((ZB x1.From by').1)))) rfl (Z3H rfl) rfl (.wanted rfl rfl (.not (b := (ZR ((ZB x1.From by').1))) rfl rfl ?_)))))
      refine .Zb (v := (vb (!(ZR ((ZB x1.From by').1))))) rfl rfl rfl (.nil ?_)
      exact ⟨⟨or_F hc3, rfl, rfl, rfl, rfl, rfl, rfl, rfl, trivial⟩, H.weak (by omega) (Nat.le_refl _)⟩
    ·rintro e σ ⟨he, H⟩
     obtain ⟨e, rfl⟩ := he.ex
     refine .move (v := (vb (((((ZB x1.From by').2) != 0) || (((ZB x1.To by').2) != 0)) || (!(ZR ((ZB x1.From by').1)))))) rfl rfl ?_
     refine .mid 4 (K1 := fun e σ => Z5 e [(48, (vb ((((((ZB x1.From by').2) != 0) || (((ZB x1.To by').2) != 0)) || (!(ZR ((ZB x1.From by').1)))) || (!(ZR ((ZB x1.To by').1)))))), (1, (vi by')), (6, w3), (9, (vi (ZB x1.From by').1)), (11, (vi (ZB x1.To by').1)), (13, (vl Span.cs l)), (14, (vi (l.length : Int))), (15, (vi s2.1))] ∧ Has σ (b8 + 16) (b8 + 16) [.sl w3 65 2 (s2.2.map Span.cs) true]) rfl ?_ ?_
     ·refine .split rfl rfl ?_ ?_ <;> intro hc4
      ·skip
       refine .pass rfl rfl rfl (.pass rfl rfl rfl (.pass rfl rfl rfl (.ZZ (v := (vb true)) rfl rfl rfl (.nil ?_))))
       exact ⟨⟨or_T hc4, rfl, rfl, rfl, rfl, rfl, rfl, rfl, trivial⟩, H.weak (by omega) (Nat.le_refl _)⟩
      ·skip
       refine .wanted rfl rfl (.move (v := (vi (ZB x1.To by').1)) rfl rfl (.wanted rfl rfl (.call (ys := [(vi (ZB x1.To by').1)]) (r := (vb (ZR ((ZB x1.To by').1)))) rfl (Z3H rfl) rfl (.wanted rfl rfl (.not (b := (ZR ((ZB x1.To by').1))) rfl rfl ?_)))))
       refine .Zb (v := (vb (!(ZR ((ZB x1.To by').1))))) rfl rfl rfl (.nil ?_)
       exact ⟨⟨or_F hc4, rfl, rfl, rfl, rfl, rfl, rfl, rfl, trivial⟩, H.weak (by omega) (Nat.le_refl _)⟩
     ·rintro e σ ⟨he, H⟩
      obtain ⟨e, rfl⟩ := he.ex
      refine .nila H fun H => ?_
      refine .whether (v := ((((((ZB x1.From by').2) != 0) || (((ZB x1.To by').2) != 0)) || (!(ZR ((ZB x1.From by').1)))) || (!(ZR ((ZB x1.To by').1))))) rfl ?_ ?_ <;> intro hc5
      ·replace h := Z8 hc5 h
       refine .then (.Z0 2 rfl H fun b9 σ H => (.assign (v := .nils) rfl rfl (.assign (v := (vi 20)) rfl rfl (.nila H fun H => (.ret ?_)))))
       replace h := sj h; subst h
       exact ⟨nofun, (.inr ⟨_, rfl, rfl, (Ends.H (xs := [.nils, (vi 20)]) (.inr rfl) H (.tmp (v := .nils) rfl (.tmp (v := (vi 20)) rfl .nil)) (.two (.cons (.c .n) (.cons (.c (.v _)) .nil))))⟩)⟩
      ·replace h := Z9 hc5 h
       refine .skip (.Z0 7 rfl H fun b10 σ H => (.move (v := w3) rfl rfl (.move (v := (vi (ZB x1.From by').1)) rfl rfl (.move (v := (vi (ZB x1.To by').1)) rfl rfl (.Z4V (cs := [(vi (ZB x1.From by').1), (vi (ZB x1.To by').1)]) rfl rfl ?_)))))
       refine .Z3u (sz := 2) ([(Span.mk ((ZB x1.From by').1) ((ZB x1.To by').1))].map Span.cs) H (by omega) (by omega) rfl rfl rfl rfl rfl rfl rfl rfl rfl fun σ H => ?_
       obtain ⟨x2, q2, h⟩ := bind_some h
       refine .appendSt (c := Span.cs) (v := w3) (w := (.buf (b10 + 4) 1 2)) (xs := s2.2) (ys := [(Span.mk ((ZB x1.From by').1) ((ZB x1.To by').1))]) H (by omega) (by omega) 1 rfl rfl rfl (.s 0 rfl) q2 rfl rfl rfl rfl rfl nofun rfl fun w5 σ H => (.assign (v := w5) rfl rfl (.nila H fun H => (.Z0 2 rfl H fun b11 σ H => (.int (m := s2.1) (m' := 1) (r := .int .i64 (w64 (s2.1 + 1))) rfl rfl rfl rfl rfl (.move (v := (vi (w64 (s2.1 + 1)))) rfl rfl ?_)))))
       refine .nila H fun H => ?_
       replace h := sj h; subst h
       exact ⟨rfl, w5, ⟨rfl, rfl, rfl, rfl, rfl, trivial⟩, (H.erase 0)⟩
  ·replace h := Z9 hc1 h
   refine .exit ?_
   replace h := sj h; subst h
   exact ⟨nofun, (.inl ⟨_, w3, rfl, rfl, ⟨rfl, trivial⟩, H⟩)⟩
 ·rintro x e σ (⟨a2, w6, rfl, rfl, he, H⟩ | ⟨r', rfl, rfl, hE⟩)
  ·skip
   replace h := jgo h
   obtain ⟨e, rfl⟩ := he.ex
   refine .then (.Z0 3 rfl H fun b12 σ H => (.move (v := w6) rfl rfl (.assign (v := w6) rfl rfl (.assign (v := (vi 0)) rfl rfl (.nila H fun H => ?_)))))
   refine .ret ?_
   replace h := sj h; subst h
   exact (Ends.H (xs := [w6, (vi 0)]) (.inr rfl) H (.tmp (v := w6) rfl (.tmp (v := (vi 0)) rfl .nil)) (.two (.cons (.c (.s 0 rfl)) (.cons (.c (.v _)) .nil))))
  ·skip
   replace h := jret h
   replace h := sj h; subst h
   exact hE

theorem Z3S {f : Form} {i : Int} {r : (List Span) × Int} (h : Z09 f i = some r) : Fn CX 29 [(.agg (vs (Form.cs f))), (vi i)] (.tup [(vl Span.cs r.1), (vi r.2)]) := by
 refine Fn.ends Try.func29 rfl rfl rfl rfl rfl rfl ?_
 have H : Hs (⟨0, fun _ => .none⟩ : Heap) [] := Has.nil (Nat.le_refl _)
 generalize (⟨0, fun _ => .none⟩ : Heap) = σ at H ⊢
 unfold Z09 at h
 refine .then (.Z0 3 rfl H fun b1 σ H => (.boxH (cs := (vF f)) H (by omega) (by omega) rfl rfl rfl fun σ H => (.assign (v := .nils) rfl rfl (.assign (v := (vi 0)) rfl rfl (.nila H fun H => ?_)))))
 refine .then (.then (.Z0 3 rfl H fun b2 σ H => (.move (v := (vi i)) rfl rfl (.call (ys := [(vi i)]) (r := (vb (Zg i))) rfl (Z3W rfl) rfl (.not (b := (Zg i)) rfl rfl ?_)))))
 refine .nila H fun H => ?_
 refine .whether (v := (!(Zg i))) rfl ?_ ?_ <;> intro hc1
 ·replace h := Z8 hc1 h
  refine .then (.Z0 2 rfl H fun b3 σ H => (.assign (v := .nils) rfl rfl (.assign (v := (vi 20)) rfl rfl (.nila H fun H => (.ret ?_)))))
  replace h := sj h; subst h
  exact (Ends.H (xs := [.nils, (vi 20)]) (.inr rfl) H (.tmp (v := .nils) rfl (.tmp (v := (vi 20)) rfl .nil)) (.two (.cons (.c .n) (.cons (.c (.v _)) .nil))))
 ·replace h := Z9 hc1 h
  refine .skip (.then (.Z0 10 rfl H fun b4 σ H => (.ZY (off := 0) (cs := (vF f)) H 0 rfl rfl rfl rfl rfl rfl rfl nofun rfl (.move (v := (vi i)) rfl rfl ?_))))
  obtain ⟨x1, q1, h⟩ := bind_some h
  refine .call (ys := [(.agg (vF f)), (vi i)]) (r := (.tup [(vl Span.cs x1.1), (vi x1.2.1), (vi x1.2.2)])) rfl (Z6z q1) rfl (.move (v := (.tup [(vl Span.cs x1.1), (vi x1.2.1), (vi x1.2.2)])) rfl rfl (.extract (v := (vl Span.cs x1.1)) rfl rfl rfl (.extract (v := (vi x1.2.1)) rfl rfl rfl (.extract (v := (vi x1.2.2)) rfl rfl rfl (.assign (v := (vl Span.cs x1.1)) rfl rfl ?_)))))
  refine .assign (v := (vi x1.2.1)) rfl rfl (.assign (v := (vi x1.2.2)) rfl rfl (.nila H fun H => (.then (.then (.Z0 3 rfl H fun b5 σ H => ?_)))))
  refine .move (v := (vl Span.cs x1.1)) rfl rfl (.Z0O (c := Span.cs) (xs := x1.1) rfl rfl rfl (.int (m := (x1.1.length : Int)) (m' := 0) (r := .bool ((x1.1.length : Int) == 0)) rfl rfl rfl rfl rfl (.nila H fun H => ?_)))
  refine .whether (v := ((x1.1.length : Int) == 0)) rfl ?_ ?_ <;> intro hc2
  ·replace h := Z8 hc2 h
   refine .then (.Z0 2 rfl H fun b6 σ H => (.assign (v := .nils) rfl rfl (.assign (v := (vi 0)) rfl rfl (.nila H fun H => (.ret ?_)))))
   replace h := sj h; subst h
   exact (Ends.H (xs := [.nils, (vi 0)]) (.inr rfl) H (.tmp (v := .nils) rfl (.tmp (v := (vi 0)) rfl .nil)) (.two (.cons (.c .n) (.cons (.c (.v _)) .nil))))
  ·replace h := Z9 hc2 h
   refine .skip (.then (.then (.Z0 2 rfl H fun b7 σ H => (.move (v := (vi x1.2.2)) rfl rfl (.int (m := x1.2.2) (m' := 0) (r := .bool (x1.2.2 != 0)) rfl rfl rfl rfl rfl ?_)))))
   refine .nila H fun H => ?_
   refine .whether (v := (x1.2.2 != 0)) rfl ?_ ?_ <;> intro hc3
   ·replace h := Z8 hc3 h
    refine .then (.Z0 2 rfl H fun b8 σ H => (.assign (v := .nils) rfl rfl (.assign (v := (vi 20)) rfl rfl (.nila H fun H => (.ret ?_)))))
    replace h := sj h; subst h
    exact (Ends.H (xs := [.nils, (vi 20)]) (.inr rfl) H (.tmp (v := .nils) rfl (.tmp (v := (vi 20)) rfl .nil)) (.two (.cons (.c .n) (.cons (.c (.v _)) .nil))))
   ·replace h := Z9 hc3 h
    refine .skip (.then (.Z0 7 rfl H fun b9 σ H => (.move (v := (vl Span.cs x1.1)) rfl rfl (.move (v := (vi x1.2.1)) rfl rfl ?_))))
    obtain ⟨x2, q2, h⟩ := bind_some h
    refine .call (ys := [(vl Span.cs x1.1), (vi x1.2.1)]) (r := (.tup [(vl Span.cs x2.1), (vi x2.2)])) rfl (spans_Move_fn q2) rfl (.extract (v := (vl Span.cs x2.1)) rfl rfl rfl (.extract (v := (vi x2.2)) rfl rfl rfl (.assign (v := (vl Span.cs x2.1)) rfl rfl (.assign (v := (vi x2.2)) rfl rfl (.nila H fun H => ?_)))))
    refine .ret ?_
    replace h := sj h; subst h
    exact (Ends.H (xs := [(vl Span.cs x2.1), (vi x2.2)]) (.inr rfl) H (.tmp (v := (vl Span.cs x2.1)) rfl (.tmp (v := (vi x2.2)) rfl .nil)) (.two (.cons (.c (.v _)) (.cons (.c (.v _)) .nil))))

theorem Z2p {s : (List (List Span))} {f : (List Span) → Option Bool} {C : List Res} {cv0 : PV} (hs0 : cv0.still = true) (hp0 : cv0.pure = true → C = []) (hf0 : ∀ z0 y, f z0 = some y → CloH CX cv0 [(vl Span.cs z0)] (vb y) C) {r : Int} (h : ZE s f = some r) : FnH CX 76 [(vl (cL Span.cs) s), cv0] (vi r) C := by
 refine FnH.of Try.func76 rfl rfl rfl rfl (Z2H rfl (Z2H hs0 all_nil)) rfl (fun h => hp0 (Z2q h 1 rfl)) ?_
 intro σ L hC H
 unfold ZE at h
 refine .then (.Z0 1 rfl H fun b1 σ H => (.assign (v := (vi 0)) rfl rfl (.nila H fun H => (.then (.then ?_)))))
 refine .Z0 3 rfl H fun b2 σ H => (.move (v := (vl (cL Span.cs) s)) rfl rfl (.Z0O (c := (cL Span.cs)) (xs := s) rfl rfl rfl (.move (v := (vi 0)) rfl rfl (.nila H fun H => (.inBlock ?_)))))
 obtain ⟨y1, hj1, h⟩ := bind_some h
 obtain ⟨n1, hj1⟩ := Zf.1 hj1
 refine .mono (Runs.ZM hj1 (fun s1 e σ => Z5 e [(0, (vl (cL Span.cs) s)), (1, cv0), (7, (vi (s.length : Int))), (8, (vi s1))] ∧ Hs σ (L)) (fun y1 x e σ => (∃ a1, y1 = (.go a1) ∧ x = .exit 0 ∧ Z5 e [] ∧ Hs σ (L)) ∨ (∃ r', y1 = (.ret r') ∧ x = .ret ∧ EndsH CX Try.f76.results.toList (vi r') L x e σ)) ⟨⟨rfl, rfl, rfl, rfl, trivial⟩, H⟩ ?_) ?_
 ·intro s1 e σ hI z h
  obtain ⟨he, H⟩ := hI
  obtain ⟨e, rfl⟩ := he.ex
  unfold ZE.s0 at h
  refine .then (.Z0 1 rfl H fun b3 σ H => (.int (m := s1) (m' := (s.length : Int)) (r := .bool (decide (s1 < (s.length : Int)))) rfl rfl rfl rfl rfl (.nila H fun H => (.then ?_))))
  refine .whether (v := (decide (s1 < (s.length : Int)))) rfl ?_ ?_ <;> intro hc1
  ·replace h := Z8 hc1 h
   refine .skip (.then (.inBlock (.then (.Z0 2 rfl H fun b4 σ H => (.move (v := (vi s1)) rfl rfl ?_)))))
   refine .assign (v := (vi s1)) rfl rfl (.nila H fun H => (.then (.Z0 6 rfl H fun b5 σ H => (.move (v := cv0) rfl rfl (.move (v := (vl (cL Span.cs) s)) rfl rfl ?_)))))
   refine .move (v := (vi s1)) rfl rfl ?_
   obtain ⟨x1, q1, h⟩ := bind_some h
   refine .Z0D (c := (cL Span.cs)) (u := x1) rfl rfl q1 rfl rfl rfl rfl (.Z2F (u := (.sl (x1.map Span.cs))) rfl rfl rfl rfl ?_)
   obtain ⟨x2, q2, h⟩ := bind_some h
   refine .callV (cv := cv0) (ys := [(vl Span.cs x1)]) (r := (vb x2)) H rfl rfl (hf0 x1 _ q2) hC nofun rfl fun σ H => (.nila H fun H => ?_)
   refine .whether (v := x2) rfl ?_ ?_ <;> intro hc2
   ·replace h := Z8 hc2 h
    refine .then (.Z0 2 rfl H fun b6 σ H => (.move (v := (vi s1)) rfl rfl (.assign (v := (vi s1)) rfl rfl (.nila H fun H => (.ret ?_)))))
    replace h := sj h; subst h
    exact ⟨nofun, (.inr ⟨_, rfl, rfl, (EndsH.H (xs := [(vi s1)]) (.inr rfl) H (.tmp (v := (vi s1)) rfl .nil) (.one (.c (.v _))) 0 rfl)⟩)⟩
   ·replace h := Z9 hc2 h
    refine .skip (.Z0 2 rfl H fun b7 σ H => (.int (m := s1) (m' := 1) (r := .int .i64 (w64 (s1 + 1))) rfl rfl rfl rfl rfl (.move (v := (vi (w64 (s1 + 1)))) rfl rfl (.nila H fun H => ?_))))
    replace h := sj h; subst h
    exact ⟨rfl, ⟨rfl, rfl, rfl, rfl, trivial⟩, H⟩
  ·replace h := Z9 hc1 h
   refine .exit ?_
   replace h := sj h; subst h
   exact ⟨nofun, (.inl ⟨_, rfl, rfl, trivial, H⟩)⟩
 ·rintro x e σ (⟨a2, rfl, rfl, he, H⟩ | ⟨r', rfl, rfl, hE⟩)
  ·skip
   replace h := jgo h
   obtain ⟨e, rfl⟩ := he.ex
   refine .then (.Z0 1 rfl H fun b8 σ H => (.assign (v := (vi (-1))) rfl rfl (.nila H fun H => (.ret ?_))))
   replace h := sj h; subst h
   exact (EndsH.H (xs := [(vi (-1))]) (.inr rfl) H (.tmp (v := (vi (-1))) rfl .nil) (.one (.c (.v _))) 0 rfl)
  ·skip
   replace h := jret h
   replace h := sj h; subst h
   exact hE

theorem Z2K {s : (List (List Span))} {f : (List Span) → Option Bool} {C : List Res} {cv0 : PV} (hs0 : cv0.still = true) (hp0 : cv0.pure = true → C = []) (hf0 : ∀ z0 y, f z0 = some y → CloH CX cv0 [(vl Span.cs z0)] (vb y) C) {r : Bool} (h : ZU s f = some r) : FnH CX 72 [(vl (cL Span.cs) s), cv0] (vb r) C := by
 refine FnH.of Try.func72 rfl rfl rfl rfl (Z2H rfl (Z2H hs0 all_nil)) rfl (fun h => hp0 (Z2q h 1 rfl)) ?_
 intro σ L hC H
 unfold ZU at h
 refine .then (.Z0 1 rfl H fun b1 σ H => (.assign (v := (vb false)) rfl rfl (.nila H fun H => (.then (.Z0 5 rfl H fun b2 σ H => ?_)))))
 refine .move (v := (vl (cL Span.cs) s)) rfl rfl (.move (v := cv0) rfl rfl ?_)
 obtain ⟨x1, q1, h⟩ := bind_some h
 refine .Z66 (ys := [(vl (cL Span.cs) s), cv0]) (r := (vi x1)) H rfl (Z2p (C := C) hs0 hp0 hf0 q1) hC nofun rfl fun σ H => (.int (m := x1) (m' := 0) (r := .bool (decide (x1 ≥ 0))) rfl rfl rfl rfl rfl (.assign (v := (vb (decide (x1 ≥ 0)))) rfl rfl (.nila H fun H => (.ret ?_))))
 replace h := sj h; subst h
 exact (EndsH.H (xs := [(vb (decide (x1 ≥ 0)))]) (.inr rfl) H (.tmp (v := (vb (decide (x1 ≥ 0)))) rfl .nil) (.one (.c (.v _))) 0 rfl)

theorem Z8m {l : (List Span)} {r : Bool} (h : Z3M l = r) : Fn CX 73 [(vl Span.cs l)] (vb r) := by
 refine Fn.ends Try.func73 rfl rfl rfl rfl rfl rfl ?_
 have H : Hs (⟨0, fun _ => .none⟩ : Heap) [] := Has.nil (Nat.le_refl _)
 generalize (⟨0, fun _ => .none⟩ : Heap) = σ at H ⊢
 unfold Z3M at h
 refine .then (.Z0 1 rfl H fun b1 σ H => (.assign (v := (vb false)) rfl rfl (.nila H fun H => (.then (.Z0 4 rfl H fun b2 σ H => ?_)))))
 refine .move (v := (vl Span.cs l)) rfl rfl (.Z0O (c := Span.cs) (xs := l) rfl rfl rfl (.int (m := (l.length : Int)) (m' := 0) (r := .bool (decide ((l.length : Int) > 0))) rfl rfl rfl rfl rfl (.assign (v := (vb (decide ((l.length : Int) > 0)))) rfl rfl (.nila H fun H => (.ret ?_)))))
 subst h
 exact (Ends.H (xs := [(vb (decide ((l.length : Int) > 0)))]) (.inr rfl) H (.tmp (v := (vb (decide ((l.length : Int) > 0)))) rfl .nil) (.one (.c (.v _))))

theorem gran_bare_fn {f : Form} {r : Bool} (h : Z30 f = some r) : Fn CX 61 [(.agg (vs (Form.cs f)))] (vb r) := by
 refine Fn.ends Try.func61 rfl rfl rfl rfl rfl rfl ?_
 have H : Hs (⟨0, fun _ => .none⟩ : Heap) [] := Has.nil (Nat.le_refl _)
 generalize (⟨0, fun _ => .none⟩ : Heap) = σ at H ⊢
 unfold Z30 at h
 refine .then (.Z0 2 rfl H fun b1 σ H => (.boxH (cs := (vF f)) H (by omega) (by omega) rfl rfl rfl fun σ H => (.assign (v := (vb false)) rfl rfl (.nila H fun H => (.then ?_)))))
 refine .Z0 5 rfl H fun b2 σ H => (.Z2 (off := 0) (fo := 2) H 0 rfl rfl rfl rfl rfl nofun rfl (.ZS (off := 2) (v := (vl (cL Span.cs) f.Core)) H 0 rfl rfl rfl rfl rfl nofun rfl ?_))
 obtain ⟨x1, q1, h⟩ := bind_some h
 refine .Z66 (ys := [(vl (cL Span.cs) f.Core), (.v (.fn 73))]) (r := (vb x1)) H rfl (Z2K (C := []) rfl (fun _ => rfl) (fun z0 y hz => (CloH.fn (Fn.toH (Z8m (Option.some.inj hz)) _))) q1) .nil nofun rfl fun σ H => (.not (b := x1) rfl rfl (.assign (v := (vb (!x1))) rfl rfl (.nila H fun H => (.ret ?_))))
 replace h := sj h; subst h
 exact (Ends.H (xs := [(vb (!x1))]) (.inr rfl) H (.tmp (v := (vb (!x1))) rfl .nil) (.one (.c (.v _))))

theorem gran_some_fn {f : Form} {i : Int} {r : Bool} (h : Z3B f i = some r) : Fn CX 62 [(.agg (vs (Form.cs f))), (vi i)] (vb r) := by
 refine Fn.ends Try.func62 rfl rfl rfl rfl rfl rfl ?_
 have H : Hs (⟨0, fun _ => .none⟩ : Heap) [] := Has.nil (Nat.le_refl _)
 generalize (⟨0, fun _ => .none⟩ : Heap) = σ at H ⊢
 unfold Z3B at h
 refine .then (.Z0 2 rfl H fun b1 σ H => (.boxH (cs := (vF f)) H (by omega) (by omega) rfl rfl rfl fun σ H => (.assign (v := (vb false)) rfl rfl (.nila H fun H => (.then ?_)))))
 refine .Z0 10 rfl H fun b2 σ H => (.ZY (off := 0) (cs := (vF f)) H 0 rfl rfl rfl rfl rfl rfl rfl nofun rfl (.move (v := (vi i)) rfl rfl ?_))
 obtain ⟨x1, q1, h⟩ := bind_some h
 refine .call (ys := [(.agg (vF f)), (vi i)]) (r := (.tup [(vl Span.cs x1.1), (vi x1.2.1), (vi x1.2.2)])) rfl (Z6z q1) rfl (.move (v := (.tup [(vl Span.cs x1.1), (vi x1.2.1), (vi x1.2.2)])) rfl rfl (.extract (v := (vl Span.cs x1.1)) rfl rfl rfl (.extract (v := (vi x1.2.1)) rfl rfl rfl (.extract (v := (vi x1.2.2)) rfl rfl rfl (.assign (v := (vl Span.cs x1.1)) rfl rfl ?_)))))
 refine .assign (v := (vi x1.2.1)) rfl rfl (.assign (v := (vi x1.2.2)) rfl rfl (.nila H fun H => (.then (.Z0 4 rfl H fun b3 σ H => (.move (v := (vl Span.cs x1.1)) rfl rfl ?_)))))
 refine .Z0O (c := Span.cs) (xs := x1.1) rfl rfl rfl (.int (m := (x1.1.length : Int)) (m' := 0) (r := .bool (decide ((x1.1.length : Int) > 0))) rfl rfl rfl rfl rfl (.assign (v := (vb (decide ((x1.1.length : Int) > 0)))) rfl rfl (.nila H fun H => (.ret ?_))))
 replace h := sj h; subst h
 exact (Ends.H (xs := [(vb (decide ((x1.1.length : Int) > 0)))]) (.inr rfl) H (.tmp (v := (vb (decide ((x1.1.length : Int) > 0)))) rfl .nil) (.one (.c (.v _))))

theorem Z71 {f : Form} {from' : Int} {by' : Int} {r : Int × Bool} (h : Zl f from' by' = some r) : Fn CX 48 [(.agg (vs (Form.cs f))), (vi from'), (vi by')] (.tup [(vi r.1), (vb r.2)]) := by
 refine Fn.ends Try.func48 rfl rfl rfl rfl rfl rfl ?_
 have H : Hs (⟨0, fun _ => .none⟩ : Heap) [] := Has.nil (Nat.le_refl _)
 generalize (⟨0, fun _ => .none⟩ : Heap) = σ at H ⊢
 unfold Zl at h
 refine .then (.Z0 3 rfl H fun b1 σ H => (.boxH (cs := (vF f)) H (by omega) (by omega) rfl rfl rfl fun σ H => (.assign (v := (vi 0)) rfl rfl (.assign (v := (vb false)) rfl rfl (.nila H fun H => ?_)))))
 refine .then (.then (.Z0 2 rfl H fun b2 σ H => (.ZY (off := 0) (cs := (vF f)) H 0 rfl rfl rfl rfl rfl rfl rfl nofun rfl ?_)))
 obtain ⟨x1, q1, h⟩ := bind_some h
 refine .call (ys := [(.agg (vF f))]) (r := (vb x1)) rfl (gran_bare_fn q1) rfl (.nila H fun H => ?_)
 refine .whether (v := x1) rfl ?_ ?_ <;> intro hc1
 ·replace h := Z8 hc1 h
  refine .then (.Z0 8 rfl H fun b3 σ H => (.ZY (off := 0) (cs := (vF f)) H 0 rfl rfl rfl rfl rfl rfl rfl nofun rfl (.move (v := (vi from')) rfl rfl ?_)))
  obtain ⟨x2, q2, h⟩ := bind_some h
  refine .call (ys := [(.agg (vF f)), (vi from')]) (r := (.tup [(vi x2.1), (vb x2.2)])) rfl (Z7o q2) rfl (.move (v := (.tup [(vi x2.1), (vb x2.2)])) rfl rfl (.extract (v := (vi x2.1)) rfl rfl rfl (.extract (v := (vb x2.2)) rfl rfl rfl (.assign (v := (vi x2.1)) rfl rfl (.assign (v := (vb x2.2)) rfl rfl ?_)))))
  refine .nila H fun H => (.then ?_)
  obtain ⟨y1, hj1, h⟩ := bind_some h
  refine .mono (Q := fun x e σ => x = .normal ∧ Z5 e [(2, (vi by')), (3, (.ptr (b1 + 0) 4 0)), (8, (vi y1))] ∧ Hs σ [.blk (b1 + 0) 25 (vF f)]) ?_ ?_
  ·replace h := hj1
   refine .then (.Z0 6 rfl H fun b4 σ H => (.move (v := (vi by')) rfl rfl (.int (m := by') (m' := 0) (r := .bool (decide (by' < 0))) rfl rfl rfl rfl rfl (.move (v := (vb (decide (by' < 0)))) rfl rfl ?_))))
   refine .mid 3 (K1 := fun e σ => Z5 e [(24, (vb ((decide (by' < 0)) && (!x2.2)))), (2, (vi by')), (3, (.ptr (b1 + 0) 4 0)), (8, (vi x2.1))] ∧ Has σ (b4 + 6) (b4 + 6) [.blk (b1 + 0) 25 (vF f)]) rfl ?_ ?_
   ·refine .split rfl rfl ?_ ?_ <;> intro hc2
    ·skip
     refine .wanted rfl rfl (.move (v := (vb x2.2)) rfl rfl (.wanted rfl rfl (.not (b := x2.2) rfl rfl (.ZZ (v := (vb (!x2.2))) rfl rfl rfl (.nil ?_)))))
     exact ⟨⟨Z0p hc2, rfl, rfl, rfl, trivial⟩, H.weak (by omega) (Nat.le_refl _)⟩
    ·skip
     refine .pass rfl rfl rfl (.pass rfl rfl rfl (.Zb (v := (vb false)) rfl rfl rfl (.nil ?_)))
     exact ⟨⟨Z0o hc2, rfl, rfl, rfl, trivial⟩, H.weak (by omega) (Nat.le_refl _)⟩
   ·rintro e σ ⟨he, H⟩
    obtain ⟨e, rfl⟩ := he.ex
    refine .nila H fun H => ?_
    refine .whether (v := ((decide (by' < 0)) && (!x2.2))) rfl ?_ ?_ <;> intro hc3
    ·replace h := Z8 hc3 h
     refine .Z0 3 rfl H fun b5 σ H => (.move (v := (vi x2.1)) rfl rfl (.int (m := x2.1) (m' := 1) (r := .int .i64 (w64 (x2.1 - 1))) rfl rfl rfl rfl rfl (.assign (v := (vi (w64 (x2.1 - 1)))) rfl rfl (.nila H fun H => ?_))))
     replace h := sj h; subst h
     exact ⟨rfl, ⟨rfl, rfl, rfl, trivial⟩, H⟩
    ·replace h := Z9 hc3 h
     refine .skip ?_
     replace h := sj h; subst h
     exact ⟨rfl, ⟨rfl, rfl, rfl, trivial⟩, H⟩
  ·rintro x e σ ⟨rfl, he, H⟩
   obtain ⟨e, rfl⟩ := he.ex
   refine .then (.inBlock ?_)
   obtain ⟨y2, hj2, h⟩ := bind_some h
   obtain ⟨n1, hj2⟩ := Zf.1 hj2
   refine .mono (Runs.ZM hj2 (fun s1 e σ => Z5 e [(2, (vi by')), (3, (.ptr (b1 + 0) 4 0)), (8, (vi s1))] ∧ Hs σ [.blk (b1 + 0) 25 (vF f)]) (fun y2 x e σ => (∃ a1, y2 = (.go a1) ∧ x = .exit 0 ∧ Z5 e [] ∧ Hs σ []) ∨ (∃ r', y2 = (.ret r') ∧ x = .ret ∧ Ends CX Try.f48.results.toList (.tup [(vi r'.1), (vb r'.2)]) x e σ)) ⟨⟨rfl, rfl, rfl, trivial⟩, H⟩ ?_) ?_
   ·intro s1 e σ hI z h
    obtain ⟨he, H⟩ := hI
    obtain ⟨e, rfl⟩ := he.ex
    unfold Zl.s0 at h
    refine .then (.then (.Z0 9 rfl H fun b6 σ H => (.move (v := (vi s1)) rfl rfl (.int (m := s1) (m' := 0) (r := .bool (decide (s1 ≥ 0))) rfl rfl rfl rfl rfl (.move (v := (vb (decide (s1 ≥ 0)))) rfl rfl ?_)))))
    refine .mid 6 (K1 := fun e σ => Z5 e [(35, (vb ((decide (s1 ≥ 0)) && (decide (s1 < (f.Odd.length : Int)))))), (2, (vi by')), (3, (.ptr (b1 + 0) 4 0)), (8, (vi s1))] ∧ Has σ (b6 + 9) (b6 + 9) [.blk (b1 + 0) 25 (vF f)]) rfl ?_ ?_
    ·refine .split rfl rfl ?_ ?_ <;> intro hc4
     ·skip
      refine .wanted rfl rfl (.move (v := (vi s1)) rfl rfl (.wanted rfl rfl (.Z2 (off := 0) (fo := 3) H 0 rfl rfl rfl rfl rfl nofun rfl (.wanted rfl rfl (.ZS (off := 3) (v := (vl Granule.cs f.Odd)) H 0 rfl rfl rfl rfl rfl nofun rfl ?_)))))
      refine .wanted rfl rfl (.Z0O (c := Granule.cs) (xs := f.Odd) rfl rfl rfl (.wanted rfl rfl (.int (m := s1) (m' := (f.Odd.length : Int)) (r := .bool (decide (s1 < (f.Odd.length : Int)))) rfl rfl rfl rfl rfl (.ZZ (v := (vb (decide (s1 < (f.Odd.length : Int))))) rfl rfl rfl (.nil ?_)))))
      exact ⟨⟨Z0p hc4, rfl, rfl, rfl, trivial⟩, H.weak (by omega) (Nat.le_refl _)⟩
     ·skip
      refine .pass rfl rfl rfl (.pass rfl rfl rfl (.pass rfl rfl rfl (.pass rfl rfl rfl (.pass rfl rfl rfl (.Zb (v := (vb false)) rfl rfl rfl ?_)))))
      refine .nil ?_
      exact ⟨⟨Z0o hc4, rfl, rfl, rfl, trivial⟩, H.weak (by omega) (Nat.le_refl _)⟩
    ·rintro e σ ⟨he, H⟩
     obtain ⟨e, rfl⟩ := he.ex
     refine .nila H fun H => ?_
     refine .whether (v := ((decide (s1 ≥ 0)) && (decide (s1 < (f.Odd.length : Int))))) rfl ?_ ?_ <;> intro hc5
     ·replace h := Z8 hc5 h
      refine .skip (.then (.inBlock (.then (.Z0 8 rfl H fun b7 σ H => (.Z2 (off := 0) (fo := 3) H 0 rfl rfl rfl rfl rfl nofun rfl ?_)))))
      refine .ZS (off := 3) (v := (vl Granule.cs f.Odd)) H 0 rfl rfl rfl rfl rfl nofun rfl (.move (v := (vi s1)) rfl rfl ?_)
      obtain ⟨x3, q3, h⟩ := bind_some h
      refine .Z0D (c := Granule.cs) (u := x3) rfl rfl q3 rfl rfl rfl rfl (.Z0x rfl rfl rfl rfl (.Z2F (u := (.sl (x3.Ticks.map Span.cs))) rfl rfl rfl rfl (.Z0O (c := Span.cs) (xs := x3.Ticks) rfl rfl rfl (.int (m := (x3.Ticks.length : Int)) (m' := 0) (r := .bool (decide ((x3.Ticks.length : Int) > 0))) rfl rfl rfl rfl rfl (.nila H fun H => ?_)))))
      refine .whether (v := (decide ((x3.Ticks.length : Int) > 0))) rfl ?_ ?_ <;> intro hc6
      ·replace h := Z8 hc6 h
       refine .then (.Z0 8 rfl H fun b8 σ H => (.Z2 (off := 0) (fo := 3) H 0 rfl rfl rfl rfl rfl nofun rfl (.ZS (off := 3) (v := (vl Granule.cs f.Odd)) H 0 rfl rfl rfl rfl rfl nofun rfl (.move (v := (vi s1)) rfl rfl ?_))))
       obtain ⟨x4, q4, h⟩ := bind_some h
       refine .Z0D (c := Granule.cs) (u := x4) rfl rfl q4 rfl rfl rfl rfl (.Z0x rfl rfl rfl rfl (.Z2F (u := (.int .i64 x4.Index)) rfl rfl rfl rfl (.assign (v := (vi x4.Index)) rfl rfl (.assign (v := (vb true)) rfl rfl (.nila H fun H => ?_)))))
       refine .ret ?_
       replace h := sj h; subst h
       exact ⟨nofun, (.inr ⟨_, rfl, rfl, (Ends.H (xs := [(vi x4.Index), (vb true)]) (.inr rfl) H (.tmp (v := (vi x4.Index)) rfl (.tmp (v := (vb true)) rfl .nil)) (.two (.cons (.c (.v _)) (.cons (.c (.v _)) .nil))))⟩)⟩
      ·replace h := Z9 hc6 h
       refine .skip (.Z0 4 rfl H fun b9 σ H => (.move (v := (vi s1)) rfl rfl (.move (v := (vi by')) rfl rfl (.int (m := s1) (m' := by') (r := .int .i64 (w64 (s1 + by'))) rfl rfl rfl rfl rfl (.assign (v := (vi (w64 (s1 + by')))) rfl rfl ?_)))))
       refine .nila H fun H => ?_
       replace h := sj h; subst h
       exact ⟨rfl, ⟨rfl, rfl, rfl, trivial⟩, H⟩
     ·replace h := Z9 hc5 h
      refine .exit ?_
      replace h := sj h; subst h
      exact ⟨nofun, (.inl ⟨_, rfl, rfl, trivial, (H.erase 0)⟩)⟩
   ·rintro x e σ (⟨a2, rfl, rfl, he, H⟩ | ⟨r', rfl, rfl, hE⟩)
    ·skip
     replace h := jgo h
     obtain ⟨e, rfl⟩ := he.ex
     refine .then (.Z0 2 rfl H fun b10 σ H => (.assign (v := (vi 0)) rfl rfl (.assign (v := (vb false)) rfl rfl (.nila H fun H => (.ret ?_)))))
     replace h := sj h; subst h
     exact (Ends.H (xs := [(vi 0), (vb false)]) (.inr rfl) H (.tmp (v := (vi 0)) rfl (.tmp (v := (vb false)) rfl .nil)) (.two (.cons (.c (.v _)) (.cons (.c (.v _)) .nil))))
    ·skip
     replace h := jret h
     replace h := sj h; subst h
     exact hE
 ·replace h := Z9 hc1 h
  refine .skip (.then (.then (.Z0 2 rfl H fun b11 σ H => (.move (v := (vi from')) rfl rfl (.assign (v := (vi from')) rfl rfl ?_)))))
  refine .nila H fun H => (.inBlock ?_)
  obtain ⟨y3, hj3, h⟩ := bind_some h
  obtain ⟨n2, hj3⟩ := Zf.1 hj3
  refine .mono (Runs.ZM hj3 (fun s2 e σ => Z5 e [(2, (vi by')), (3, (.ptr (b1 + 0) 4 0)), (10, (vi s2))] ∧ Hs σ [.blk (b1 + 0) 25 (vF f)]) (fun y3 x e σ => (∃ a3, y3 = (.go a3) ∧ x = .exit 2 ∧ Z5 e [] ∧ Hs σ []) ∨ (∃ r', y3 = (.ret r') ∧ x = .ret ∧ Ends CX Try.f48.results.toList (.tup [(vi r'.1), (vb r'.2)]) x e σ)) ⟨⟨rfl, rfl, rfl, trivial⟩, H⟩ ?_) ?_
  ·intro s2 e σ hI z h
   obtain ⟨he, H⟩ := hI
   obtain ⟨e, rfl⟩ := he.ex
   unfold Zl.s1 at h
   refine .then (.then (.Z0 2 rfl H fun b12 σ H => (.move (v := (vi s2)) rfl rfl (.call (ys := [(vi s2)]) (r := (vb (Zg s2))) rfl (Z3W rfl) rfl (.nila H fun H => ?_)))))
   refine .whether (v := (Zg s2)) rfl ?_ ?_ <;> intro hc7
   ·replace h := Z8 hc7 h
    refine .skip (.then (.inBlock (.then (.Z0 3 rfl H fun b13 σ H => (.ZY (off := 0) (cs := (vF f)) H 0 rfl rfl rfl rfl rfl rfl rfl nofun rfl ?_)))))
    refine .move (v := (vi s2)) rfl rfl ?_
    obtain ⟨x5, q5, h⟩ := bind_some h
    refine .call (ys := [(.agg (vF f)), (vi s2)]) (r := (vb x5)) rfl (gran_some_fn q5) rfl (.nila H fun H => ?_)
    refine .whether (v := x5) rfl ?_ ?_ <;> intro hc8
    ·replace h := Z8 hc8 h
     refine .then (.Z0 3 rfl H fun b14 σ H => (.move (v := (vi s2)) rfl rfl (.assign (v := (vi s2)) rfl rfl (.assign (v := (vb true)) rfl rfl (.nila H fun H => ?_)))))
     refine .ret ?_
     replace h := sj h; subst h
     exact ⟨nofun, (.inr ⟨_, rfl, rfl, (Ends.H (xs := [(vi s2), (vb true)]) (.inr rfl) H (.tmp (v := (vi s2)) rfl (.tmp (v := (vb true)) rfl .nil)) (.two (.cons (.c (.v _)) (.cons (.c (.v _)) .nil))))⟩)⟩
    ·replace h := Z9 hc8 h
     refine .skip (.Z0 4 rfl H fun b15 σ H => (.move (v := (vi s2)) rfl rfl (.move (v := (vi by')) rfl rfl (.int (m := s2) (m' := by') (r := .int .i64 (w64 (s2 + by'))) rfl rfl rfl rfl rfl (.assign (v := (vi (w64 (s2 + by')))) rfl rfl ?_)))))
     refine .nila H fun H => ?_
     replace h := sj h; subst h
     exact ⟨rfl, ⟨rfl, rfl, rfl, trivial⟩, H⟩
   ·replace h := Z9 hc7 h
    refine .exit ?_
    replace h := sj h; subst h
    exact ⟨nofun, (.inl ⟨_, rfl, rfl, trivial, (H.erase 0)⟩)⟩
  ·rintro x e σ (⟨a4, rfl, rfl, he, H⟩ | ⟨r', rfl, rfl, hE⟩)
   ·skip
    replace h := jgo h
    obtain ⟨e, rfl⟩ := he.ex
    refine .then (.Z0 2 rfl H fun b16 σ H => (.assign (v := (vi 0)) rfl rfl (.assign (v := (vb false)) rfl rfl (.nila H fun H => (.ret ?_)))))
    replace h := sj h; subst h
    exact (Ends.H (xs := [(vi 0), (vb false)]) (.inr rfl) H (.tmp (v := (vi 0)) rfl (.tmp (v := (vb false)) rfl .nil)) (.two (.cons (.c (.v _)) (.cons (.c (.v _)) .nil))))
   ·skip
    replace h := jret h
    replace h := sj h; subst h
    exact hE

theorem Z8A {f : Form} {i : Int} {r : Int × Bool} (h : Z0u f i = some r) : Fn CX 30 [(.agg (vs (Form.cs f))), (vi i)] (.tup [(vi r.1), (vb r.2)]) := by
 refine Fn.ends Try.func30 rfl rfl rfl rfl rfl rfl ?_
 have H : Hs (⟨0, fun _ => .none⟩ : Heap) [] := Has.nil (Nat.le_refl _)
 generalize (⟨0, fun _ => .none⟩ : Heap) = σ at H ⊢
 unfold Z0u at h
 refine .then (.Z0 3 rfl H fun b1 σ H => (.boxH (cs := (vF f)) H (by omega) (by omega) rfl rfl rfl fun σ H => (.assign (v := (vi 0)) rfl rfl (.assign (v := (vb false)) rfl rfl (.nila H fun H => ?_)))))
 refine .then (.then (.Z0 2 rfl H fun b2 σ H => (.move (v := (vi i)) rfl rfl (.int (m := i) (m' := (-1099511627776)) (r := .bool (decide (i ≤ (-1099511627776)))) rfl rfl rfl rfl rfl (.nila H fun H => ?_)))))
 refine .whether (v := (decide (i ≤ (-1099511627776)))) rfl ?_ ?_ <;> intro hc1
 ·replace h := Z8 hc1 h
  refine .then (.Z0 2 rfl H fun b3 σ H => (.assign (v := (vi 0)) rfl rfl (.assign (v := (vb false)) rfl rfl (.nila H fun H => (.ret ?_)))))
  replace h := sj h; subst h
  exact (Ends.H (xs := [(vi 0), (vb false)]) (.inr rfl) H (.tmp (v := (vi 0)) rfl (.tmp (v := (vb false)) rfl .nil)) (.two (.cons (.c (.v _)) (.cons (.c (.v _)) .nil))))
 ·replace h := Z9 hc1 h
  refine .skip (.then (.Z0 9 rfl H fun b4 σ H => (.ZY (off := 0) (cs := (vF f)) H 0 rfl rfl rfl rfl rfl rfl rfl nofun rfl (.move (v := (vi i)) rfl rfl (.int (m := i) (m' := 1) (r := .int .i64 (w64 (i - 1))) rfl rfl rfl rfl rfl ?_)))))
  refine .min2 rfl rfl rfl ?_
  obtain ⟨x1, q1, h⟩ := bind_some h
  refine .call (ys := [(.agg (vF f)), (vi (iMin (w64 (i - 1)) 1099511627776)), (vi (-1))]) (r := (.tup [(vi x1.1), (vb x1.2)])) rfl (Z71 q1) rfl (.extract (v := (vi x1.1)) rfl rfl rfl (.extract (v := (vb x1.2)) rfl rfl rfl (.assign (v := (vi x1.1)) rfl rfl (.assign (v := (vb x1.2)) rfl rfl (.nila H fun H => ?_)))))
  refine .ret ?_
  replace h := sj h; subst h
  exact (Ends.H (xs := [(vi x1.1), (vb x1.2)]) (.inr rfl) H (.tmp (v := (vi x1.1)) rfl (.tmp (v := (vb x1.2)) rfl .nil)) (.two (.cons (.c (.v _)) (.cons (.c (.v _)) .nil))))

theorem Z3o {f : Form} {i : Int} {r : Int × Bool} (h : Z0l f i = some r) : Fn CX 31 [(.agg (vs (Form.cs f))), (vi i)] (.tup [(vi r.1), (vb r.2)]) := by
 refine Fn.ends Try.func31 rfl rfl rfl rfl rfl rfl ?_
 have H : Hs (⟨0, fun _ => .none⟩ : Heap) [] := Has.nil (Nat.le_refl _)
 generalize (⟨0, fun _ => .none⟩ : Heap) = σ at H ⊢
 unfold Z0l at h
 refine .then (.Z0 3 rfl H fun b1 σ H => (.boxH (cs := (vF f)) H (by omega) (by omega) rfl rfl rfl fun σ H => (.assign (v := (vi 0)) rfl rfl (.assign (v := (vb false)) rfl rfl (.nila H fun H => ?_)))))
 refine .then (.then (.Z0 2 rfl H fun b2 σ H => (.move (v := (vi i)) rfl rfl (.int (m := i) (m' := 1099511627776) (r := .bool (decide (i ≥ 1099511627776))) rfl rfl rfl rfl rfl (.nila H fun H => ?_)))))
 refine .whether (v := (decide (i ≥ 1099511627776))) rfl ?_ ?_ <;> intro hc1
 ·replace h := Z8 hc1 h
  refine .then (.Z0 2 rfl H fun b3 σ H => (.assign (v := (vi 0)) rfl rfl (.assign (v := (vb false)) rfl rfl (.nila H fun H => (.ret ?_)))))
  replace h := sj h; subst h
  exact (Ends.H (xs := [(vi 0), (vb false)]) (.inr rfl) H (.tmp (v := (vi 0)) rfl (.tmp (v := (vb false)) rfl .nil)) (.two (.cons (.c (.v _)) (.cons (.c (.v _)) .nil))))
 ·replace h := Z9 hc1 h
  refine .skip (.then (.Z0 9 rfl H fun b4 σ H => (.ZY (off := 0) (cs := (vF f)) H 0 rfl rfl rfl rfl rfl rfl rfl nofun rfl (.move (v := (vi i)) rfl rfl (.int (m := i) (m' := 1) (r := .int .i64 (w64 (i + 1))) rfl rfl rfl rfl rfl ?_)))))
  refine .max2 rfl rfl rfl ?_
  obtain ⟨x1, q1, h⟩ := bind_some h
  refine .call (ys := [(.agg (vF f)), (vi (iMax (w64 (i + 1)) (-1099511627776))), (vi 1)]) (r := (.tup [(vi x1.1), (vb x1.2)])) rfl (Z71 q1) rfl (.extract (v := (vi x1.1)) rfl rfl rfl (.extract (v := (vb x1.2)) rfl rfl rfl (.assign (v := (vi x1.1)) rfl rfl (.assign (v := (vb x1.2)) rfl rfl (.nila H fun H => ?_)))))
  refine .ret ?_
  replace h := sj h; subst h
  exact (Ends.H (xs := [(vi x1.1), (vb x1.2)]) (.inr rfl) H (.tmp (v := (vi x1.1)) rfl (.tmp (v := (vb x1.2)) rfl .nil)) (.two (.cons (.c (.v _)) (.cons (.c (.v _)) .nil))))

theorem Z41 {a : (List Span)} {b : (List Span)} {r : Bool} (h : Z0P a b = some r) : Fn CX 32 [(vl Span.cs a), (vl Span.cs b)] (vb r) := by
 refine Fn.ends Try.func32 rfl rfl rfl rfl rfl rfl ?_
 have H : Hs (⟨0, fun _ => .none⟩ : Heap) [] := Has.nil (Nat.le_refl _)
 generalize (⟨0, fun _ => .none⟩ : Heap) = σ at H ⊢
 unfold Z0P at h
 refine .then (.Z0 1 rfl H fun b1 σ H => (.assign (v := (vb false)) rfl rfl (.nila H fun H => (.then (.Z4P 23 rfl (by kernel_rfl) H fun b2 σ H B2 => ?_)))))
 refine .move (v := (vl Span.cs a)) rfl rfl (.Z0O (c := Span.cs) (xs := a) rfl rfl rfl (.int (m := (a.length : Int)) (m' := 0) (r := .bool ((a.length : Int) == 0)) rfl rfl rfl rfl rfl (.move (v := (vb ((a.length : Int) == 0))) rfl rfl ?_)))
 refine .mid 4 (K1 := fun e σ => Z5 e [(12, (vb (((a.length : Int) == 0) || ((b.length : Int) == 0)))), (0, (vl Span.cs a)), (1, (vl Span.cs b))] ∧ Has σ (b2 + 8) (b2 + 23) []) rfl ?_ ?_
 ·refine .split rfl rfl ?_ ?_ <;> intro hc1
  ·skip
   refine .pass rfl rfl rfl (.pass rfl rfl rfl (.pass rfl rfl rfl (.ZZ (v := (vb true)) rfl rfl rfl (.nil ?_))))
   exact ⟨⟨or_T hc1, rfl, rfl, trivial⟩, H.weak (by omega) (Nat.le_refl _)⟩
  ·skip
   refine .wanted rfl rfl (.move (v := (vl Span.cs b)) rfl rfl (.wanted rfl rfl (.Z0O (c := Span.cs) (xs := b) rfl rfl rfl (.wanted rfl rfl (.int (m := (b.length : Int)) (m' := 0) (r := .bool ((b.length : Int) == 0)) rfl rfl rfl rfl rfl ?_)))))
   refine .Zb (v := (vb ((b.length : Int) == 0))) rfl rfl rfl (.nil ?_)
   exact ⟨⟨or_F hc1, rfl, rfl, trivial⟩, H.weak (by omega) (Nat.le_refl _)⟩
 ·rintro e σ ⟨he, H⟩
  obtain ⟨e, rfl⟩ := he.ex
  refine .move (v := (vb (((a.length : Int) == 0) || ((b.length : Int) == 0)))) rfl rfl ?_
  obtain ⟨y1, hj1, h⟩ := bind_some h
  refine .mid 13 (K1 := fun e σ => Z5 e [(26, (vb y1))] ∧ Has σ (b2 + 22) (b2 + 23) []) rfl ?_ ?_
  ·refine .split rfl rfl ?_ ?_ <;> intro hc2
   ·replace h := Z8 hc2 hj1
    refine .pass rfl rfl rfl (.pass rfl rfl rfl (.pass rfl rfl rfl (.pass rfl rfl rfl (.pass rfl rfl rfl (.pass rfl rfl rfl ?_)))))
    refine .pass rfl rfl rfl (.pass rfl rfl rfl (.pass rfl rfl rfl (.pass rfl rfl rfl (.pass rfl rfl rfl (.pass rfl rfl rfl ?_)))))
    refine .ZZ (v := (vb true)) rfl rfl rfl (.nil ?_)
    replace h := sj h; subst h
    exact ⟨⟨rfl, trivial⟩, H.weak (by omega) (Nat.le_refl _)⟩
   ·replace h := Z9 hc2 hj1
    refine .wanted rfl rfl (.move (v := (vl Span.cs a)) rfl rfl (.wanted rfl rfl (.move (v := (vl Span.cs a)) rfl rfl (.wanted rfl rfl (.Z0O (c := Span.cs) (xs := a) rfl rfl rfl ?_)))))
    refine .wanted rfl rfl (.int (m := (a.length : Int)) (m' := 1) (r := .int .i64 (w64 ((a.length : Int) - 1))) rfl rfl rfl rfl rfl (.wanted rfl rfl ?_))
    obtain ⟨x1, q1, h⟩ := bind_some h
    refine .Z0D (c := Span.cs) (u := x1) rfl rfl q1 rfl rfl rfl rfl (.wanted rfl rfl (.Z0x rfl rfl rfl rfl (.wanted rfl rfl (.Z2F (u := (.int .i64 x1.To)) rfl rfl rfl rfl (.wanted rfl rfl ?_)))))
    refine .move (v := (vl Span.cs b)) rfl rfl (.wanted rfl rfl ?_)
    obtain ⟨x2, q2, h⟩ := bind_some h
    refine .Z0D (c := Span.cs) (u := x2) rfl rfl q2 rfl rfl rfl rfl (.wanted rfl rfl (.Z0x rfl rfl rfl rfl (.wanted rfl rfl (.Z2F (u := (.int .i64 x2.From)) rfl rfl rfl rfl (.wanted rfl rfl ?_)))))
    refine .int (m := x1.To) (m' := x2.From) (r := .bool (decide (x1.To < x2.From))) rfl rfl rfl rfl rfl (.Zb (v := (vb (decide (x1.To < x2.From)))) rfl rfl rfl (.nil ?_))
    replace h := sj h; subst h
    exact ⟨⟨rfl, trivial⟩, H.weak (by omega) (Nat.le_refl _)⟩
  ·rintro e σ ⟨he, H⟩
   obtain ⟨e, rfl⟩ := he.ex
   refine .assign (v := (vb y1)) rfl rfl (.nila H fun H => (.ret ?_))
   replace h := sj h; subst h
   exact (Ends.H (xs := [(vb y1)]) (.inr rfl) H (.tmp (v := (vb y1)) rfl .nil) (.one (.c (.v _))))

theorem Z8Y {f : Form} {i : Int} {r : Bool} (h : Z14 f i = some r) : Fn CX 19 [(.agg (vs (Form.cs f))), (vi i)] (vb r) := by
 refine Fn.ends Try.func19 rfl rfl rfl rfl rfl rfl ?_
 have H : Hs (⟨0, fun _ => .none⟩ : Heap) [] := Has.nil (Nat.le_refl _)
 generalize (⟨0, fun _ => .none⟩ : Heap) = σ at H ⊢
 unfold Z14 at h
 refine .then (.Z0 2 rfl H fun b1 σ H => (.boxH (cs := (vF f)) H (by omega) (by omega) rfl rfl rfl fun σ H => (.assign (v := (vb false)) rfl rfl (.nila H fun H => (.then ?_)))))
 refine .Z0 8 rfl H fun b2 σ H => (.ZY (off := 0) (cs := (vF f)) H 0 rfl rfl rfl rfl rfl rfl rfl nofun rfl (.move (v := (vi i)) rfl rfl ?_))
 obtain ⟨x1, q1, h⟩ := bind_some h
 refine .call (ys := [(.agg (vF f)), (vi i)]) (r := (.tup [(vl Span.cs x1.1), (vi x1.2)])) rfl (Z3S q1) rfl (.move (v := (.tup [(vl Span.cs x1.1), (vi x1.2)])) rfl rfl (.extract (v := (vl Span.cs x1.1)) rfl rfl rfl (.extract (v := (vi x1.2)) rfl rfl rfl (.assign (v := (vl Span.cs x1.1)) rfl rfl (.assign (v := (vi x1.2)) rfl rfl ?_)))))
 refine .nila H fun H => (.then (.then (.Z0 2 rfl H fun b3 σ H => (.move (v := (vi x1.2)) rfl rfl (.int (m := x1.2) (m' := 0) (r := .bool (x1.2 != 0)) rfl rfl rfl rfl rfl ?_)))))
 refine .nila H fun H => ?_
 refine .whether (v := (x1.2 != 0)) rfl ?_ ?_ <;> intro hc1
 ·replace h := Z8 hc1 h
  refine .then (.Z0 1 rfl H fun b4 σ H => (.assign (v := (vb false)) rfl rfl (.nila H fun H => (.ret ?_))))
  replace h := sj h; subst h
  exact (Ends.H (xs := [(vb false)]) (.inr rfl) H (.tmp (v := (vb false)) rfl .nil) (.one (.c (.v _))))
 ·replace h := Z9 hc1 h
  refine .skip (.then (.Z0 8 rfl H fun b5 σ H => (.ZY (off := 0) (cs := (vF f)) H 0 rfl rfl rfl rfl rfl rfl rfl nofun rfl (.move (v := (vi i)) rfl rfl ?_))))
  obtain ⟨x2, q2, h⟩ := bind_some h
  refine .call (ys := [(.agg (vF f)), (vi i)]) (r := (.tup [(vi x2.1), (vb x2.2)])) rfl (Z8A q2) rfl (.move (v := (.tup [(vi x2.1), (vb x2.2)])) rfl rfl (.extract (v := (vi x2.1)) rfl rfl rfl (.extract (v := (vb x2.2)) rfl rfl rfl (.assign (v := (vi x2.1)) rfl rfl (.assign (v := (vb x2.2)) rfl rfl ?_)))))
  refine .nila H fun H => (.then (.Z0 8 rfl H fun b6 σ H => (.ZY (off := 0) (cs := (vF f)) H 0 rfl rfl rfl rfl rfl rfl rfl nofun rfl (.move (v := (vi i)) rfl rfl ?_))))
  obtain ⟨x3, q3, h⟩ := bind_some h
  refine .call (ys := [(.agg (vF f)), (vi i)]) (r := (.tup [(vi x3.1), (vb x3.2)])) rfl (Z3o q3) rfl (.move (v := (.tup [(vi x3.1), (vb x3.2)])) rfl rfl (.extract (v := (vi x3.1)) rfl rfl rfl (.extract (v := (vb x3.2)) rfl rfl rfl (.assign (v := (vi x3.1)) rfl rfl (.assign (v := (vb x3.2)) rfl rfl ?_)))))
  refine .nila H fun H => (.then (.Z0 2 rfl H fun b7 σ H => (.assign (v := .nils) rfl rfl (.assign (v := .nils) rfl rfl (.nila H fun H => ?_)))))
  refine .then ?_
  obtain ⟨y1, hj1, h⟩ := bind_some h
  refine .mono (Q := fun x e σ => (∃ a1, ∃ (w1 : PV), RO w1 (a1.map Span.cs) ∧ y1 = (.go a1) ∧ x = .normal ∧ Z5 e [(2, (.ptr (b1 + 0) 4 0)), (5, (vl Span.cs x1.1)), (9, (vi x3.1)), (10, (vb x3.2)), (11, w1), (12, .nils)] ∧ Hs σ [.blk (b1 + 0) 25 (vF f)]) ∨ (∃ r', y1 = (.ret r') ∧ x = .ret ∧ Ends CX Try.f19.results.toList (vb r') x e σ)) ?_ ?_
  ·replace h := hj1
   refine .then (.Z0 1 rfl H fun b8 σ H => (.move (v := (vb x2.2)) rfl rfl (.nila H fun H => ?_)))
   refine .whether (v := x2.2) rfl ?_ ?_ <;> intro hc2
   ·replace h := Z8 hc2 h
    refine .then (.Z0 8 rfl H fun b9 σ H => (.ZY (off := 0) (cs := (vF f)) H 0 rfl rfl rfl rfl rfl rfl rfl nofun rfl (.move (v := (vi x2.1)) rfl rfl ?_)))
    obtain ⟨x4, q4, h⟩ := bind_some h
    refine .call (ys := [(.agg (vF f)), (vi x2.1)]) (r := (.tup [(vl Span.cs x4.1), (vi x4.2)])) rfl (Z3S q4) rfl (.move (v := (.tup [(vl Span.cs x4.1), (vi x4.2)])) rfl rfl (.extract (v := (vl Span.cs x4.1)) rfl rfl rfl (.extract (v := (vi x4.2)) rfl rfl rfl (.assign (v := (vl Span.cs x4.1)) rfl rfl (.assign (v := (vi x4.2)) rfl rfl ?_)))))
    refine .nila H fun H => (.then (.Z0 2 rfl H fun b10 σ H => (.move (v := (vi x4.2)) rfl rfl (.int (m := x4.2) (m' := 0) (r := .bool (x4.2 != 0)) rfl rfl rfl rfl rfl (.nila H fun H => ?_)))))
    refine .whether (v := (x4.2 != 0)) rfl ?_ ?_ <;> intro hc3
    ·replace h := Z8 hc3 h
     refine .then (.Z0 1 rfl H fun b11 σ H => (.assign (v := (vb false)) rfl rfl (.nila H fun H => (.ret ?_))))
     replace h := sj h; subst h
     exact (.inr ⟨_, rfl, rfl, (Ends.H (xs := [(vb false)]) (.inr rfl) H (.tmp (v := (vb false)) rfl .nil) (.one (.c (.v _))))⟩)
    ·replace h := Z9 hc3 h
     refine .skip ?_
     replace h := sj h; subst h
     exact (.inl ⟨_, (vl Span.cs x4.1), .inr rfl, rfl, rfl, ⟨rfl, rfl, rfl, rfl, rfl, rfl, trivial⟩, H⟩)
   ·replace h := Z9 hc2 h
    refine .skip ?_
    replace h := sj h; subst h
    exact (.inl ⟨_, .nils, .inl ⟨rfl, rfl⟩, rfl, rfl, ⟨rfl, rfl, rfl, rfl, rfl, rfl, trivial⟩, H⟩)
  ·rintro x e σ (⟨a2, w2, hw2, rfl, rfl, he, H⟩ | ⟨r', rfl, rfl, hE⟩)
   ·skip
    replace h := jgo h
    obtain ⟨e, rfl⟩ := he.ex
    refine .then ?_
    obtain ⟨y2, hj2, h⟩ := bind_some h
    refine .mono (Q := fun x e σ => (∃ a3, ∃ (w3 : PV), RO w3 (a3.map Span.cs) ∧ y2 = (.go a3) ∧ x = .normal ∧ Z5 e [(5, (vl Span.cs x1.1)), (11, w2), (12, w3)] ∧ Hs σ []) ∨ (∃ r', y2 = (.ret r') ∧ x = .ret ∧ Ends CX Try.f19.results.toList (vb r') x e σ)) ?_ ?_
    ·replace h := hj2
     refine .then (.Z0 1 rfl H fun b12 σ H => (.move (v := (vb x3.2)) rfl rfl (.nila H fun H => ?_)))
     refine .whether (v := x3.2) rfl ?_ ?_ <;> intro hc4
     ·replace h := Z8 hc4 h
      refine .then (.Z0 8 rfl H fun b13 σ H => (.ZY (off := 0) (cs := (vF f)) H 0 rfl rfl rfl rfl rfl rfl rfl nofun rfl (.move (v := (vi x3.1)) rfl rfl ?_)))
      obtain ⟨x5, q5, h⟩ := bind_some h
      refine .call (ys := [(.agg (vF f)), (vi x3.1)]) (r := (.tup [(vl Span.cs x5.1), (vi x5.2)])) rfl (Z3S q5) rfl (.move (v := (.tup [(vl Span.cs x5.1), (vi x5.2)])) rfl rfl (.extract (v := (vl Span.cs x5.1)) rfl rfl rfl (.extract (v := (vi x5.2)) rfl rfl rfl (.assign (v := (vl Span.cs x5.1)) rfl rfl (.assign (v := (vi x5.2)) rfl rfl ?_)))))
      refine .nila H fun H => (.then (.Z0 2 rfl H fun b14 σ H => (.move (v := (vi x5.2)) rfl rfl (.int (m := x5.2) (m' := 0) (r := .bool (x5.2 != 0)) rfl rfl rfl rfl rfl (.nila H fun H => ?_)))))
      refine .whether (v := (x5.2 != 0)) rfl ?_ ?_ <;> intro hc5
      ·replace h := Z8 hc5 h
       refine .then (.Z0 1 rfl H fun b15 σ H => (.assign (v := (vb false)) rfl rfl (.nila H fun H => (.ret ?_))))
       replace h := sj h; subst h
       exact (.inr ⟨_, rfl, rfl, (Ends.H (xs := [(vb false)]) (.inr rfl) H (.tmp (v := (vb false)) rfl .nil) (.one (.c (.v _))))⟩)
      ·replace h := Z9 hc5 h
       refine .skip ?_
       replace h := sj h; subst h
       exact (.inl ⟨_, (vl Span.cs x5.1), .inr rfl, rfl, rfl, ⟨rfl, rfl, rfl, trivial⟩, (H.erase 0)⟩)
     ·replace h := Z9 hc4 h
      refine .skip ?_
      replace h := sj h; subst h
      exact (.inl ⟨_, .nils, .inl ⟨rfl, rfl⟩, rfl, rfl, ⟨rfl, rfl, rfl, trivial⟩, (H.erase 0)⟩)
    ·rintro x e σ (⟨a4, w4, hw4, rfl, rfl, he, H⟩ | ⟨r', rfl, rfl, hE⟩)
     ·skip
      replace h := jgo h
      obtain ⟨e, rfl⟩ := he.ex
      refine .then (.Z0 14 rfl H fun b16 σ H => (.move (v := w2) rfl rfl (.move (v := (vl Span.cs x1.1)) rfl rfl ?_)))
      obtain ⟨x6, q6, h⟩ := bind_some h
      refine .callX (xs := [w2, (vl Span.cs x1.1)]) (ys := [(vl Span.cs a2), (vl Span.cs x1.1)]) H rfl (.cons (.c (.ro hw2)) (.cons (.c (.v _)) .nil)) (Z41 q6) rfl rfl nofun rfl fun σ H => (.move (v := (vb x6)) rfl rfl ?_)
      obtain ⟨y3, hj3, h⟩ := bind_some h
      refine .mid 4 (K1 := fun e σ => Z5 e [(58, (vb y3)), (11, w2), (12, w4)] ∧ Has σ (b16 + 8) (b16 + 14) []) rfl ?_ ?_
      ·refine .split rfl rfl ?_ ?_ <;> intro hc6
       ·replace h := Z8 hc6 hj3
        refine .wanted rfl rfl (.move (v := (vl Span.cs x1.1)) rfl rfl (.wanted rfl rfl (.move (v := w4) rfl rfl (.wanted rfl rfl ?_))))
        obtain ⟨x7, q7, h⟩ := bind_some h
        refine .callX (xs := [(vl Span.cs x1.1), w4]) (ys := [(vl Span.cs x1.1), (vl Span.cs a4)]) H rfl (.cons (.c (.v _)) (.cons (.c (.ro hw4)) .nil)) (Z41 q7) rfl rfl nofun rfl fun σ H => (.ZZ (v := (vb x7)) rfl rfl rfl (.nil ?_))
        replace h := sj h; subst h
        exact ⟨⟨rfl, rfl, rfl, trivial⟩, H.weak (by omega) (Nat.le_refl _)⟩
       ·replace h := Z9 hc6 hj3
        refine .pass rfl rfl rfl (.pass rfl rfl rfl (.pass rfl rfl rfl (.Zb (v := (vb false)) rfl rfl rfl (.nil ?_))))
        replace h := sj h; subst h
        exact ⟨⟨rfl, rfl, rfl, trivial⟩, H.weak (by omega) (Nat.le_refl _)⟩
      ·rintro e σ ⟨he, H⟩
       obtain ⟨e, rfl⟩ := he.ex
       refine .move (v := (vb y3)) rfl rfl ?_
       obtain ⟨y4, hj4, h⟩ := bind_some h
       refine .mid 4 (K1 := fun e σ => Z5 e [(63, (vb y4))] ∧ Has σ (b16 + 13) (b16 + 14) []) rfl ?_ ?_
       ·refine .split rfl rfl ?_ ?_ <;> intro hc7
        ·replace h := Z8 hc7 hj4
         refine .wanted rfl rfl (.move (v := w2) rfl rfl (.wanted rfl rfl (.move (v := w4) rfl rfl (.wanted rfl rfl ?_))))
         obtain ⟨x8, q8, h⟩ := bind_some h
         refine .callX (xs := [w2, w4]) (ys := [(vl Span.cs a2), (vl Span.cs a4)]) H rfl (.cons (.c (.ro hw2)) (.cons (.c (.ro hw4)) .nil)) (Z41 q8) rfl rfl nofun rfl fun σ H => (.ZZ (v := (vb x8)) rfl rfl rfl (.nil ?_))
         replace h := sj h; subst h
         exact ⟨⟨rfl, trivial⟩, H.weak (by omega) (Nat.le_refl _)⟩
        ·replace h := Z9 hc7 hj4
         refine .pass rfl rfl rfl (.pass rfl rfl rfl (.pass rfl rfl rfl (.Zb (v := (vb false)) rfl rfl rfl (.nil ?_))))
         replace h := sj h; subst h
         exact ⟨⟨rfl, trivial⟩, H.weak (by omega) (Nat.le_refl _)⟩
       ·rintro e σ ⟨he, H⟩
        obtain ⟨e, rfl⟩ := he.ex
        refine .assign (v := (vb y4)) rfl rfl (.nila H fun H => (.ret ?_))
        replace h := sj h; subst h
        exact (Ends.H (xs := [(vb y4)]) (.inr rfl) H (.tmp (v := (vb y4)) rfl .nil) (.one (.c (.v _))))
     ·skip
      replace h := jret h
      replace h := sj h; subst h
      exact hE
   ·skip
    replace h := jret h
    replace h := sj h; subst h
    exact hE

theorem Z65 {f : Form} {r : Int} (h : Zm f = some r) : Fn CX 7 [(.agg (vs (Form.cs f)))] (vi r) := by
 refine Fn.ends Try.func7 rfl rfl rfl rfl rfl rfl ?_
 have H : Hs (⟨0, fun _ => .none⟩ : Heap) [] := Has.nil (Nat.le_refl _)
 generalize (⟨0, fun _ => .none⟩ : Heap) = σ at H ⊢
 unfold Zm at h
 refine .then (.Z0 2 rfl H fun b1 σ H => (.boxH (cs := (vF f)) H (by omega) (by omega) rfl rfl rfl fun σ H => (.assign (v := (vi 0)) rfl rfl (.nila H fun H => (.then ?_)))))
 refine .then (.Z0 15 rfl H fun b2 σ H => (.Z2 (off := 0) (fo := 2) H 0 rfl rfl rfl rfl rfl nofun rfl (.ZS (off := 2) (v := (vl (cL Span.cs) f.Core)) H 0 rfl rfl rfl rfl rfl nofun rfl (.Z0O (c := (cL Span.cs)) (xs := f.Core) rfl rfl rfl (.int (m := (f.Core.length : Int)) (m' := 6000) (r := .bool (decide ((f.Core.length : Int) > 6000))) rfl rfl rfl rfl rfl ?_)))))
 refine .move (v := (vb (decide ((f.Core.length : Int) > 6000)))) rfl rfl ?_
 refine .mid 5 (K1 := fun e σ => Z5 e [(14, (vb ((decide ((f.Core.length : Int) > 6000)) || (decide ((f.Odd.length : Int) > 6000))))), (1, (.ptr (b1 + 0) 4 0))] ∧ Has σ (b2 + 10) (b2 + 15) [.blk (b1 + 0) 25 (vF f)]) rfl ?_ ?_
 ·refine .split rfl rfl ?_ ?_ <;> intro hc1
  ·skip
   refine .pass rfl rfl rfl (.pass rfl rfl rfl (.pass rfl rfl rfl (.pass rfl rfl rfl (.ZZ (v := (vb true)) rfl rfl rfl (.nil ?_)))))
   exact ⟨⟨or_T hc1, rfl, trivial⟩, H.weak (by omega) (Nat.le_refl _)⟩
  ·skip
   refine .wanted rfl rfl (.Z2 (off := 0) (fo := 3) H 0 rfl rfl rfl rfl rfl nofun rfl (.wanted rfl rfl (.ZS (off := 3) (v := (vl Granule.cs f.Odd)) H 0 rfl rfl rfl rfl rfl nofun rfl (.wanted rfl rfl (.Z0O (c := Granule.cs) (xs := f.Odd) rfl rfl rfl ?_)))))
   refine .wanted rfl rfl (.int (m := (f.Odd.length : Int)) (m' := 6000) (r := .bool (decide ((f.Odd.length : Int) > 6000))) rfl rfl rfl rfl rfl (.Zb (v := (vb (decide ((f.Odd.length : Int) > 6000)))) rfl rfl rfl (.nil ?_)))
   exact ⟨⟨or_F hc1, rfl, trivial⟩, H.weak (by omega) (Nat.le_refl _)⟩
 ·rintro e σ ⟨he, H⟩
  obtain ⟨e, rfl⟩ := he.ex
  refine .move (v := (vb ((decide ((f.Core.length : Int) > 6000)) || (decide ((f.Odd.length : Int) > 6000))))) rfl rfl ?_
  obtain ⟨y1, hj1, h⟩ := bind_some h
  refine .mid 4 (K1 := fun e σ => Z5 e [(19, (vb y1)), (1, (.ptr (b1 + 0) 4 0))] ∧ Has σ (b2 + 15) (b2 + 15) [.blk (b1 + 0) 25 (vF f)]) rfl ?_ ?_
  ·refine .split rfl rfl ?_ ?_ <;> intro hc2
   ·replace h := Z8 hc2 hj1
    refine .pass rfl rfl rfl (.pass rfl rfl rfl (.pass rfl rfl rfl (.ZZ (v := (vb true)) rfl rfl rfl (.nil ?_))))
    replace h := sj h; subst h
    exact ⟨⟨rfl, rfl, trivial⟩, H.weak (by omega) (Nat.le_refl _)⟩
   ·replace h := Z9 hc2 hj1
    refine .wanted rfl rfl (.ZY (off := 0) (cs := (vF f)) H 0 rfl rfl rfl rfl rfl rfl rfl nofun rfl (.wanted rfl rfl ?_))
    obtain ⟨x1, q1, h⟩ := bind_some h
    refine .call (ys := [(.agg (vF f))]) (r := (vi x1)) rfl (Z6x q1) rfl (.wanted rfl rfl (.int (m := x1) (m' := 60000) (r := .bool (decide (x1 > 60000))) rfl rfl rfl rfl rfl (.Zb (v := (vb (decide (x1 > 60000)))) rfl rfl rfl (.nil ?_))))
    replace h := sj h; subst h
    exact ⟨⟨rfl, rfl, trivial⟩, H.weak (by omega) (Nat.le_refl _)⟩
  ·rintro e σ ⟨he, H⟩
   obtain ⟨e, rfl⟩ := he.ex
   refine .nila H fun H => ?_
   refine .whether (v := y1) rfl ?_ ?_ <;> intro hc3
   ·replace h := Z8 hc3 h
    refine .then (.Z0 1 rfl H fun b3 σ H => (.assign (v := (vi 3)) rfl rfl (.nila H fun H => (.ret ?_))))
    replace h := sj h; subst h
    exact (Ends.H (xs := [(vi 3)]) (.inr rfl) H (.tmp (v := (vi 3)) rfl .nil) (.one (.c (.v _))))
   ·replace h := Z9 hc3 h
    refine .skip (.then (.then (.Z0 8 rfl H fun b4 σ H => (.ZY (off := 0) (cs := (vF f)) H 0 rfl rfl rfl rfl rfl rfl rfl nofun rfl ?_))))
    obtain ⟨x2, q2, h⟩ := bind_some h
    refine .call (ys := [(.agg (vF f))]) (r := (vb x2)) rfl (gran_shape_fn q2) rfl (.not (b := x2) rfl rfl (.move (v := (vb (!x2))) rfl rfl ?_))
    obtain ⟨y2, hj2, h⟩ := bind_some h
    refine .mid 4 (K1 := fun e σ => Z5 e [(27, (vb y2)), (1, (.ptr (b1 + 0) 4 0))] ∧ Has σ (b4 + 8) (b4 + 8) [.blk (b1 + 0) 25 (vF f)]) rfl ?_ ?_
    ·refine .split rfl rfl ?_ ?_ <;> intro hc4
     ·replace h := Z8 hc4 hj2
      refine .pass rfl rfl rfl (.pass rfl rfl rfl (.pass rfl rfl rfl (.ZZ (v := (vb true)) rfl rfl rfl (.nil ?_))))
      replace h := sj h; subst h
      exact ⟨⟨rfl, rfl, trivial⟩, H.weak (by omega) (Nat.le_refl _)⟩
     ·replace h := Z9 hc4 hj2
      refine .wanted rfl rfl (.ZY (off := 0) (cs := (vF f)) H 0 rfl rfl rfl rfl rfl rfl rfl nofun rfl (.wanted rfl rfl ?_))
      obtain ⟨x3, q3, h⟩ := bind_some h
      refine .call (ys := [(.agg (vF f))]) (r := (vb x3)) rfl (gran_turns_fn q3) rfl (.wanted rfl rfl (.not (b := x3) rfl rfl (.Zb (v := (vb (!x3))) rfl rfl rfl (.nil ?_))))
      replace h := sj h; subst h
      exact ⟨⟨rfl, rfl, trivial⟩, H.weak (by omega) (Nat.le_refl _)⟩
    ·rintro e σ ⟨he, H⟩
     obtain ⟨e, rfl⟩ := he.ex
     refine .nila H fun H => ?_
     refine .whether (v := y2) rfl ?_ ?_ <;> intro hc5
     ·replace h := Z8 hc5 h
      refine .then (.Z0 1 rfl H fun b5 σ H => (.assign (v := (vi 50)) rfl rfl (.nila H fun H => (.ret ?_))))
      replace h := sj h; subst h
      exact (Ends.H (xs := [(vi 50)]) (.inr rfl) H (.tmp (v := (vi 50)) rfl .nil) (.one (.c (.v _))))
     ·replace h := Z9 hc5 h
      refine .skip (.then (.then (.Z0 4 rfl H fun b6 σ H => (.Z2 (off := 0) (fo := 3) H 0 rfl rfl rfl rfl rfl nofun rfl (.ZS (off := 3) (v := (vl Granule.cs f.Odd)) H 0 rfl rfl rfl rfl rfl nofun rfl ?_)))))
      refine .Z0O (c := Granule.cs) (xs := f.Odd) rfl rfl rfl (.move (v := (vi 0)) rfl rfl (.nila H fun H => (.inBlock ?_)))
      obtain ⟨y3, hj3, h⟩ := bind_some h
      obtain ⟨n1, hj3⟩ := Zf.1 hj3
      refine .mono (Runs.ZM hj3 (fun s1 e σ => Z5 e [(1, (.ptr (b1 + 0) 4 0)), (29, (vl Granule.cs f.Odd)), (30, (vi (f.Odd.length : Int))), (31, (vi s1))] ∧ Hs σ [.blk (b1 + 0) 25 (vF f)]) (fun y3 x e σ => (∃ a1, y3 = (.go a1) ∧ x = .exit 0 ∧ Z5 e [] ∧ Hs σ []) ∨ (∃ r', y3 = (.ret r') ∧ x = .ret ∧ Ends CX Try.f7.results.toList (vi r') x e σ)) ⟨⟨rfl, rfl, rfl, rfl, trivial⟩, H⟩ ?_) ?_
      ·intro s1 e σ hI z h
       obtain ⟨he, H⟩ := hI
       obtain ⟨e, rfl⟩ := he.ex
       unfold Zm.s0 at h
       refine .then (.Z0 1 rfl H fun b7 σ H => (.int (m := s1) (m' := (f.Odd.length : Int)) (r := .bool (decide (s1 < (f.Odd.length : Int)))) rfl rfl rfl rfl rfl (.nila H fun H => (.then ?_))))
       refine .whether (v := (decide (s1 < (f.Odd.length : Int)))) rfl ?_ ?_ <;> intro hc6
       ·replace h := Z8 hc6 h
        refine .skip (.then (.inBlock (.then (.Z0 4 rfl H fun b8 σ H => ?_))))
        obtain ⟨x4, q4, h⟩ := bind_some h
        refine .Z0D (c := Granule.cs) (u := x4) rfl rfl q4 rfl rfl rfl rfl (.Z2Y (cs := [(.int .i64 x4.Index), (.sl (x4.Ticks.map Span.cs))]) rfl rfl rfl rfl rfl rfl (.Z1b (cs := [(vi 0), .nils]) H (by omega) (by omega) rfl rfl fun σ H => (.Z11 (off := 0) (cells' := [(vi x4.Index), (vl Span.cs x4.Ticks)]) H 0 rfl rfl rfl rfl rfl rfl rfl rfl rfl nofun fun σ H => (.nila H fun H => (.then ?_)))))
        refine .Z0 5 rfl H fun b9 σ H => (.ZY (off := 0) (cs := (vF f)) H 1 rfl rfl rfl rfl rfl rfl rfl nofun rfl (.Z2 (off := 0) (fo := 0) H 0 rfl rfl rfl rfl rfl nofun rfl (.ZS (off := 0) (v := (vi x4.Index)) H 0 rfl rfl rfl rfl rfl nofun rfl ?_)))
        obtain ⟨x5, q5, h⟩ := bind_some h
        refine .call (ys := [(.agg (vF f)), (vi x4.Index)]) (r := (vb x5)) rfl (Z8Y q5) rfl (.not (b := x5) rfl rfl (.nila H fun H => ?_))
        refine .whether (v := (!x5)) rfl ?_ ?_ <;> intro hc7
        ·replace h := Z8 hc7 h
         refine .then (.Z0 1 rfl H fun b10 σ H => (.assign (v := (vi 50)) rfl rfl (.nila H fun H => (.ret ?_))))
         replace h := sj h; subst h
         exact ⟨nofun, (.inr ⟨_, rfl, rfl, (Ends.H (xs := [(vi 50)]) (.inr rfl) H (.tmp (v := (vi 50)) rfl .nil) (.one (.c (.v _))))⟩)⟩
        ·replace h := Z9 hc7 h
         refine .skip (.Z0 2 rfl H fun b11 σ H => (.int (m := s1) (m' := 1) (r := .int .i64 (w64 (s1 + 1))) rfl rfl rfl rfl rfl (.move (v := (vi (w64 (s1 + 1)))) rfl rfl (.nila H fun H => ?_))))
         replace h := sj h; subst h
         exact ⟨rfl, ⟨rfl, rfl, rfl, rfl, trivial⟩, (H.erase 0)⟩
       ·replace h := Z9 hc6 h
        refine .exit ?_
        replace h := sj h; subst h
        exact ⟨nofun, (.inl ⟨_, rfl, rfl, trivial, (H.erase 0)⟩)⟩
      ·rintro x e σ (⟨a2, rfl, rfl, he, H⟩ | ⟨r', rfl, rfl, hE⟩)
       ·skip
        replace h := jgo h
        obtain ⟨e, rfl⟩ := he.ex
        refine .then (.Z0 1 rfl H fun b12 σ H => (.assign (v := (vi 0)) rfl rfl (.nila H fun H => (.ret ?_))))
        replace h := sj h; subst h
        exact (Ends.H (xs := [(vi 0)]) (.inr rfl) H (.tmp (v := (vi 0)) rfl .nil) (.one (.c (.v _))))
       ·skip
        replace h := jret h
        replace h := sj h; subst h
        exact hE

theorem Z5t {r : Form} (h : ZF = r) : Fn CX 20 [] (.agg (vs (Form.cs r))) := by
 refine Fn.ends Try.func20 rfl rfl rfl rfl rfl rfl ?_
 have H : Hs (⟨0, fun _ => .none⟩ : Heap) [] := Has.nil (Nat.le_refl _)
 generalize (⟨0, fun _ => .none⟩ : Heap) = σ at H ⊢
 unfold ZF at h
 refine .then (.Z0 1 rfl H fun b1 σ H => (.Z1b (cs := [(vi 0), (vi 0), .nils, .nils]) H (by omega) (by omega) rfl rfl fun σ H => (.nila H fun H => (.then (.Z0 5 rfl H fun b2 σ H => ?_)))))
 refine .Z4V (cs := [(vi 0), (vi 4)]) rfl rfl (.Z3u (sz := 2) ([(Span.mk 0 4)].map Span.cs) H (by omega) (by omega) rfl rfl rfl rfl rfl rfl rfl rfl rfl fun σ H => (.buildSF (sz := 1) ([[(Span.mk 0 4)]].map (cL Span.cs)) H (by omega) (by omega) rfl rfl (.exp (.c (.s 0 rfl)) .nil) rfl rfl rfl rfl rfl rfl rfl nofun fun σ H => (.Z4V (cs := [(vi 7), (vi 1), (.buf (b2 + 2) 1 1), .nils]) rfl rfl (.Z11 (off := 0) (cells' := [(vi 7), (vi 1), (.buf (b2 + 2) 1 1), .nils]) H 2 rfl rfl rfl rfl rfl rfl rfl rfl rfl nofun fun σ H => (.nila H fun H => ?_)))))
 refine .ret ?_
 subst h
 exact (Ends.H (xs := [(.agg [(vi 7), (vi 1), (.buf (b2 + 2) 1 1), .nils])]) (.inr rfl) H (.agg (cs := [(vi 7), (vi 1), (.buf (b2 + 2) 1 1), .nils]) (off := 0) 2 rfl rfl rfl rfl rfl rfl rfl .nil) (.one (.a (.cons (.v _) (.cons (.v _) (.cons (.s 0 rfl) (.cons .n .nil)))))))

theorem find_up_fn {r : Unit} (h : find_up = r) : Fn CX 53 [] (.agg [(vi 1), (.v (.fn 31)), (.v (.fn 64)), (.v (.fn 65))]) := by
 refine Fn.ends Try.func53 rfl rfl rfl rfl rfl rfl ?_
 have H : Hs (⟨0, fun _ => .none⟩ : Heap) [] := Has.nil (Nat.le_refl _)
 generalize (⟨0, fun _ => .none⟩ : Heap) = σ at H ⊢
 unfold find_up at h
 refine .then (.Z0 1 rfl H fun b1 σ H => (.Z1b (cs := [(vi 0), (.v .nilf), (.v .nilf), (.v .nilf)]) H (by omega) (by omega) rfl rfl fun σ H => (.nila H fun H => (.then (.Z0 2 rfl H fun b2 σ H => ?_)))))
 refine .Z4V (cs := [(vi 1), (.v (.fn 31)), (.v (.fn 64)), (.v (.fn 65))]) rfl rfl (.Z11 (off := 0) (cells' := [(vi 1), (.v (.fn 31)), (.v (.fn 64)), (.v (.fn 65))]) H 0 rfl rfl rfl rfl rfl rfl rfl rfl rfl nofun fun σ H => (.nila H fun H => (.ret ?_)))
 subst h
 exact (Ends.H (xs := [(.agg [(vi 1), (.v (.fn 31)), (.v (.fn 64)), (.v (.fn 65))])]) (.inr rfl) H (.agg (cs := [(vi 1), (.v (.fn 31)), (.v (.fn 64)), (.v (.fn 65))]) (off := 0) 0 rfl rfl rfl rfl rfl rfl rfl .nil) (.one (.p rfl)))

theorem Z5y {l : (List Span)} {r : Span × Bool} (h : Z1A l = some r) : Fn CX 41 [(vl Span.cs l)] (.tup [(.agg (vs (Span.cs r.1))), (vb r.2)]) := by
 refine Fn.ends Try.func41 rfl rfl rfl rfl rfl rfl ?_
 have H : Hs (⟨0, fun _ => .none⟩ : Heap) [] := Has.nil (Nat.le_refl _)
 generalize (⟨0, fun _ => .none⟩ : Heap) = σ at H ⊢
 unfold Z1A at h
 refine .then (.Z0 2 rfl H fun b1 σ H => (.Z1b (cs := [(vi 0), (vi 0)]) H (by omega) (by omega) rfl rfl fun σ H => (.assign (v := (vb false)) rfl rfl (.nila H fun H => (.then ?_)))))
 refine .then (.Z0 3 rfl H fun b2 σ H => (.move (v := (vl Span.cs l)) rfl rfl (.Z0O (c := Span.cs) (xs := l) rfl rfl rfl (.int (m := (l.length : Int)) (m' := 0) (r := .bool ((l.length : Int) == 0)) rfl rfl rfl rfl rfl (.nila H fun H => ?_)))))
 refine .whether (v := ((l.length : Int) == 0)) rfl ?_ ?_ <;> intro hc1
 ·replace h := Z8 hc1 h
  refine .then (.Z0 3 rfl H fun b3 σ H => (.Z4V (cs := [(vi 0), (vi 0)]) rfl rfl (.Z11 (off := 0) (cells' := [(vi 0), (vi 0)]) H 0 rfl rfl rfl rfl rfl rfl rfl rfl rfl nofun fun σ H => (.assign (v := (vb false)) rfl rfl (.nila H fun H => ?_)))))
  refine .ret ?_
  replace h := sj h; subst h
  exact (Ends.H (xs := [(.agg [(vi 0), (vi 0)]), (vb false)]) (.inr rfl) H (.agg (cs := [(vi 0), (vi 0)]) (off := 0) 0 rfl rfl rfl rfl rfl rfl rfl (.tmp (v := (vb false)) rfl .nil)) (.two (.cons (.p rfl) (.cons (.c (.v _)) .nil))))
 ·replace h := Z9 hc1 h
  refine .skip (.then (.Z4P 14 rfl (by kernel_rfl) H fun b4 σ H B4 => (.move (v := (vl Span.cs l)) rfl rfl ?_)))
  obtain ⟨x1, q1, h⟩ := bind_some h
  refine .Z0D (c := Span.cs) (u := x1) rfl rfl q1 rfl rfl rfl rfl (.Z0x rfl rfl rfl rfl (.Z2F (u := (.int .i64 x1.From)) rfl rfl rfl rfl (.move (v := (vl Span.cs l)) rfl rfl (.move (v := (vl Span.cs l)) rfl rfl (.Z0O (c := Span.cs) (xs := l) rfl rfl rfl ?_)))))
  refine .int (m := (l.length : Int)) (m' := 1) (r := .int .i64 (w64 ((l.length : Int) - 1))) rfl rfl rfl rfl rfl ?_
  obtain ⟨x2, q2, h⟩ := bind_some h
  refine .Z0D (c := Span.cs) (u := x2) rfl rfl q2 rfl rfl rfl rfl (.Z0x rfl rfl rfl rfl (.Z2F (u := (.int .i64 x2.To)) rfl rfl rfl rfl (.Z4V (cs := [(vi x1.From), (vi x2.To)]) rfl rfl (.Z11 (off := 0) (cells' := [(vi x1.From), (vi x2.To)]) H 0 rfl rfl rfl rfl rfl rfl rfl rfl rfl (fun _ => .inl ⟨B4 0 _ rfl _ rfl, (Z6k (by kernel_rfl))⟩) fun σ H => (.assign (v := (vb true)) rfl rfl ?_)))))
  refine .nila H fun H => (.ret ?_)
  replace h := sj h; subst h
  exact (Ends.H (xs := [(.agg [(vi x1.From), (vi x2.To)]), (vb true)]) (.inr rfl) H (.agg (cs := [(vi x1.From), (vi x2.To)]) (off := 0) 0 rfl rfl rfl rfl rfl rfl rfl (.tmp (v := (vb true)) rfl .nil)) (.two (.cons (.p rfl) (.cons (.c (.v _)) .nil))))

theorem find_up_1_fn {h' : Span} {t : Int} {period : Int} {r : Int} (h : Z5f h' t period = some r) : Fn CX 64 [(.agg (vs (Span.cs h'))), (vi t), (vi period)] (vi r) := by
 refine Fn.ends Try.func64 rfl rfl rfl rfl rfl rfl ?_
 have H : Hs (⟨0, fun _ => .none⟩ : Heap) [] := Has.nil (Nat.le_refl _)
 generalize (⟨0, fun _ => .none⟩ : Heap) = σ at H ⊢
 unfold Z5f at h
 refine .then (.Z0 2 rfl H fun b1 σ H => (.boxH (cs := [(vi h'.From), (vi h'.To)]) H (by omega) (by omega) rfl rfl rfl fun σ H => (.assign (v := (vi 0)) rfl rfl (.nila H fun H => (.then ?_)))))
 refine .Z0 13 rfl H fun b2 σ H => (.Z2 (off := 0) (fo := 1) H 0 rfl rfl rfl rfl rfl nofun rfl (.ZS (off := 1) (v := (vi h'.To)) H 0 rfl rfl rfl rfl rfl nofun rfl (.move (v := (vi t)) rfl rfl (.int (m := h'.To) (m' := t) (r := .int .i64 (w64 (h'.To - t))) rfl rfl rfl rfl rfl (.move (v := (vi period)) rfl rfl ?_)))))
 obtain ⟨x1, q1, h⟩ := bind_some h
 refine .call (ys := [(vi (w64 (h'.To - t))), (vi period)]) (r := (.tup [(vi x1.1), (vi x1.2.1), (vi x1.2.2)])) rfl (Z6D q1) rfl (.move (v := (.tup [(vi x1.1), (vi x1.2.1), (vi x1.2.2)])) rfl rfl (.extract (v := (vi x1.1)) rfl rfl rfl (.extract (v := (vi x1.2.1)) rfl rfl rfl (.extract (v := (vi x1.2.2)) rfl rfl rfl (.assign (v := (vi x1.1)) rfl rfl ?_)))))
 refine .assign (v := (vi x1.2.1)) rfl rfl (.assign (v := (vi x1.2.2)) rfl rfl (.nila H fun H => (.then (.Z0 3 rfl H fun b3 σ H => (.move (v := (vi x1.1)) rfl rfl ?_)))))
 refine .neg (m := x1.1) rfl rfl (.assign (v := (vi (w64 (0 - x1.1)))) rfl rfl (.nila H fun H => (.ret ?_)))
 replace h := sj h; subst h
 exact (Ends.H (xs := [(vi (w64 (0 - x1.1)))]) (.inr rfl) H (.tmp (v := (vi (w64 (0 - x1.1)))) rfl .nil) (.one (.c (.v _))))

theorem Z1t {f : Form} {t : Int} {r : Int × Bool} (h : ZA f t = some r) : Fn CX 74 [(.agg (vs (Form.cs f))), (vi t), (.agg [(vi 1), (.v (.fn 31)), (.v (.fn 64)), (.v (.fn 65))])] (.tup [(vi r.1), (vb r.2)]) := by
 refine Fn.ends Try.func74 rfl rfl rfl rfl rfl rfl ?_
 have H : Hs (⟨0, fun _ => .none⟩ : Heap) [] := Has.nil (Nat.le_refl _)
 generalize (⟨0, fun _ => .none⟩ : Heap) = σ at H ⊢
 unfold ZA at h
 refine .then (.Z0 4 rfl H fun b1 σ H => (.boxH (cs := (vF f)) H (by omega) (by omega) rfl rfl rfl fun σ H => (.boxH (cs := [(vi 1), (.v (.fn 31)), (.v (.fn 64)), (.v (.fn 65))]) H (by omega) (by omega) rfl rfl rfl fun σ H => (.assign (v := (vi 0)) rfl rfl (.assign (v := (vb false)) rfl rfl ?_)))))
 refine .nila H fun H => (.then (.Z0 2 rfl H fun b2 σ H => (.assign (v := (vi 0)) rfl rfl (.assign (v := (vb false)) rfl rfl (.nila H fun H => ?_)))))
 refine .then (.then (.Z0 4 rfl H fun b3 σ H => (.Z2 (off := 0) (fo := 2) H 1 rfl rfl rfl rfl rfl nofun rfl (.ZS (off := 2) (v := (vl (cL Span.cs) f.Core)) H 1 rfl rfl rfl rfl rfl nofun rfl (.Z0O (c := (cL Span.cs)) (xs := f.Core) rfl rfl rfl ?_)))))
 refine .move (v := (vi 0)) rfl rfl (.nila H fun H => (.inBlock ?_))
 obtain ⟨y1, hj1, h⟩ := bind_some h
 obtain ⟨n1, hj1⟩ := Zf.1 hj1
 refine .mono (Runs.ZM hj1 (fun s1 e σ => Z5 e [(1, (vi t)), (3, (.ptr (b1 + 0) 4 0)), (5, (.ptr (b1 + 1) 4 0)), (8, (vi s1.1)), (9, (vb s1.2.1)), (16, (vl (cL Span.cs) f.Core)), (17, (vi (f.Core.length : Int))), (18, (vi s1.2.2))] ∧ Hs σ [.blk (b1 + 1) 87 [(vi 1), (.v (.fn 31)), (.v (.fn 64)), (.v (.fn 65))], .blk (b1 + 0) 25 (vF f)]) (fun y1 x e σ => x = .exit 0 ∧ Z5 e [(8, (vi y1.1)), (9, (vb y1.2))] ∧ Hs σ []) ⟨⟨rfl, rfl, rfl, rfl, rfl, rfl, rfl, rfl, trivial⟩, H⟩ ?_) ?_
 ·intro s1 e σ hI z h
  obtain ⟨he, H⟩ := hI
  obtain ⟨e, rfl⟩ := he.ex
  unfold ZA.s0 at h
  refine .then (.Z0 1 rfl H fun b4 σ H => (.int (m := s1.2.2) (m' := (f.Core.length : Int)) (r := .bool (decide (s1.2.2 < (f.Core.length : Int)))) rfl rfl rfl rfl rfl (.nila H fun H => (.then ?_))))
  refine .whether (v := (decide (s1.2.2 < (f.Core.length : Int)))) rfl ?_ ?_ <;> intro hc1
  ·replace h := Z8 hc1 h
   refine .skip (.then ?_)
   obtain ⟨y2, hj2, h⟩ := bind_some h
   refine .mono (Q := fun x e σ => x = .normal ∧ Z5 e [(1, (vi t)), (3, (.ptr (b1 + 0) 4 0)), (5, (.ptr (b1 + 1) 4 0)), (8, (vi y2.1)), (9, (vb y2.2)), (16, (vl (cL Span.cs) f.Core)), (17, (vi (f.Core.length : Int))), (18, (vi s1.2.2))] ∧ Hs σ [.blk (b1 + 1) 87 [(vi 1), (.v (.fn 31)), (.v (.fn 64)), (.v (.fn 65))], .blk (b1 + 0) 25 (vF f)]) ?_ ?_
   ·replace h := hj2
    refine .inBlock ?_
    obtain ⟨y3, hj3, h⟩ := bind_some h
    refine .mono (Q := fun x e σ => (∃ a1, y3 = (.go a1) ∧ x = .normal ∧ Z5 e [(1, (vi t)), (3, (.ptr (b1 + 0) 4 0)), (5, (.ptr (b1 + 1) 4 0)), (8, (vi a1.1)), (9, (vb a1.2)), (16, (vl (cL Span.cs) f.Core)), (17, (vi (f.Core.length : Int))), (18, (vi s1.2.2))] ∧ Hs σ [.blk (b1 + 1) 87 [(vi 1), (.v (.fn 31)), (.v (.fn 64)), (.v (.fn 65))], .blk (b1 + 0) 25 (vF f)]) ∨ (∃ a2, y3 = (.ret a2) ∧ x = .exit 1 ∧ Z5 e [(1, (vi t)), (3, (.ptr (b1 + 0) 4 0)), (5, (.ptr (b1 + 1) 4 0)), (8, (vi s1.1)), (9, (vb s1.2.1)), (16, (vl (cL Span.cs) f.Core)), (17, (vi (f.Core.length : Int))), (18, (vi s1.2.2))] ∧ Hs σ [.blk (b1 + 1) 87 [(vi 1), (.v (.fn 31)), (.v (.fn 64)), (.v (.fn 65))], .blk (b1 + 0) 25 (vF f)])) ?_ ?_
    ·replace h := hj3
     refine .then (.Z0 5 rfl H fun b5 σ H => (.move (v := (vi s1.2.2)) rfl rfl ?_))
     obtain ⟨x1, q1, h⟩ := bind_some h
     refine .Z0D (c := (cL Span.cs)) (u := x1) rfl rfl q1 rfl rfl rfl rfl (.Z2F (u := (.sl (x1.map Span.cs))) rfl rfl rfl rfl (.assign (v := (vi s1.2.2)) rfl rfl (.assign (v := (vl Span.cs x1)) rfl rfl (.nila H fun H => (.then ?_)))))
     refine .Z0 8 rfl H fun b6 σ H => (.move (v := (vl Span.cs x1)) rfl rfl ?_)
     obtain ⟨x2, q2, h⟩ := bind_some h
     refine .call (ys := [(vl Span.cs x1)]) (r := (.tup [(.agg [(vi x2.1.From), (vi x2.1.To)]), (vb x2.2)])) rfl (Z5y q2) rfl (.move (v := (.tup [(.agg [(vi x2.1.From), (vi x2.1.To)]), (vb x2.2)])) rfl rfl (.extract (v := (.agg [(vi x2.1.From), (vi x2.1.To)])) rfl rfl rfl (.extract (v := (vb x2.2)) rfl rfl rfl (.Z1b (cs := [(vi 0), (vi 0)]) H (by omega) (by omega) rfl rfl fun σ H => (.Z11 (off := 0) (cells' := [(vi x2.1.From), (vi x2.1.To)]) H 0 rfl rfl rfl rfl rfl rfl rfl rfl rfl nofun fun σ H => ?_)))))
     refine .assign (v := (vb x2.2)) rfl rfl (.nila H fun H => (.then (.then (.Z0 2 rfl H fun b7 σ H => (.move (v := (vb x2.2)) rfl rfl ?_)))))
     refine .not (b := x2.2) rfl rfl (.nila H fun H => ?_)
     refine .whether (v := (!x2.2)) rfl ?_ ?_ <;> intro hc2
     ·replace h := Z8 hc2 h
      refine .exit ?_
      replace h := sj h; subst h
      exact (.inr ⟨_, rfl, rfl, ⟨rfl, rfl, rfl, rfl, rfl, rfl, rfl, rfl, trivial⟩, (H.erase 0)⟩)
     ·replace h := Z9 hc2 h
      refine .skip (.then (.Z4P 13 rfl (by kernel_rfl) H fun b8 σ H B8 => (.Z2 (off := 0) (fo := 2) H 1 rfl rfl rfl rfl rfl (fun _ => .inl ⟨B8 1 _ rfl _ rfl, nofun, (fun _ => by kernel_rfl)⟩) rfl (.ZS (off := 2) (v := (.v (.fn 64))) H 1 rfl rfl rfl rfl rfl (fun _ => .inl ⟨B8 1 _ rfl _ rfl, nofun, (fun _ => by kernel_rfl)⟩) rfl (.ZY (off := 0) (cs := [(vi x2.1.From), (vi x2.1.To)]) H 0 rfl rfl rfl rfl rfl rfl rfl (fun _ => .inl ⟨B8 0 _ rfl _ rfl, nofun, (fun _ => by kernel_rfl)⟩) rfl ?_)))))
      refine .move (v := (vi t)) rfl rfl (.Z2 (off := 0) (fo := 0) H 2 rfl rfl rfl rfl rfl (fun _ => .inl ⟨B8 2 _ rfl _ rfl, nofun, (fun _ => by kernel_rfl)⟩) rfl (.ZS (off := 0) (v := (vi f.Period)) H 2 rfl rfl rfl rfl rfl (fun _ => .inl ⟨B8 2 _ rfl _ rfl, nofun, (fun _ => by kernel_rfl)⟩) rfl ?_))
      obtain ⟨x3, q3, h⟩ := bind_some h
      refine .callF (ys := [(.agg [(vi x2.1.From), (vi x2.1.To)]), (vi t), (vi f.Period)]) (r := (vi x3)) rfl rfl (find_up_1_fn q3) rfl (.Z2 (off := 0) (fo := 1) H 2 rfl rfl rfl rfl rfl (fun _ => .inl ⟨B8 2 _ rfl _ rfl, nofun, (fun _ => by kernel_rfl)⟩) rfl (.ZS (off := 1) (v := (vi f.Count)) H 2 rfl rfl rfl rfl rfl (fun _ => .inl ⟨B8 2 _ rfl _ rfl, nofun, (fun _ => by kernel_rfl)⟩) rfl (.int (m := x3) (m' := f.Count) (r := .int .i64 (w64 (x3 * f.Count))) rfl rfl rfl rfl rfl (.move (v := (vi s1.2.2)) rfl rfl (.int (m := (w64 (x3 * f.Count))) (m' := s1.2.2) (r := .int .i64 (w64 ((w64 (x3 * f.Count)) + s1.2.2))) rfl rfl rfl rfl rfl ?_)))))
      refine .assign (v := (vi (w64 ((w64 (x3 * f.Count)) + s1.2.2)))) rfl rfl (.nila H fun H => (.then (.Z0 11 rfl H fun b9 σ H => (.move (v := (vb s1.2.1)) rfl rfl (.not (b := s1.2.1) rfl rfl ?_)))))
      refine .move (v := (vb (!s1.2.1))) rfl rfl ?_
      refine .mid 8 (K1 := fun e σ => Z5 e [(52, (vb ((!s1.2.1) || (decide ((w64 ((w64 ((w64 ((w64 (x3 * f.Count)) + s1.2.2)) - s1.1)) * 1)) < 0))))), (1, (vi t)), (3, (.ptr (b1 + 0) 4 0)), (5, (.ptr (b1 + 1) 4 0)), (8, (vi s1.1)), (9, (vb s1.2.1)), (14, (vi (w64 ((w64 (x3 * f.Count)) + s1.2.2)))), (16, (vl (cL Span.cs) f.Core)), (17, (vi (f.Core.length : Int))), (18, (vi s1.2.2))] ∧ Has σ (b9 + 11) (b9 + 11) [.blk (b1 + 1) 87 [(vi 1), (.v (.fn 31)), (.v (.fn 64)), (.v (.fn 65))], .blk (b1 + 0) 25 (vF f)]) rfl ?_ ?_
      ·refine .split rfl rfl ?_ ?_ <;> intro hc3
       ·skip
        refine .pass rfl rfl rfl (.pass rfl rfl rfl (.pass rfl rfl rfl (.pass rfl rfl rfl (.pass rfl rfl rfl (.pass rfl rfl rfl ?_)))))
        refine .pass rfl rfl rfl (.ZZ (v := (vb true)) rfl rfl rfl (.nil ?_))
        exact ⟨⟨or_T hc3, rfl, rfl, rfl, rfl, rfl, rfl, rfl, rfl, rfl, trivial⟩, (H.erase 0).weak (by omega) (Nat.le_refl _)⟩
       ·skip
        refine .wanted rfl rfl (.move (v := (vi (w64 ((w64 (x3 * f.Count)) + s1.2.2)))) rfl rfl (.wanted rfl rfl (.move (v := (vi s1.1)) rfl rfl (.wanted rfl rfl (.int (m := (w64 ((w64 (x3 * f.Count)) + s1.2.2))) (m' := s1.1) (r := .int .i64 (w64 ((w64 ((w64 (x3 * f.Count)) + s1.2.2)) - s1.1))) rfl rfl rfl rfl rfl ?_)))))
        refine .wanted rfl rfl (.Z2 (off := 0) (fo := 0) H 1 rfl rfl rfl rfl rfl nofun rfl (.wanted rfl rfl (.ZS (off := 0) (v := (vi 1)) H 1 rfl rfl rfl rfl rfl nofun rfl (.wanted rfl rfl (.int (m := (w64 ((w64 ((w64 (x3 * f.Count)) + s1.2.2)) - s1.1))) (m' := 1) (r := .int .i64 (w64 ((w64 ((w64 ((w64 (x3 * f.Count)) + s1.2.2)) - s1.1)) * 1))) rfl rfl rfl rfl rfl ?_)))))
        refine .wanted rfl rfl (.int (m := (w64 ((w64 ((w64 ((w64 (x3 * f.Count)) + s1.2.2)) - s1.1)) * 1))) (m' := 0) (r := .bool (decide ((w64 ((w64 ((w64 ((w64 (x3 * f.Count)) + s1.2.2)) - s1.1)) * 1)) < 0))) rfl rfl rfl rfl rfl (.Zb (v := (vb (decide ((w64 ((w64 ((w64 ((w64 (x3 * f.Count)) + s1.2.2)) - s1.1)) * 1)) < 0)))) rfl rfl rfl (.nil ?_)))
        exact ⟨⟨or_F hc3, rfl, rfl, rfl, rfl, rfl, rfl, rfl, rfl, rfl, trivial⟩, (H.erase 0).weak (by omega) (Nat.le_refl _)⟩
      ·rintro e σ ⟨he, H⟩
       obtain ⟨e, rfl⟩ := he.ex
       refine .nila H fun H => ?_
       refine .whether (v := ((!s1.2.1) || (decide ((w64 ((w64 ((w64 ((w64 (x3 * f.Count)) + s1.2.2)) - s1.1)) * 1)) < 0)))) rfl ?_ ?_ <;> intro hc4
       ·replace h := Z8 hc4 h
        refine .Z0 3 rfl H fun b10 σ H => (.move (v := (vi (w64 ((w64 (x3 * f.Count)) + s1.2.2)))) rfl rfl (.assign (v := (vi (w64 ((w64 (x3 * f.Count)) + s1.2.2)))) rfl rfl (.assign (v := (vb true)) rfl rfl (.nila H fun H => ?_))))
        replace h := sj h; subst h
        exact (.inl ⟨_, rfl, rfl, ⟨rfl, rfl, rfl, rfl, rfl, rfl, rfl, rfl, trivial⟩, H⟩)
       ·replace h := Z9 hc4 h
        refine .skip ?_
        replace h := sj h; subst h
        exact (.inl ⟨_, rfl, rfl, ⟨rfl, rfl, rfl, rfl, rfl, rfl, rfl, rfl, trivial⟩, H⟩)
    ·rintro x e σ (⟨a3, rfl, rfl, he, H⟩ | ⟨a4, rfl, rfl, he, H⟩)
     ·skip
      replace h := jgo h
      obtain ⟨e, rfl⟩ := he.ex
      replace h := sj h; subst h
      exact ⟨rfl, ⟨rfl, rfl, rfl, rfl, rfl, rfl, rfl, rfl, trivial⟩, H⟩
     ·skip
      replace h := jret h
      obtain ⟨e, rfl⟩ := he.ex
      replace h := sj h; subst h
      exact ⟨rfl, ⟨rfl, rfl, rfl, rfl, rfl, rfl, rfl, rfl, trivial⟩, H⟩
   ·rintro x e σ ⟨rfl, he, H⟩
    obtain ⟨e, rfl⟩ := he.ex
    refine .Z0 2 rfl H fun b11 σ H => (.int (m := s1.2.2) (m' := 1) (r := .int .i64 (w64 (s1.2.2 + 1))) rfl rfl rfl rfl rfl (.move (v := (vi (w64 (s1.2.2 + 1)))) rfl rfl (.nila H fun H => ?_)))
    replace h := sj h; subst h
    exact ⟨rfl, ⟨rfl, rfl, rfl, rfl, rfl, rfl, rfl, rfl, trivial⟩, H⟩
  ·replace h := Z9 hc1 h
   refine .exit ?_
   replace h := sj h; subst h
   exact ⟨nofun, ⟨rfl, ⟨rfl, rfl, trivial⟩, ((H.erase 1).erase 0)⟩⟩
 ·rintro x e σ ⟨rfl, he, H⟩
  obtain ⟨e, rfl⟩ := he.ex
  refine .then (.Z0 4 rfl H fun b12 σ H => (.move (v := (vi y1.1)) rfl rfl (.move (v := (vb y1.2)) rfl rfl (.assign (v := (vi y1.1)) rfl rfl (.assign (v := (vb y1.2)) rfl rfl ?_)))))
  refine .nila H fun H => (.ret ?_)
  replace h := sj h; subst h
  exact (Ends.H (xs := [(vi y1.1), (vb y1.2)]) (.inr rfl) H (.tmp (v := (vi y1.1)) rfl (.tmp (v := (vb y1.2)) rfl .nil)) (.two (.cons (.c (.v _)) (.cons (.c (.v _)) .nil))))

theorem Z1s {f : Form} {t : Int} {r : Int × Bool} (h : Z3 f t = some r) : Fn CX 63 [(.agg (vs (Form.cs f))), (vi t), (.agg [(vi 1), (.v (.fn 31)), (.v (.fn 64)), (.v (.fn 65))])] (.tup [(vi r.1), (vb r.2)]) := by
 refine Fn.ends Try.func63 rfl rfl rfl rfl rfl rfl ?_
 have H : Hs (⟨0, fun _ => .none⟩ : Heap) [] := Has.nil (Nat.le_refl _)
 generalize (⟨0, fun _ => .none⟩ : Heap) = σ at H ⊢
 unfold Z3 at h
 refine .then (.Z0 4 rfl H fun b1 σ H => (.boxH (cs := (vF f)) H (by omega) (by omega) rfl rfl rfl fun σ H => (.boxH (cs := [(vi 1), (.v (.fn 31)), (.v (.fn 64)), (.v (.fn 65))]) H (by omega) (by omega) rfl rfl rfl fun σ H => (.assign (v := (vi 0)) rfl rfl (.assign (v := (vb false)) rfl rfl ?_)))))
 refine .nila H fun H => (.then (.Z0 9 rfl H fun b2 σ H => (.Z2 (off := 0) (fo := 0) H 1 rfl rfl rfl rfl rfl nofun rfl (.ZS (off := 0) (v := (vi f.Period)) H 1 rfl rfl rfl rfl rfl nofun rfl (.Z2 (off := 0) (fo := 1) H 1 rfl rfl rfl rfl rfl nofun rfl ?_)))))
 refine .ZS (off := 1) (v := (vi f.Count)) H 1 rfl rfl rfl rfl rfl nofun rfl (.Z2 (off := 0) (fo := 2) H 1 rfl rfl rfl rfl rfl nofun rfl (.ZS (off := 2) (v := (vl (cL Span.cs) f.Core)) H 1 rfl rfl rfl rfl rfl nofun rfl (.Z4V (cs := [(vi f.Period), (vi f.Count), (vl (cL Span.cs) f.Core), .nils]) rfl rfl (.Z1b (cs := [(vi 0), (vi 0), .nils, .nils]) H (by omega) (by omega) rfl rfl fun σ H => (.Z11 (off := 0) (cells' := [(vi f.Period), (vi f.Count), (vl (cL Span.cs) f.Core), .nils]) H 0 rfl rfl rfl rfl rfl rfl rfl rfl rfl nofun fun σ H => ?_)))))
 refine .nila H fun H => (.then (.Z0 9 rfl H fun b3 σ H => (.ZY (off := 0) (cs := (vF f)) H 2 rfl rfl rfl rfl rfl rfl rfl nofun rfl (.move (v := (vi t)) rfl rfl (.ZY (off := 0) (cs := [(vi 1), (.v (.fn 31)), (.v (.fn 64)), (.v (.fn 65))]) H 1 rfl rfl rfl rfl rfl rfl rfl nofun rfl ?_)))))
 obtain ⟨x1, q1, h⟩ := bind_some h
 refine .call (ys := [(.agg (vF f)), (vi t), (.agg [(vi 1), (.v (.fn 31)), (.v (.fn 64)), (.v (.fn 65))])]) (r := (.tup [(vi x1.1), (vb x1.2)])) rfl (Z1t q1) rfl (.move (v := (.tup [(vi x1.1), (vb x1.2)])) rfl rfl (.extract (v := (vi x1.1)) rfl rfl rfl (.extract (v := (vb x1.2)) rfl rfl rfl (.assign (v := (vi x1.1)) rfl rfl (.assign (v := (vb x1.2)) rfl rfl ?_)))))
 refine .nila H fun H => (.then (.then (.Z0 2 rfl H fun b4 σ H => (.move (v := (vb x1.2)) rfl rfl (.not (b := x1.2) rfl rfl ?_)))))
 refine .nila H fun H => ?_
 refine .whether (v := (!x1.2)) rfl ?_ ?_ <;> intro hc1
 ·replace h := Z8 hc1 h
  refine .then (.Z0 2 rfl H fun b5 σ H => (.assign (v := (vi 0)) rfl rfl (.assign (v := (vb false)) rfl rfl (.nila H fun H => (.ret ?_)))))
  replace h := sj h; subst h
  exact (Ends.H (xs := [(vi 0), (vb false)]) (.inr rfl) H (.tmp (v := (vi 0)) rfl (.tmp (v := (vb false)) rfl .nil)) (.two (.cons (.c (.v _)) (.cons (.c (.v _)) .nil))))
 ·replace h := Z9 hc1 h
  refine .skip (.then (.Z0 2 rfl H fun b6 σ H => (.makeMapH H (by omega) (by omega) rfl rfl fun σ H => (.assign (v := (.mp (b6 + 0))) rfl rfl (.nila H fun H => ?_)))))
  refine .then (.then (.Z0 4 rfl H fun b7 σ H => (.Z2 (off := 0) (fo := 3) H 3 rfl rfl rfl rfl rfl nofun rfl (.ZS (off := 3) (v := (vl Granule.cs f.Odd)) H 3 rfl rfl rfl rfl rfl nofun rfl (.Z0O (c := Granule.cs) (xs := f.Odd) rfl rfl rfl ?_)))))
  refine .move (v := (vi 0)) rfl rfl (.nila H fun H => (.inBlock ?_))
  obtain ⟨y1, hj1, h⟩ := bind_some h
  obtain ⟨n1, hj1⟩ := Zf.1 hj1
  refine .mono (Runs.ZM hj1 (fun s1 e σ => Z5 e [(5, (.ptr (b1 + 1) 4 0)), (8, (.ptr (b2 + 7) 4 0)), (9, (vi x1.1)), (11, (.mp (b6 + 0))), (35, (vl Granule.cs f.Odd)), (36, (vi (f.Odd.length : Int))), (37, (vi s1.1))] ∧ Hs σ [.mp (b6 + 0) s1.2, .blk (b2 + 7) 25 [(vi f.Period), (vi f.Count), (vl (cL Span.cs) f.Core), .nils], .blk (b1 + 1) 87 [(vi 1), (.v (.fn 31)), (.v (.fn 64)), (.v (.fn 65))]]) (fun y1 x e σ => x = .exit 0 ∧ Z5 e [(5, (.ptr (b1 + 1) 4 0)), (8, (.ptr (b2 + 7) 4 0)), (9, (vi x1.1)), (11, (.mp (b6 + 0)))] ∧ Hs σ [.mp (b6 + 0) y1, .blk (b2 + 7) 25 [(vi f.Period), (vi f.Count), (vl (cL Span.cs) f.Core), .nils], .blk (b1 + 1) 87 [(vi 1), (.v (.fn 31)), (.v (.fn 64)), (.v (.fn 65))]]) ⟨⟨rfl, rfl, rfl, rfl, rfl, rfl, rfl, trivial⟩, (H.erase 3)⟩ ?_) ?_
  ·intro s1 e σ hI z h
   obtain ⟨he, H⟩ := hI
   obtain ⟨e, rfl⟩ := he.ex
   unfold Z3.s0 at h
   refine .then (.Z0 1 rfl H fun b8 σ H => (.int (m := s1.1) (m' := (f.Odd.length : Int)) (r := .bool (decide (s1.1 < (f.Odd.length : Int)))) rfl rfl rfl rfl rfl (.nila H fun H => (.then ?_))))
   refine .whether (v := (decide (s1.1 < (f.Odd.length : Int)))) rfl ?_ ?_ <;> intro hc2
   ·replace h := Z8 hc2 h
    refine .skip (.then (.inBlock (.then (.Z0 4 rfl H fun b9 σ H => ?_))))
    obtain ⟨x2, q2, h⟩ := bind_some h
    refine .Z0D (c := Granule.cs) (u := x2) rfl rfl q2 rfl rfl rfl rfl (.Z2Y (cs := [(.int .i64 x2.Index), (.sl (x2.Ticks.map Span.cs))]) rfl rfl rfl rfl rfl rfl (.Z1b (cs := [(vi 0), .nils]) H (by omega) (by omega) rfl rfl fun σ H => (.Z11 (off := 0) (cells' := [(vi x2.Index), (vl Span.cs x2.Ticks)]) H 0 rfl rfl rfl rfl rfl rfl rfl rfl rfl nofun fun σ H => (.nila H fun H => (.Z0 6 rfl H fun b10 σ H => ?_)))))
    refine .move (v := (.mp (b6 + 0))) rfl rfl (.Z2 (off := 0) (fo := 0) H 0 rfl rfl rfl rfl rfl nofun rfl (.ZS (off := 0) (v := (vi x2.Index)) H 0 rfl rfl rfl rfl rfl nofun rfl (.lookupH (a := x2.Index) H 1 rfl rfl rfl rfl rfl (.int (m := (mget s1.2 x2.Index)) (m' := 1) (r := .int .i64 (w64 ((mget s1.2 x2.Index) + 1))) rfl rfl rfl rfl rfl (.mapUpdateH (a := x2.Index) (b := (w64 ((mget s1.2 x2.Index) + 1))) H 1 rfl rfl rfl rfl rfl fun σ H => ?_)))))
    refine .nila H fun H => (.Z0 2 rfl H fun b11 σ H => (.int (m := s1.1) (m' := 1) (r := .int .i64 (w64 (s1.1 + 1))) rfl rfl rfl rfl rfl (.move (v := (vi (w64 (s1.1 + 1)))) rfl rfl (.nila H fun H => ?_))))
    replace h := sj h; subst h
    exact ⟨rfl, ⟨rfl, rfl, rfl, rfl, rfl, rfl, rfl, trivial⟩, (H.erase 0)⟩
   ·replace h := Z9 hc2 h
    refine .exit ?_
    replace h := sj h; subst h
    exact ⟨nofun, ⟨rfl, ⟨rfl, rfl, rfl, rfl, trivial⟩, H⟩⟩
  ·rintro x e σ ⟨rfl, he, H⟩
   obtain ⟨e, rfl⟩ := he.ex
   refine .then (.Z0 1 rfl H fun b12 σ H => (.assign (v := (vi 0)) rfl rfl (.nila H fun H => (.then (.then ?_)))))
   refine .Z0 13 rfl H fun b13 σ H => (.Z2 (off := 0) (fo := 1) H 2 rfl rfl rfl rfl rfl nofun rfl (.ZS (off := 1) (v := (.v (.fn 31))) H 2 rfl rfl rfl rfl rfl nofun rfl (.ZY (off := 0) (cs := [(vi f.Period), (vi f.Count), (vl (cL Span.cs) f.Core), .nils]) H 1 rfl rfl rfl rfl rfl rfl rfl nofun rfl (.move (v := (vi x1.1)) rfl rfl (.Z2 (off := 0) (fo := 0) H 2 rfl rfl rfl rfl rfl nofun rfl ?_)))))
   refine .ZS (off := 0) (v := (vi 1)) H 2 rfl rfl rfl rfl rfl nofun rfl (.int (m := x1.1) (m' := 1) (r := .int .i64 (w64 (x1.1 - 1))) rfl rfl rfl rfl rfl ?_)
   obtain ⟨x3, q3, h⟩ := bind_some h
   refine .callFX (xs := [(.agg [(vi f.Period), (vi f.Count), (vl (cL Span.cs) f.Core), .nils]), (vi (w64 (x1.1 - 1)))]) (ys := [(.agg (vs (Form.cs (Form.mk f.Period f.Count f.Core [])))), (vi (w64 (x1.1 - 1)))]) H rfl rfl (.cons (.a (.cons (.v _) (.cons (.v _) (.cons (.v _) (.cons (.n) .nil))))) (.cons (.c (.v _)) .nil)) (Z3o q3) rfl rfl nofun rfl fun σ H => (.move (v := (.tup [(vi x3.1), (vb x3.2)])) rfl rfl (.extract (v := (vi x3.1)) rfl rfl rfl (.extract (v := (vb x3.2)) rfl rfl rfl (.assign (v := (vi x3.1)) rfl rfl (.assign (v := (vb x3.2)) rfl rfl ?_)))))
   refine .nila H fun H => (.inBlock ?_)
   obtain ⟨y2, hj2, h⟩ := bind_some h
   obtain ⟨n2, hj2⟩ := Zf.1 hj2
   refine .mono (Runs.ZM hj2 (fun s2 e σ => Z5 e [(5, (.ptr (b1 + 1) 4 0)), (8, (.ptr (b2 + 7) 4 0)), (9, (vi s2.1)), (10, (vb s2.2.1)), (11, (.mp (b6 + 0))), (14, (vi s2.2.2))] ∧ Hs σ [.mp (b6 + 0) y1, .blk (b2 + 7) 25 [(vi f.Period), (vi f.Count), (vl (cL Span.cs) f.Core), .nils], .blk (b1 + 1) 87 [(vi 1), (.v (.fn 31)), (.v (.fn 64)), (.v (.fn 65))]]) (fun y2 x e σ => (∃ a1, y2 = (.go a1) ∧ x = .exit 2 ∧ Z5 e [] ∧ Hs σ []) ∨ (∃ r', y2 = (.ret r') ∧ x = .ret ∧ Ends CX Try.f63.results.toList (.tup [(vi r'.1), (vb r'.2)]) x e σ)) ⟨⟨rfl, rfl, rfl, rfl, rfl, rfl, trivial⟩, H⟩ ?_) ?_
   ·intro s2 e σ hI z h
    obtain ⟨he, H⟩ := hI
    obtain ⟨e, rfl⟩ := he.ex
    unfold Z3.s1 at h
    refine .then (.then (.Z0 5 rfl H fun b14 σ H => (.move (v := (vb s2.2.1)) rfl rfl (.move (v := (vb s2.2.1)) rfl rfl ?_))))
    refine .mid 3 (K1 := fun e σ => Z5 e [(62, (vb (s2.2.1 && (decide (s2.2.2 < 2))))), (5, (.ptr (b1 + 1) 4 0)), (8, (.ptr (b2 + 7) 4 0)), (9, (vi s2.1)), (11, (.mp (b6 + 0))), (14, (vi s2.2.2))] ∧ Has σ (b14 + 5) (b14 + 5) [.mp (b6 + 0) y1, .blk (b2 + 7) 25 [(vi f.Period), (vi f.Count), (vl (cL Span.cs) f.Core), .nils], .blk (b1 + 1) 87 [(vi 1), (.v (.fn 31)), (.v (.fn 64)), (.v (.fn 65))]]) rfl ?_ ?_
    ·refine .split rfl rfl ?_ ?_ <;> intro hc3
     ·skip
      refine .wanted rfl rfl (.move (v := (vi s2.2.2)) rfl rfl (.wanted rfl rfl (.int (m := s2.2.2) (m' := 2) (r := .bool (decide (s2.2.2 < 2))) rfl rfl rfl rfl rfl (.ZZ (v := (vb (decide (s2.2.2 < 2)))) rfl rfl rfl (.nil ?_)))))
      exact ⟨⟨Z0p hc3, rfl, rfl, rfl, rfl, rfl, trivial⟩, H.weak (by omega) (Nat.le_refl _)⟩
     ·skip
      refine .pass rfl rfl rfl (.pass rfl rfl rfl (.Zb (v := (vb false)) rfl rfl rfl (.nil ?_)))
      exact ⟨⟨Z0o hc3, rfl, rfl, rfl, rfl, rfl, trivial⟩, H.weak (by omega) (Nat.le_refl _)⟩
    ·rintro e σ ⟨he, H⟩
     obtain ⟨e, rfl⟩ := he.ex
     refine .nila H fun H => ?_
     refine .whether (v := (s2.2.1 && (decide (s2.2.2 < 2)))) rfl ?_ ?_ <;> intro hc4
     ·replace h := Z8 hc4 h
      refine .skip (.then ?_)
      obtain ⟨y3, hj3, h⟩ := bind_some h
      refine .mono (Q := fun x e σ => (∃ a2, y3 = (.go a2) ∧ x = .normal ∧ Z5 e [(5, (.ptr (b1 + 1) 4 0)), (8, (.ptr (b2 + 7) 4 0)), (9, (vi s2.1)), (11, (.mp (b6 + 0))), (14, (vi a2))] ∧ Hs σ [.mp (b6 + 0) y1, .blk (b2 + 7) 25 [(vi f.Period), (vi f.Count), (vl (cL Span.cs) f.Core), .nils], .blk (b1 + 1) 87 [(vi 1), (.v (.fn 31)), (.v (.fn 64)), (.v (.fn 65))]]) ∨ (∃ r', y3 = (.ret r') ∧ x = .ret ∧ Ends CX Try.f63.results.toList (.tup [(vi r'.1), (vb r'.2)]) x e σ)) ?_ ?_
      ·replace h := hj3
       refine .inBlock ?_
       obtain ⟨y4, hj4, h⟩ := bind_some h
       refine .mono (Q := fun x e σ => (∃ a3, y4 = (.go a3) ∧ x = .normal ∧ Z5 e [(5, (.ptr (b1 + 1) 4 0)), (8, (.ptr (b2 + 7) 4 0)), (9, (vi s2.1)), (11, (.mp (b6 + 0))), (14, (vi a3))] ∧ Hs σ [.mp (b6 + 0) y1, .blk (b2 + 7) 25 [(vi f.Period), (vi f.Count), (vl (cL Span.cs) f.Core), .nils], .blk (b1 + 1) 87 [(vi 1), (.v (.fn 31)), (.v (.fn 64)), (.v (.fn 65))]]) ∨ (∃ r', y4 = (.ret r') ∧ x = .ret ∧ Ends CX Try.f63.results.toList (.tup [(vi r'.1), (vb r'.2)]) x e σ)) ?_ ?_
       ·replace h := hj4
        refine .then (.Z0 8 rfl H fun b15 σ H => (.ZY (off := 0) (cs := [(vi f.Period), (vi f.Count), (vl (cL Span.cs) f.Core), .nils]) H 1 rfl rfl rfl rfl rfl rfl rfl nofun rfl (.move (v := (vi s2.1)) rfl rfl ?_)))
        obtain ⟨x4, q4, h⟩ := bind_some h
        refine .callX (xs := [(.agg [(vi f.Period), (vi f.Count), (vl (cL Span.cs) f.Core), .nils]), (vi s2.1)]) (ys := [(.agg (vs (Form.cs (Form.mk f.Period f.Count f.Core [])))), (vi s2.1)]) H rfl (.cons (.a (.cons (.v _) (.cons (.v _) (.cons (.v _) (.cons (.n) .nil))))) (.cons (.c (.v _)) .nil)) (Z3S q4) rfl rfl nofun rfl fun σ H => (.move (v := (.tup [(vl Span.cs x4.1), (vi x4.2)])) rfl rfl (.extract (v := (vl Span.cs x4.1)) rfl rfl rfl (.extract (v := (vi x4.2)) rfl rfl rfl (.assign (v := (vl Span.cs x4.1)) rfl rfl (.assign (v := (vi x4.2)) rfl rfl ?_)))))
        refine .nila H fun H => (.then (.Z0 2 rfl H fun b16 σ H => (.move (v := (vi x4.2)) rfl rfl (.int (m := x4.2) (m' := 0) (r := .bool (x4.2 != 0)) rfl rfl rfl rfl rfl (.nila H fun H => ?_)))))
        refine .whether (v := (x4.2 != 0)) rfl ?_ ?_ <;> intro hc5
        ·replace h := Z8 hc5 h
         refine .Z0 3 rfl H fun b17 σ H => (.move (v := (vi s2.2.2)) rfl rfl (.int (m := s2.2.2) (m' := 1) (r := .int .i64 (w64 (s2.2.2 + 1))) rfl rfl rfl rfl rfl (.assign (v := (vi (w64 (s2.2.2 + 1)))) rfl rfl (.nila H fun H => ?_))))
         replace h := sj h; subst h
         exact (.inl ⟨_, rfl, rfl, ⟨rfl, rfl, rfl, rfl, rfl, trivial⟩, H⟩)
        ·replace h := Z9 hc5 h
         refine .then (.Z0 4 rfl H fun b18 σ H => (.move (v := (.mp (b6 + 0))) rfl rfl (.move (v := (vi s2.1)) rfl rfl (.lookupH (a := s2.1) H 0 rfl rfl rfl rfl rfl (.int (m := (mget y1 s2.1)) (m' := 0) (r := .bool ((mget y1 s2.1) == 0)) rfl rfl rfl rfl rfl ?_)))))
         refine .nila H fun H => ?_
         refine .whether (v := ((mget y1 s2.1) == 0)) rfl ?_ ?_ <;> intro hc6
         ·replace h := Z8 hc6 h
          refine .then (.Z0 3 rfl H fun b19 σ H => (.move (v := (vi s2.1)) rfl rfl (.assign (v := (vi s2.1)) rfl rfl (.assign (v := (vb true)) rfl rfl (.nila H fun H => ?_)))))
          refine .ret ?_
          replace h := sj h; subst h
          exact (.inr ⟨_, rfl, rfl, (Ends.H (xs := [(vi s2.1), (vb true)]) (.inr rfl) H (.tmp (v := (vi s2.1)) rfl (.tmp (v := (vb true)) rfl .nil)) (.two (.cons (.c (.v _)) (.cons (.c (.v _)) .nil))))⟩)
         ·replace h := Z9 hc6 h
          refine .skip ?_
          replace h := sj h; subst h
          exact (.inl ⟨_, rfl, rfl, ⟨rfl, rfl, rfl, rfl, rfl, trivial⟩, H⟩)
       ·rintro x e σ (⟨a4, rfl, rfl, he, H⟩ | ⟨r', rfl, rfl, hE⟩)
        ·skip
         replace h := jgo h
         obtain ⟨e, rfl⟩ := he.ex
         replace h := sj h; subst h
         exact (.inl ⟨_, rfl, rfl, ⟨rfl, rfl, rfl, rfl, rfl, trivial⟩, H⟩)
        ·skip
         replace h := jret h
         replace h := sj h; subst h
         exact (.inr ⟨_, rfl, rfl, hE⟩)
      ·rintro x e σ (⟨a5, rfl, rfl, he, H⟩ | ⟨r', rfl, rfl, hE⟩)
       ·skip
        replace h := jgo h
        obtain ⟨e, rfl⟩ := he.ex
        refine .Z0 10 rfl H fun b20 σ H => (.Z2 (off := 0) (fo := 1) H 2 rfl rfl rfl rfl rfl nofun rfl (.ZS (off := 1) (v := (.v (.fn 31))) H 2 rfl rfl rfl rfl rfl nofun rfl (.ZY (off := 0) (cs := [(vi f.Period), (vi f.Count), (vl (cL Span.cs) f.Core), .nils]) H 1 rfl rfl rfl rfl rfl rfl rfl nofun rfl (.move (v := (vi s2.1)) rfl rfl ?_))))
        obtain ⟨x5, q5, h⟩ := bind_some h
        refine .callFX (xs := [(.agg [(vi f.Period), (vi f.Count), (vl (cL Span.cs) f.Core), .nils]), (vi s2.1)]) (ys := [(.agg (vs (Form.cs (Form.mk f.Period f.Count f.Core [])))), (vi s2.1)]) H rfl rfl (.cons (.a (.cons (.v _) (.cons (.v _) (.cons (.v _) (.cons (.n) .nil))))) (.cons (.c (.v _)) .nil)) (Z3o q5) rfl rfl nofun rfl fun σ H => (.move (v := (.tup [(vi x5.1), (vb x5.2)])) rfl rfl (.extract (v := (vi x5.1)) rfl rfl rfl (.extract (v := (vb x5.2)) rfl rfl rfl (.assign (v := (vi x5.1)) rfl rfl (.assign (v := (vb x5.2)) rfl rfl ?_)))))
        refine .nila H fun H => ?_
        replace h := sj h; subst h
        exact ⟨rfl, ⟨rfl, rfl, rfl, rfl, rfl, rfl, trivial⟩, H⟩
       ·skip
        replace h := jret h
        replace h := sj h; subst h
        exact ⟨nofun, (.inr ⟨_, rfl, rfl, hE⟩)⟩
     ·replace h := Z9 hc4 h
      refine .exit ?_
      replace h := sj h; subst h
      exact ⟨nofun, (.inl ⟨_, rfl, rfl, trivial, (((H.erase 2).erase 1).erase 0)⟩)⟩
   ·rintro x e σ (⟨a6, rfl, rfl, he, H⟩ | ⟨r', rfl, rfl, hE⟩)
    ·skip
     replace h := jgo h
     obtain ⟨e, rfl⟩ := he.ex
     refine .then (.Z0 2 rfl H fun b21 σ H => (.assign (v := (vi 0)) rfl rfl (.assign (v := (vb false)) rfl rfl (.nila H fun H => (.ret ?_)))))
     replace h := sj h; subst h
     exact (Ends.H (xs := [(vi 0), (vb false)]) (.inr rfl) H (.tmp (v := (vi 0)) rfl (.tmp (v := (vb false)) rfl .nil)) (.two (.cons (.c (.v _)) (.cons (.c (.v _)) .nil))))
    ·skip
     replace h := jret h
     replace h := sj h; subst h
     exact hE

theorem find_up_2_fn {h' : Span} {t : Int} {r : Bool} (h : Z1m h' t = r) : Fn CX 65 [(.agg (vs (Span.cs h'))), (vi t)] (vb r) := by
 refine Fn.ends Try.func65 rfl rfl rfl rfl rfl rfl ?_
 have H : Hs (⟨0, fun _ => .none⟩ : Heap) [] := Has.nil (Nat.le_refl _)
 generalize (⟨0, fun _ => .none⟩ : Heap) = σ at H ⊢
 unfold Z1m at h
 refine .then (.Z0 2 rfl H fun b1 σ H => (.boxH (cs := [(vi h'.From), (vi h'.To)]) H (by omega) (by omega) rfl rfl rfl fun σ H => (.assign (v := (vb false)) rfl rfl (.nila H fun H => (.then ?_)))))
 refine .Z0 5 rfl H fun b2 σ H => (.Z2 (off := 0) (fo := 1) H 0 rfl rfl rfl rfl rfl nofun rfl (.ZS (off := 1) (v := (vi h'.To)) H 0 rfl rfl rfl rfl rfl nofun rfl (.move (v := (vi t)) rfl rfl (.int (m := h'.To) (m' := t) (r := .bool (decide (h'.To ≥ t))) rfl rfl rfl rfl rfl (.assign (v := (vb (decide (h'.To ≥ t)))) rfl rfl ?_)))))
 refine .nila H fun H => (.ret ?_)
 subst h
 exact (Ends.H (xs := [(vb (decide (h'.To ≥ t)))]) (.inr rfl) H (.tmp (v := (vb (decide (h'.To ≥ t)))) rfl .nil) (.one (.c (.v _))))

end Go.Dn

namespace Go.Dn
open Go Go.Proofs
set_option maxRecDepth 100000
set_option maxHeartbeats 4000000

theorem Z1e {f : Form} {t : Int} {r : Int × Bool} (h : Z6 f t = some r) : Fn CX 52 [(.agg (vs (Form.cs f))), (vi t), (.agg [(vi 1), (.v (.fn 31)), (.v (.fn 64)), (.v (.fn 65))])] (.tup [(vi r.1), (vb r.2)]) := by
 refine Fn.ends Try.func52 rfl rfl rfl rfl rfl rfl ?_
 have H : Hs (⟨0, fun _ => .none⟩ : Heap) [] := Has.nil (Nat.le_refl _)
 generalize (⟨0, fun _ => .none⟩ : Heap) = σ at H ⊢
 unfold Z6 at h
 refine .then (.Z0 4 rfl H fun b1 σ H => (.boxH (cs := (vF f)) H (by omega) (by omega) rfl rfl rfl fun σ H => (.boxH (cs := [(vi 1), (.v (.fn 31)), (.v (.fn 64)), (.v (.fn 65))]) H (by omega) (by omega) rfl rfl rfl fun σ H => (.assign (v := (vi 0)) rfl rfl (.assign (v := (vb false)) rfl rfl ?_)))))
 refine .nila H fun H => (.then (.Z0 4 rfl H fun b2 σ H => (.move (v := (vi t)) rfl rfl (.min2 rfl rfl rfl (.max2 rfl rfl rfl ?_)))))
 refine .assign (v := (vi (iMax (iMin t 1099511627777) (-1099511627777)))) rfl rfl (.nila H fun H => (.then (.Z0 9 rfl H fun b3 σ H => (.ZY (off := 0) (cs := (vF f)) H 1 rfl rfl rfl rfl rfl rfl rfl nofun rfl (.move (v := (vi (iMax (iMin t 1099511627777) (-1099511627777)))) rfl rfl ?_)))))
 refine .ZY (off := 0) (cs := [(vi 1), (.v (.fn 31)), (.v (.fn 64)), (.v (.fn 65))]) H 0 rfl rfl rfl rfl rfl rfl rfl nofun rfl ?_
 obtain ⟨x1, q1, h⟩ := bind_some h
 refine .call (ys := [(.agg (vF f)), (vi (iMax (iMin t 1099511627777) (-1099511627777))), (.agg [(vi 1), (.v (.fn 31)), (.v (.fn 64)), (.v (.fn 65))])]) (r := (.tup [(vi x1.1), (vb x1.2)])) rfl (Z1s q1) rfl (.move (v := (.tup [(vi x1.1), (vb x1.2)])) rfl rfl (.extract (v := (vi x1.1)) rfl rfl rfl (.extract (v := (vb x1.2)) rfl rfl rfl (.assign (v := (vi x1.1)) rfl rfl (.assign (v := (vb x1.2)) rfl rfl ?_)))))
 refine .nila H fun H => (.then (.then (.Z0 4 rfl H fun b4 σ H => (.Z2 (off := 0) (fo := 3) H 1 rfl rfl rfl rfl rfl nofun rfl (.ZS (off := 3) (v := (vl Granule.cs f.Odd)) H 1 rfl rfl rfl rfl rfl nofun rfl ?_)))))
 refine .Z0O (c := Granule.cs) (xs := f.Odd) rfl rfl rfl (.move (v := (vi 0)) rfl rfl (.nila H fun H => (.inBlock ?_)))
 obtain ⟨y1, hj1, h⟩ := bind_some h
 obtain ⟨n1, hj1⟩ := Zf.1 hj1
 refine .mono (Runs.ZM hj1 (fun s1 e σ => Z5 e [(1, (vi (iMax (iMin t 1099511627777) (-1099511627777)))), (5, (.ptr (b1 + 1) 4 0)), (8, (vi s1.1)), (9, (vb s1.2.1)), (25, (vl Granule.cs f.Odd)), (26, (vi (f.Odd.length : Int))), (27, (vi s1.2.2))] ∧ Hs σ [.blk (b1 + 1) 87 [(vi 1), (.v (.fn 31)), (.v (.fn 64)), (.v (.fn 65))]]) (fun y1 x e σ => x = .exit 0 ∧ Z5 e [(8, (vi y1.1)), (9, (vb y1.2))] ∧ Hs σ []) ⟨⟨rfl, rfl, rfl, rfl, rfl, rfl, rfl, trivial⟩, (H.erase 1)⟩ ?_) ?_
 ·intro s1 e σ hI z h
  obtain ⟨he, H⟩ := hI
  obtain ⟨e, rfl⟩ := he.ex
  unfold Z6.s0 at h
  refine .then (.Z0 1 rfl H fun b5 σ H => (.int (m := s1.2.2) (m' := (f.Odd.length : Int)) (r := .bool (decide (s1.2.2 < (f.Odd.length : Int)))) rfl rfl rfl rfl rfl (.nila H fun H => (.then ?_))))
  refine .whether (v := (decide (s1.2.2 < (f.Odd.length : Int)))) rfl ?_ ?_ <;> intro hc1
  ·replace h := Z8 hc1 h
   refine .skip (.then ?_)
   obtain ⟨y2, hj2, h⟩ := bind_some h
   refine .mono (Q := fun x e σ => x = .normal ∧ Z5 e [(1, (vi (iMax (iMin t 1099511627777) (-1099511627777)))), (5, (.ptr (b1 + 1) 4 0)), (8, (vi y2.1)), (9, (vb y2.2)), (25, (vl Granule.cs f.Odd)), (26, (vi (f.Odd.length : Int))), (27, (vi s1.2.2))] ∧ Hs σ [.blk (b1 + 1) 87 [(vi 1), (.v (.fn 31)), (.v (.fn 64)), (.v (.fn 65))]]) ?_ ?_
   ·replace h := hj2
    refine .inBlock ?_
    obtain ⟨y3, hj3, h⟩ := bind_some h
    refine .mono (Q := fun x e σ => x = .normal ∧ Z5 e [(1, (vi (iMax (iMin t 1099511627777) (-1099511627777)))), (5, (.ptr (b1 + 1) 4 0)), (8, (vi y3.1)), (9, (vb y3.2)), (25, (vl Granule.cs f.Odd)), (26, (vi (f.Odd.length : Int))), (27, (vi s1.2.2))] ∧ Hs σ [.blk (b1 + 1) 87 [(vi 1), (.v (.fn 31)), (.v (.fn 64)), (.v (.fn 65))]]) ?_ ?_
    ·replace h := hj3
     refine .then (.Z0 4 rfl H fun b6 σ H => ?_)
     obtain ⟨x2, q2, h⟩ := bind_some h
     refine .Z0D (c := Granule.cs) (u := x2) rfl rfl q2 rfl rfl rfl rfl (.Z2Y (cs := [(.int .i64 x2.Index), (.sl (x2.Ticks.map Span.cs))]) rfl rfl rfl rfl rfl rfl (.Z1b (cs := [(vi 0), .nils]) H (by omega) (by omega) rfl rfl fun σ H => (.Z11 (off := 0) (cells' := [(vi x2.Index), (vl Span.cs x2.Ticks)]) H 0 rfl rfl rfl rfl rfl rfl rfl rfl rfl nofun fun σ H => (.nila H fun H => (.then ?_)))))
     refine .Z0 9 rfl H fun b7 σ H => (.Z2 (off := 0) (fo := 1) H 0 rfl rfl rfl rfl rfl nofun rfl (.ZS (off := 1) (v := (vl Span.cs x2.Ticks)) H 0 rfl rfl rfl rfl rfl nofun rfl ?_))
     obtain ⟨x3, q3, h⟩ := bind_some h
     refine .call (ys := [(vl Span.cs x2.Ticks)]) (r := (.tup [(.agg [(vi x3.1.From), (vi x3.1.To)]), (vb x3.2)])) rfl (Z5y q3) rfl (.move (v := (.tup [(.agg [(vi x3.1.From), (vi x3.1.To)]), (vb x3.2)])) rfl rfl (.extract (v := (.agg [(vi x3.1.From), (vi x3.1.To)])) rfl rfl rfl (.extract (v := (vb x3.2)) rfl rfl rfl (.Z1b (cs := [(vi 0), (vi 0)]) H (by omega) (by omega) rfl rfl fun σ H => (.Z11 (off := 0) (cells' := [(vi x3.1.From), (vi x3.1.To)]) H 0 rfl rfl rfl rfl rfl rfl rfl rfl rfl nofun fun σ H => ?_)))))
     refine .assign (v := (vb x3.2)) rfl rfl (.nila H fun H => (.then (.Z0 22 rfl H fun b8 σ H => (.move (v := (vb x3.2)) rfl rfl (.move (v := (vb x3.2)) rfl rfl ?_)))))
     refine .mid 6 (K1 := fun e σ => Z5 e [(44, (vb (x3.2 && (Z1m x3.1 (iMax (iMin t 1099511627777) (-1099511627777)))))), (1, (vi (iMax (iMin t 1099511627777) (-1099511627777)))), (5, (.ptr (b1 + 1) 4 0)), (8, (vi s1.1)), (9, (vb s1.2.1)), (11, (.ptr (b6 + 2) 2 0)), (25, (vl Granule.cs f.Odd)), (26, (vi (f.Odd.length : Int))), (27, (vi s1.2.2))] ∧ Has σ (b8 + 8) (b8 + 22) [.blk (b6 + 2) 54 [(vi x2.Index), (vl Span.cs x2.Ticks)], .blk (b1 + 1) 87 [(vi 1), (.v (.fn 31)), (.v (.fn 64)), (.v (.fn 65))]]) rfl ?_ ?_
     ·refine .split rfl rfl ?_ ?_ <;> intro hc2
      ·skip
       refine .wanted rfl rfl (.Z2 (off := 0) (fo := 3) H 2 rfl rfl rfl rfl rfl nofun rfl (.wanted rfl rfl (.ZS (off := 3) (v := (.v (.fn 65))) H 2 rfl rfl rfl rfl rfl nofun rfl (.wanted rfl rfl (.ZY (off := 0) (cs := [(vi x3.1.From), (vi x3.1.To)]) H 0 rfl rfl rfl rfl rfl rfl rfl nofun rfl ?_)))))
       refine .wanted rfl rfl (.move (v := (vi (iMax (iMin t 1099511627777) (-1099511627777)))) rfl rfl (.wanted rfl rfl (.callF (ys := [(.agg [(vi x3.1.From), (vi x3.1.To)]), (vi (iMax (iMin t 1099511627777) (-1099511627777)))]) (r := (vb (Z1m x3.1 (iMax (iMin t 1099511627777) (-1099511627777))))) rfl rfl (find_up_2_fn (rfl : Z1m x3.1 (iMax (iMin t 1099511627777) (-1099511627777)) = _)) rfl (.ZZ (v := (vb (Z1m x3.1 (iMax (iMin t 1099511627777) (-1099511627777))))) rfl rfl rfl (.nil ?_)))))
       exact ⟨⟨Z0p hc2, rfl, rfl, rfl, rfl, rfl, rfl, rfl, rfl, trivial⟩, (H.erase 0).weak (by omega) (Nat.le_refl _)⟩
      ·skip
       refine .pass rfl rfl rfl (.pass rfl rfl rfl (.pass rfl rfl rfl (.pass rfl rfl rfl (.pass rfl rfl rfl (.Zb (v := (vb false)) rfl rfl rfl ?_)))))
       refine .nil ?_
       exact ⟨⟨Z0o hc2, rfl, rfl, rfl, rfl, rfl, rfl, rfl, rfl, trivial⟩, (H.erase 0).weak (by omega) (Nat.le_refl _)⟩
     ·rintro e σ ⟨he, H⟩
      obtain ⟨e, rfl⟩ := he.ex
      refine .move (v := (vb (x3.2 && (Z1m x3.1 (iMax (iMin t 1099511627777) (-1099511627777)))))) rfl rfl ?_
      refine .mid 13 (K1 := fun e σ => Z5 e [(58, (vb ((x3.2 && (Z1m x3.1 (iMax (iMin t 1099511627777) (-1099511627777)))) && ((!s1.2.1) || (decide ((w64 ((w64 (x2.Index - s1.1)) * 1)) < 0)))))), (1, (vi (iMax (iMin t 1099511627777) (-1099511627777)))), (5, (.ptr (b1 + 1) 4 0)), (8, (vi s1.1)), (9, (vb s1.2.1)), (11, (.ptr (b6 + 2) 2 0)), (25, (vl Granule.cs f.Odd)), (26, (vi (f.Odd.length : Int))), (27, (vi s1.2.2))] ∧ Has σ (b8 + 22) (b8 + 22) [.blk (b6 + 2) 54 [(vi x2.Index), (vl Span.cs x2.Ticks)], .blk (b1 + 1) 87 [(vi 1), (.v (.fn 31)), (.v (.fn 64)), (.v (.fn 65))]]) rfl ?_ ?_
      ·refine .split rfl rfl ?_ ?_ <;> intro hc3
       ·skip
        refine .wanted rfl rfl (.move (v := (vb s1.2.1)) rfl rfl (.wanted rfl rfl (.not (b := s1.2.1) rfl rfl (.wanted rfl rfl (.move (v := (vb (!s1.2.1))) rfl rfl ?_)))))
        refine .mid 9 (K1 := fun e σ => Z5 e [(57, (vb ((!s1.2.1) || (decide ((w64 ((w64 (x2.Index - s1.1)) * 1)) < 0))))), (1, (vi (iMax (iMin t 1099511627777) (-1099511627777)))), (5, (.ptr (b1 + 1) 4 0)), (8, (vi s1.1)), (9, (vb s1.2.1)), (11, (.ptr (b6 + 2) 2 0)), (25, (vl Granule.cs f.Odd)), (26, (vi (f.Odd.length : Int))), (27, (vi s1.2.2)), (45, (vb true))] ∧ Has σ (b8 + 21) (b8 + 22) [.blk (b6 + 2) 54 [(vi x2.Index), (vl Span.cs x2.Ticks)], .blk (b1 + 1) 87 [(vi 1), (.v (.fn 31)), (.v (.fn 64)), (.v (.fn 65))]]) rfl ?_ ?_
        ·refine .split rfl rfl ?_ ?_ <;> intro hc4
         ·skip
          refine .pass rfl rfl rfl (.pass rfl rfl rfl (.pass rfl rfl rfl (.pass rfl rfl rfl (.pass rfl rfl rfl (.pass rfl rfl rfl ?_)))))
          refine .pass rfl rfl rfl (.pass rfl rfl rfl (.wanted rfl rfl (.ZZ (v := (vb true)) rfl rfl rfl (.nil ?_))))
          exact ⟨⟨or_T hc4, rfl, rfl, rfl, rfl, rfl, rfl, rfl, rfl, rfl, trivial⟩, H.weak (by omega) (Nat.le_refl _)⟩
         ·skip
          refine .wanted rfl rfl (.Z2 (off := 0) (fo := 0) H 0 rfl rfl rfl rfl rfl nofun rfl (.wanted rfl rfl (.ZS (off := 0) (v := (vi x2.Index)) H 0 rfl rfl rfl rfl rfl nofun rfl (.wanted rfl rfl (.move (v := (vi s1.1)) rfl rfl ?_)))))
          refine .wanted rfl rfl (.int (m := x2.Index) (m' := s1.1) (r := .int .i64 (w64 (x2.Index - s1.1))) rfl rfl rfl rfl rfl (.wanted rfl rfl (.Z2 (off := 0) (fo := 0) H 1 rfl rfl rfl rfl rfl nofun rfl (.wanted rfl rfl (.ZS (off := 0) (v := (vi 1)) H 1 rfl rfl rfl rfl rfl nofun rfl ?_)))))
          refine .wanted rfl rfl (.int (m := (w64 (x2.Index - s1.1))) (m' := 1) (r := .int .i64 (w64 ((w64 (x2.Index - s1.1)) * 1))) rfl rfl rfl rfl rfl (.wanted rfl rfl (.int (m := (w64 ((w64 (x2.Index - s1.1)) * 1))) (m' := 0) (r := .bool (decide ((w64 ((w64 (x2.Index - s1.1)) * 1)) < 0))) rfl rfl rfl rfl rfl (.wanted rfl rfl (.Zb (v := (vb (decide ((w64 ((w64 (x2.Index - s1.1)) * 1)) < 0)))) rfl rfl rfl ?_)))))
          refine .nil ?_
          exact ⟨⟨or_F hc4, rfl, rfl, rfl, rfl, rfl, rfl, rfl, rfl, rfl, trivial⟩, H.weak (by omega) (Nat.le_refl _)⟩
        ·rintro e σ ⟨he, H⟩
         obtain ⟨e, rfl⟩ := he.ex
         refine .ZZ (v := (vb ((!s1.2.1) || (decide ((w64 ((w64 (x2.Index - s1.1)) * 1)) < 0))))) rfl rfl rfl (.nil ?_)
         exact ⟨⟨Z0p hc3, rfl, rfl, rfl, rfl, rfl, rfl, rfl, rfl, trivial⟩, H.weak (by omega) (Nat.le_refl _)⟩
       ·skip
        refine .pass rfl rfl rfl (.pass rfl rfl rfl (.pass rfl rfl rfl (.Z00 rfl rfl rfl (.Z00 rfl rfl rfl (.Z00 rfl rfl rfl ?_)))))
        refine .Z00 rfl rfl rfl (.Z00 rfl rfl rfl (.Z00 rfl rfl rfl (.Z00 rfl rfl rfl (.Z00 rfl rfl rfl (.pass rfl rfl rfl ?_)))))
        refine .Zb (v := (vb false)) rfl rfl rfl (.nil ?_)
        exact ⟨⟨Z0o hc3, rfl, rfl, rfl, rfl, rfl, rfl, rfl, rfl, trivial⟩, H.weak (by omega) (Nat.le_refl _)⟩
      ·rintro e σ ⟨he, H⟩
       obtain ⟨e, rfl⟩ := he.ex
       refine .nila H fun H => ?_
       refine .whether (v := ((x3.2 && (Z1m x3.1 (iMax (iMin t 1099511627777) (-1099511627777)))) && ((!s1.2.1) || (decide ((w64 ((w64 (x2.Index - s1.1)) * 1)) < 0))))) rfl ?_ ?_ <;> intro hc5
       ·replace h := Z8 hc5 h
        refine .Z0 4 rfl H fun b9 σ H => (.Z2 (off := 0) (fo := 0) H 0 rfl rfl rfl rfl rfl nofun rfl (.ZS (off := 0) (v := (vi x2.Index)) H 0 rfl rfl rfl rfl rfl nofun rfl (.assign (v := (vi x2.Index)) rfl rfl (.assign (v := (vb true)) rfl rfl (.nila H fun H => ?_)))))
        replace h := sj h; subst h
        exact ⟨rfl, ⟨rfl, rfl, rfl, rfl, rfl, rfl, rfl, trivial⟩, (H.erase 0)⟩
       ·replace h := Z9 hc5 h
        refine .skip ?_
        replace h := sj h; subst h
        exact ⟨rfl, ⟨rfl, rfl, rfl, rfl, rfl, rfl, rfl, trivial⟩, (H.erase 0)⟩
    ·rintro x e σ ⟨rfl, he, H⟩
     obtain ⟨e, rfl⟩ := he.ex
     replace h := sj h; subst h
     exact ⟨rfl, ⟨rfl, rfl, rfl, rfl, rfl, rfl, rfl, trivial⟩, H⟩
   ·rintro x e σ ⟨rfl, he, H⟩
    obtain ⟨e, rfl⟩ := he.ex
    refine .Z0 2 rfl H fun b10 σ H => (.int (m := s1.2.2) (m' := 1) (r := .int .i64 (w64 (s1.2.2 + 1))) rfl rfl rfl rfl rfl (.move (v := (vi (w64 (s1.2.2 + 1)))) rfl rfl (.nila H fun H => ?_)))
    replace h := sj h; subst h
    exact ⟨rfl, ⟨rfl, rfl, rfl, rfl, rfl, rfl, rfl, trivial⟩, H⟩
  ·replace h := Z9 hc1 h
   refine .exit ?_
   replace h := sj h; subst h
   exact ⟨nofun, ⟨rfl, ⟨rfl, rfl, trivial⟩, (H.erase 0)⟩⟩
 ·rintro x e σ ⟨rfl, he, H⟩
  obtain ⟨e, rfl⟩ := he.ex
  refine .then (.Z0 4 rfl H fun b11 σ H => (.move (v := (vi y1.1)) rfl rfl (.move (v := (vb y1.2)) rfl rfl (.assign (v := (vi y1.1)) rfl rfl (.assign (v := (vb y1.2)) rfl rfl ?_)))))
  refine .nila H fun H => (.ret ?_)
  replace h := sj h; subst h
  exact (Ends.H (xs := [(vi y1.1), (vb y1.2)]) (.inr rfl) H (.tmp (v := (vi y1.1)) rfl (.tmp (v := (vb y1.2)) rfl .nil)) (.two (.cons (.c (.v _)) (.cons (.c (.v _)) .nil))))

theorem find_From_fn {f : Form} {t : Int} {r : Int × Bool} (h : Z3m f t = some r) : Fn CX 39 [(.agg (vs (Form.cs f))), (vi t)] (.tup [(vi r.1), (vb r.2)]) := by
 refine Fn.ends Try.func39 rfl rfl rfl rfl rfl rfl ?_
 have H : Hs (⟨0, fun _ => .none⟩ : Heap) [] := Has.nil (Nat.le_refl _)
 generalize (⟨0, fun _ => .none⟩ : Heap) = σ at H ⊢
 unfold Z3m at h
 refine .then (.Z0 3 rfl H fun b1 σ H => (.boxH (cs := (vF f)) H (by omega) (by omega) rfl rfl rfl fun σ H => (.assign (v := (vi 0)) rfl rfl (.assign (v := (vb false)) rfl rfl (.nila H fun H => ?_)))))
 refine .then (.Z4P 8 rfl (by kernel_rfl) H fun b2 σ H B2 => (.ZY (off := 0) (cs := (vF f)) H 0 rfl rfl rfl rfl rfl rfl rfl (fun _ => .inl ⟨B2 0 _ rfl _ rfl, nofun, (fun _ => by kernel_rfl)⟩) rfl (.move (v := (vi t)) rfl rfl (.call (ys := []) (r := (.agg [(vi 1), (.v (.fn 31)), (.v (.fn 64)), (.v (.fn 65))])) rfl (find_up_fn rfl) rfl ?_))))
 obtain ⟨x1, q1, h⟩ := bind_some h
 refine .call (ys := [(.agg (vF f)), (vi t), (.agg [(vi 1), (.v (.fn 31)), (.v (.fn 64)), (.v (.fn 65))])]) (r := (.tup [(vi x1.1), (vb x1.2)])) rfl (Z1e q1) rfl (.extract (v := (vi x1.1)) rfl rfl rfl (.extract (v := (vb x1.2)) rfl rfl rfl (.assign (v := (vi x1.1)) rfl rfl (.assign (v := (vb x1.2)) rfl rfl (.nila H fun H => ?_)))))
 refine .ret ?_
 replace h := sj h; subst h
 exact (Ends.H (xs := [(vi x1.1), (vb x1.2)]) (.inr rfl) H (.tmp (v := (vi x1.1)) rfl (.tmp (v := (vb x1.2)) rfl .nil)) (.two (.cons (.c (.v _)) (.cons (.c (.v _)) .nil))))

theorem Z1j {x' : (List Span)} {target : Int} {cmp : Span → Int → Option Int} {C : List Res} {cv0 : PV} (hs0 : cv0.still = true) (hp0 : cv0.pure = true → C = []) (hf0 : ∀ z0 z1 y, cmp z0 z1 = some y → CloH CX cv0 [(.agg (vs (Span.cs z0))), (vi z1)] (vi y) C) {r : Int × Bool} (h : Z7 x' target cmp = some r) : FnH CX 54 [(vl Span.cs x'), (vi target), cv0] (.tup [(vi r.1), (vb r.2)]) C := by
 refine FnH.of Try.func54 rfl rfl rfl rfl (Z2H rfl (Z2H rfl (Z2H hs0 all_nil))) rfl (fun h => hp0 (Z2q h 2 rfl)) ?_
 intro σ L hC H
 unfold Z7 at h
 refine .then (.Z0 2 rfl H fun b1 σ H => (.assign (v := (vi 0)) rfl rfl (.assign (v := (vb false)) rfl rfl (.nila H fun H => (.then ?_)))))
 refine .Z0 3 rfl H fun b2 σ H => (.move (v := (vl Span.cs x')) rfl rfl (.Z0O (c := Span.cs) (xs := x') rfl rfl rfl (.assign (v := (vi (x'.length : Int))) rfl rfl (.nila H fun H => (.then ?_)))))
 refine .Z0 3 rfl H fun b3 σ H => (.move (v := (vi (x'.length : Int))) rfl rfl (.assign (v := (vi 0)) rfl rfl (.assign (v := (vi (x'.length : Int))) rfl rfl (.nila H fun H => (.then ?_)))))
 refine .inBlock ?_
 obtain ⟨y1, hj1, h⟩ := bind_some h
 obtain ⟨n1, hj1⟩ := Zf.1 hj1
 refine .mono (Runs.ZM hj1 (fun s1 e σ => Z5 e [(0, (vl Span.cs x')), (1, (vi target)), (2, cv0), (8, (vi (x'.length : Int))), (9, (vi s1.1)), (10, (vi s1.2))] ∧ Hs σ (L)) (fun y1 x e σ => x = .exit 0 ∧ Z5 e [(0, (vl Span.cs x')), (1, (vi target)), (2, cv0), (8, (vi (x'.length : Int))), (9, (vi y1))] ∧ Hs σ (L)) ⟨⟨rfl, rfl, rfl, rfl, rfl, rfl, trivial⟩, H⟩ ?_) ?_
 ·intro s1 e σ hI z h
  obtain ⟨he, H⟩ := hI
  obtain ⟨e, rfl⟩ := he.ex
  unfold Z7.s0 at h
  refine .then (.then (.Z0 3 rfl H fun b4 σ H => (.move (v := (vi s1.1)) rfl rfl (.move (v := (vi s1.2)) rfl rfl (.int (m := s1.1) (m' := s1.2) (r := .bool (decide (s1.1 < s1.2))) rfl rfl rfl rfl rfl ?_)))))
  refine .nila H fun H => ?_
  refine .whether (v := (decide (s1.1 < s1.2))) rfl ?_ ?_ <;> intro hc1
  ·replace h := Z8 hc1 h
   refine .skip (.inBlock ?_)
   obtain ⟨y2, hj2, h⟩ := bind_some h
   refine .mono (Q := fun x e σ => x = .normal ∧ Z5 e [(0, (vl Span.cs x')), (1, (vi target)), (2, cv0), (8, (vi (x'.length : Int))), (9, (vi y2.1)), (10, (vi y2.2))] ∧ Hs σ (L)) ?_ ?_
   ·replace h := hj2
    refine .then (.Z0 7 rfl H fun b5 σ H => (.move (v := (vi s1.1)) rfl rfl (.move (v := (vi s1.2)) rfl rfl (.int (m := s1.1) (m' := s1.2) (r := .int .i64 (w64 (s1.1 + s1.2))) rfl rfl rfl rfl rfl (.conv (m := (w64 (s1.1 + s1.2))) rfl rfl rfl rfl ?_)))))
    refine .shr (m := (IntKind.u64.wrap (w64 (s1.1 + s1.2)))) (m' := 1) rfl rfl (by decide) rfl (.conv (m := ((IntKind.u64.wrap (w64 (s1.1 + s1.2))).fdiv (2 ^ 1))) rfl rfl rfl rfl (.assign (v := (vi (w64 ((IntKind.u64.wrap (w64 (s1.1 + s1.2))).fdiv (2 ^ 1))))) rfl rfl (.nila H fun H => (.then (.Z0 8 rfl H fun b6 σ H => ?_)))))
    refine .move (v := cv0) rfl rfl (.move (v := (vl Span.cs x')) rfl rfl (.move (v := (vi (w64 ((IntKind.u64.wrap (w64 (s1.1 + s1.2))).fdiv (2 ^ 1))))) rfl rfl ?_))
    obtain ⟨x1, q1, h⟩ := bind_some h
    refine .Z0D (c := Span.cs) (u := x1) rfl rfl q1 rfl rfl rfl rfl (.Z2Y (cs := [(.int .i64 x1.From), (.int .i64 x1.To)]) rfl rfl rfl rfl rfl rfl (.move (v := (vi target)) rfl rfl ?_))
    obtain ⟨x2, q2, h⟩ := bind_some h
    refine .callV (cv := cv0) (ys := [(.agg (vs (Span.cs x1))), (vi target)]) (r := (vi x2)) H rfl rfl (hf0 x1 target _ q2) hC nofun rfl fun σ H => (.int (m := x2) (m' := 0) (r := .bool (decide (x2 < 0))) rfl rfl rfl rfl rfl (.nila H fun H => ?_))
    refine .whether (v := (decide (x2 < 0))) rfl ?_ ?_ <;> intro hc2
    ·replace h := Z8 hc2 h
     refine .Z0 3 rfl H fun b7 σ H => (.move (v := (vi (w64 ((IntKind.u64.wrap (w64 (s1.1 + s1.2))).fdiv (2 ^ 1))))) rfl rfl (.int (m := (w64 ((IntKind.u64.wrap (w64 (s1.1 + s1.2))).fdiv (2 ^ 1)))) (m' := 1) (r := .int .i64 (w64 ((w64 ((IntKind.u64.wrap (w64 (s1.1 + s1.2))).fdiv (2 ^ 1))) + 1))) rfl rfl rfl rfl rfl (.assign (v := (vi (w64 ((w64 ((IntKind.u64.wrap (w64 (s1.1 + s1.2))).fdiv (2 ^ 1))) + 1)))) rfl rfl (.nila H fun H => ?_))))
     replace h := sj h; subst h
     exact ⟨rfl, ⟨rfl, rfl, rfl, rfl, rfl, rfl, trivial⟩, H⟩
    ·replace h := Z9 hc2 h
     refine .Z0 2 rfl H fun b8 σ H => (.move (v := (vi (w64 ((IntKind.u64.wrap (w64 (s1.1 + s1.2))).fdiv (2 ^ 1))))) rfl rfl (.assign (v := (vi (w64 ((IntKind.u64.wrap (w64 (s1.1 + s1.2))).fdiv (2 ^ 1))))) rfl rfl (.nila H fun H => ?_)))
     replace h := sj h; subst h
     exact ⟨rfl, ⟨rfl, rfl, rfl, rfl, rfl, rfl, trivial⟩, H⟩
   ·rintro x e σ ⟨rfl, he, H⟩
    obtain ⟨e, rfl⟩ := he.ex
    replace h := sj h; subst h
    exact ⟨rfl, ⟨rfl, rfl, rfl, rfl, rfl, rfl, trivial⟩, H⟩
  ·replace h := Z9 hc1 h
   refine .exit ?_
   replace h := sj h; subst h
   exact ⟨nofun, ⟨rfl, ⟨rfl, rfl, rfl, rfl, rfl, trivial⟩, H⟩⟩
 ·rintro x e σ ⟨rfl, he, H⟩
  obtain ⟨e, rfl⟩ := he.ex
  refine .then (.Z0 16 rfl H fun b9 σ H => (.move (v := (vi y1)) rfl rfl (.move (v := (vi y1)) rfl rfl (.move (v := (vi (x'.length : Int))) rfl rfl (.int (m := y1) (m' := (x'.length : Int)) (r := .bool (decide (y1 < (x'.length : Int)))) rfl rfl rfl rfl rfl ?_)))))
  refine .move (v := (vb (decide (y1 < (x'.length : Int))))) rfl rfl ?_
  obtain ⟨y3, hj3, h⟩ := bind_some h
  refine .mid 9 (K1 := fun e σ => Z5 e [(48, (vb y3)), (35, (vi y1))] ∧ Has σ (b9 + 14) (b9 + 16) (L)) rfl ?_ ?_
  ·refine .split rfl rfl ?_ ?_ <;> intro hc3
   ·replace h := Z8 hc3 hj3
    refine .wanted rfl rfl (.move (v := cv0) rfl rfl (.wanted rfl rfl (.move (v := (vl Span.cs x')) rfl rfl (.wanted rfl rfl (.move (v := (vi y1)) rfl rfl ?_)))))
    refine .wanted rfl rfl ?_
    obtain ⟨x3, q3, h⟩ := bind_some h
    refine .Z0D (c := Span.cs) (u := x3) rfl rfl q3 rfl rfl rfl rfl (.wanted rfl rfl (.Z2Y (cs := [(.int .i64 x3.From), (.int .i64 x3.To)]) rfl rfl rfl rfl rfl rfl (.wanted rfl rfl (.move (v := (vi target)) rfl rfl (.wanted rfl rfl ?_)))))
    obtain ⟨x4, q4, h⟩ := bind_some h
    refine .callV (cv := cv0) (ys := [(.agg (vs (Span.cs x3))), (vi target)]) (r := (vi x4)) H rfl rfl (hf0 x3 target _ q4) hC nofun rfl fun σ H => (.wanted rfl rfl (.int (m := x4) (m' := 0) (r := .bool (x4 == 0)) rfl rfl rfl rfl rfl (.ZZ (v := (vb (x4 == 0))) rfl rfl rfl (.nil ?_))))
    replace h := sj h; subst h
    exact ⟨⟨rfl, rfl, trivial⟩, H.weak (by omega) (Nat.le_refl _)⟩
   ·replace h := Z9 hc3 hj3
    refine .pass rfl rfl rfl (.pass rfl rfl rfl (.pass rfl rfl rfl (.pass rfl rfl rfl (.pass rfl rfl rfl (.pass rfl rfl rfl ?_)))))
    refine .pass rfl rfl rfl (.pass rfl rfl rfl (.Zb (v := (vb false)) rfl rfl rfl (.nil ?_)))
    replace h := sj h; subst h
    exact ⟨⟨rfl, rfl, trivial⟩, H.weak (by omega) (Nat.le_refl _)⟩
  ·rintro e σ ⟨he, H⟩
   obtain ⟨e, rfl⟩ := he.ex
   refine .assign (v := (vi y1)) rfl rfl (.assign (v := (vb y3)) rfl rfl (.nila H fun H => (.ret ?_)))
   replace h := sj h; subst h
   exact (EndsH.H (xs := [(vi y1), (vb y3)]) (.inr rfl) H (.tmp (v := (vi y1)) rfl (.tmp (v := (vb y3)) rfl .nil)) (.two (.cons (.c (.v _)) (.cons (.c (.v _)) .nil))) 0 rfl)

theorem Z8d {s : Span} {t : Int} {r : Int} (h : Z24 s t = r) : Fn CX 55 [(.agg (vs (Span.cs s))), (vi t)] (vi r) := by
 refine Fn.ends Try.func55 rfl rfl rfl rfl rfl rfl ?_
 have H : Hs (⟨0, fun _ => .none⟩ : Heap) [] := Has.nil (Nat.le_refl _)
 generalize (⟨0, fun _ => .none⟩ : Heap) = σ at H ⊢
 unfold Z24 at h
 refine .then (.Z0 2 rfl H fun b1 σ H => (.boxH (cs := [(vi s.From), (vi s.To)]) H (by omega) (by omega) rfl rfl rfl fun σ H => (.assign (v := (vi 0)) rfl rfl (.nila H fun H => (.then ?_)))))
 refine .inBlock (.then (.Z0 5 rfl H fun b2 σ H => (.Z2 (off := 0) (fo := 1) H 0 rfl rfl rfl rfl rfl nofun rfl (.ZS (off := 1) (v := (vi s.To)) H 0 rfl rfl rfl rfl rfl nofun rfl (.move (v := (vi t)) rfl rfl ?_)))))
 refine .int (m := s.To) (m' := t) (r := .bool (decide (s.To < t))) rfl rfl rfl rfl rfl (.assign (v := (vb (decide (s.To < t)))) rfl rfl (.nila H fun H => ?_))
 refine .whether (v := (decide (s.To < t))) rfl ?_ ?_ <;> intro hc1
 ·replace h := Z8 hc1 h
  refine .then (.Z0 1 rfl H fun b3 σ H => (.assign (v := (vi (-1))) rfl rfl (.nila H fun H => (.ret ?_))))
  subst h
  exact (Ends.H (xs := [(vi (-1))]) (.inr rfl) H (.tmp (v := (vi (-1))) rfl .nil) (.one (.c (.v _))))
 ·replace h := Z9 hc1 h
  refine .then (.Z0 5 rfl H fun b4 σ H => (.Z2 (off := 0) (fo := 0) H 0 rfl rfl rfl rfl rfl nofun rfl (.ZS (off := 0) (v := (vi s.From)) H 0 rfl rfl rfl rfl rfl nofun rfl (.move (v := (vi t)) rfl rfl (.int (m := s.From) (m' := t) (r := .bool (decide (s.From > t))) rfl rfl rfl rfl rfl ?_)))))
  refine .assign (v := (vb (decide (s.From > t)))) rfl rfl (.nila H fun H => ?_)
  refine .whether (v := (decide (s.From > t))) rfl ?_ ?_ <;> intro hc2
  ·replace h := Z8 hc2 h
   refine .then (.Z0 1 rfl H fun b5 σ H => (.assign (v := (vi 1)) rfl rfl (.nila H fun H => (.ret ?_))))
   subst h
   exact (Ends.H (xs := [(vi 1)]) (.inr rfl) H (.tmp (v := (vi 1)) rfl .nil) (.one (.c (.v _))))
  ·replace h := Z9 hc2 h
   refine .skip (.then (.Z0 1 rfl H fun b6 σ H => (.assign (v := (vi 0)) rfl rfl (.nila H fun H => (.ret ?_)))))
   subst h
   exact (Ends.H (xs := [(vi 0)]) (.inr rfl) H (.tmp (v := (vi 0)) rfl .nil) (.one (.c (.v _))))

theorem spans_Has_fn {l : (List Span)} {t : Int} {r : Bool} (h : Z38 l t = some r) : Fn CX 40 [(vl Span.cs l), (vi t)] (vb r) := by
 refine Fn.ends Try.func40 rfl rfl rfl rfl rfl rfl ?_
 have H : Hs (⟨0, fun _ => .none⟩ : Heap) [] := Has.nil (Nat.le_refl _)
 generalize (⟨0, fun _ => .none⟩ : Heap) = σ at H ⊢
 unfold Z38 at h
 refine .then (.Z0 1 rfl H fun b1 σ H => (.assign (v := (vb false)) rfl rfl (.nila H fun H => (.then (.Z0 8 rfl H fun b2 σ H => ?_)))))
 refine .move (v := (vl Span.cs l)) rfl rfl (.move (v := (vi t)) rfl rfl ?_)
 obtain ⟨x1, q1, h⟩ := bind_some h
 refine .Z66 (ys := [(vl Span.cs l), (vi t), (.v (.fn 55))]) (r := (.tup [(vi x1.1), (vb x1.2)])) H rfl (Z1j (C := []) rfl (fun _ => rfl) (fun z0 z1 y hz => (CloH.fn (Fn.toH (Z8d (Option.some.inj hz)) _))) q1) .nil nofun rfl fun σ H => (.move (v := (.tup [(vi x1.1), (vb x1.2)])) rfl rfl (.extract (v := (vi x1.1)) rfl rfl rfl (.extract (v := (vb x1.2)) rfl rfl rfl (.assign (v := (vi x1.1)) rfl rfl (.assign (v := (vb x1.2)) rfl rfl ?_)))))
 refine .nila H fun H => (.then (.Z0 8 rfl H fun b3 σ H => (.move (v := (vb x1.2)) rfl rfl (.move (v := (vb x1.2)) rfl rfl ?_))))
 refine .mid 5 (K1 := fun e σ => Z5 e [(19, (vb (x1.2 && (decide (x1.1 < (l.length : Int))))))] ∧ Has σ (b3 + 7) (b3 + 8) []) rfl ?_ ?_
 ·refine .split rfl rfl ?_ ?_ <;> intro hc1
  ·skip
   refine .wanted rfl rfl (.move (v := (vi x1.1)) rfl rfl (.wanted rfl rfl (.move (v := (vl Span.cs l)) rfl rfl (.wanted rfl rfl (.Z0O (c := Span.cs) (xs := l) rfl rfl rfl ?_)))))
   refine .wanted rfl rfl (.int (m := x1.1) (m' := (l.length : Int)) (r := .bool (decide (x1.1 < (l.length : Int)))) rfl rfl rfl rfl rfl (.ZZ (v := (vb (decide (x1.1 < (l.length : Int))))) rfl rfl rfl (.nil ?_)))
   exact ⟨⟨Z0p hc1, trivial⟩, H.weak (by omega) (Nat.le_refl _)⟩
  ·skip
   refine .pass rfl rfl rfl (.pass rfl rfl rfl (.pass rfl rfl rfl (.pass rfl rfl rfl (.Zb (v := (vb false)) rfl rfl rfl (.nil ?_)))))
   exact ⟨⟨Z0o hc1, trivial⟩, H.weak (by omega) (Nat.le_refl _)⟩
 ·rintro e σ ⟨he, H⟩
  obtain ⟨e, rfl⟩ := he.ex
  refine .assign (v := (vb (x1.2 && (decide (x1.1 < (l.length : Int)))))) rfl rfl (.nila H fun H => (.ret ?_))
  replace h := sj h; subst h
  exact (Ends.H (xs := [(vb (x1.2 && (decide (x1.1 < (l.length : Int)))))]) (.inr rfl) H (.tmp (v := (vb (x1.2 && (decide (x1.1 < (l.length : Int)))))) rfl .nil) (.one (.c (.v _))))

theorem Z8N {f : Form} {t : Int} {r : Int × Bool} (h : Z3L f t = some r) : Fn CX 22 [(.agg (vs (Form.cs f))), (vi t)] (.tup [(vi r.1), (vb r.2)]) := by
 refine Fn.ends Try.func22 rfl rfl rfl rfl rfl rfl ?_
 have H : Hs (⟨0, fun _ => .none⟩ : Heap) [] := Has.nil (Nat.le_refl _)
 generalize (⟨0, fun _ => .none⟩ : Heap) = σ at H ⊢
 unfold Z3L at h
 refine .then (.Z0 3 rfl H fun b1 σ H => (.boxH (cs := (vF f)) H (by omega) (by omega) rfl rfl rfl fun σ H => (.assign (v := (vi 0)) rfl rfl (.assign (v := (vb false)) rfl rfl (.nila H fun H => ?_)))))
 refine .then (.Z0 8 rfl H fun b2 σ H => (.ZY (off := 0) (cs := (vF f)) H 0 rfl rfl rfl rfl rfl rfl rfl nofun rfl (.move (v := (vi t)) rfl rfl ?_)))
 obtain ⟨x1, q1, h⟩ := bind_some h
 refine .call (ys := [(.agg (vF f)), (vi t)]) (r := (.tup [(vi x1.1), (vb x1.2)])) rfl (find_From_fn q1) rfl (.move (v := (.tup [(vi x1.1), (vb x1.2)])) rfl rfl (.extract (v := (vi x1.1)) rfl rfl rfl (.extract (v := (vb x1.2)) rfl rfl rfl (.assign (v := (vi x1.1)) rfl rfl (.assign (v := (vb x1.2)) rfl rfl ?_)))))
 refine .nila H fun H => (.then (.then (.Z0 2 rfl H fun b3 σ H => (.move (v := (vb x1.2)) rfl rfl (.not (b := x1.2) rfl rfl ?_)))))
 refine .nila H fun H => ?_
 refine .whether (v := (!x1.2)) rfl ?_ ?_ <;> intro hc1
 ·replace h := Z8 hc1 h
  refine .then (.Z0 2 rfl H fun b4 σ H => (.assign (v := (vi 0)) rfl rfl (.assign (v := (vb false)) rfl rfl (.nila H fun H => (.ret ?_)))))
  replace h := sj h; subst h
  exact (Ends.H (xs := [(vi 0), (vb false)]) (.inr rfl) H (.tmp (v := (vi 0)) rfl (.tmp (v := (vb false)) rfl .nil)) (.two (.cons (.c (.v _)) (.cons (.c (.v _)) .nil))))
 ·replace h := Z9 hc1 h
  refine .skip (.then (.Z0 8 rfl H fun b5 σ H => (.ZY (off := 0) (cs := (vF f)) H 0 rfl rfl rfl rfl rfl rfl rfl nofun rfl (.move (v := (vi x1.1)) rfl rfl ?_))))
  obtain ⟨x2, q2, h⟩ := bind_some h
  refine .call (ys := [(.agg (vF f)), (vi x1.1)]) (r := (.tup [(vl Span.cs x2.1), (vi x2.2)])) rfl (Z3S q2) rfl (.move (v := (.tup [(vl Span.cs x2.1), (vi x2.2)])) rfl rfl (.extract (v := (vl Span.cs x2.1)) rfl rfl rfl (.extract (v := (vi x2.2)) rfl rfl rfl (.assign (v := (vl Span.cs x2.1)) rfl rfl (.assign (v := (vi x2.2)) rfl rfl ?_)))))
  refine .nila H fun H => (.then (.then (.Z0 4 rfl H fun b6 σ H => (.move (v := (vl Span.cs x2.1)) rfl rfl (.move (v := (vi t)) rfl rfl ?_)))))
  obtain ⟨x3, q3, h⟩ := bind_some h
  refine .call (ys := [(vl Span.cs x2.1), (vi t)]) (r := (vb x3)) rfl (spans_Has_fn q3) rfl (.not (b := x3) rfl rfl (.nila H fun H => ?_))
  refine .whether (v := (!x3)) rfl ?_ ?_ <;> intro hc2
  ·replace h := Z8 hc2 h
   refine .then (.Z0 2 rfl H fun b7 σ H => (.assign (v := (vi 0)) rfl rfl (.assign (v := (vb false)) rfl rfl (.nila H fun H => (.ret ?_)))))
   replace h := sj h; subst h
   exact (Ends.H (xs := [(vi 0), (vb false)]) (.inr rfl) H (.tmp (v := (vi 0)) rfl (.tmp (v := (vb false)) rfl .nil)) (.two (.cons (.c (.v _)) (.cons (.c (.v _)) .nil))))
  ·replace h := Z9 hc2 h
   refine .skip (.then (.Z0 3 rfl H fun b8 σ H => (.move (v := (vi x1.1)) rfl rfl (.assign (v := (vi x1.1)) rfl rfl (.assign (v := (vb true)) rfl rfl ?_)))))
   refine .nila H fun H => (.ret ?_)
   replace h := sj h; subst h
   exact (Ends.H (xs := [(vi x1.1), (vb true)]) (.inr rfl) H (.tmp (v := (vi x1.1)) rfl (.tmp (v := (vb true)) rfl .nil)) (.two (.cons (.c (.v _)) (.cons (.c (.v _)) .nil))))

theorem Z0V {f : Form} {a : Int} {b : Int} {r : Int × Bool} (h : Z04 f a b = some r) : Fn CX 9 [(.agg (vs (Form.cs f))), (vi a), (vi b)] (.tup [(vi r.1), (vb r.2)]) := by
 refine Fn.ends Try.func9 rfl rfl rfl rfl rfl rfl ?_
 have H : Hs (⟨0, fun _ => .none⟩ : Heap) [] := Has.nil (Nat.le_refl _)
 generalize (⟨0, fun _ => .none⟩ : Heap) = σ at H ⊢
 unfold Z04 at h
 refine .then (.Z0 3 rfl H fun b1 σ H => (.boxH (cs := (vF f)) H (by omega) (by omega) rfl rfl rfl fun σ H => (.assign (v := (vi 0)) rfl rfl (.assign (v := (vb false)) rfl rfl (.nila H fun H => ?_)))))
 refine .then (.Z0 8 rfl H fun b2 σ H => (.ZY (off := 0) (cs := (vF f)) H 0 rfl rfl rfl rfl rfl rfl rfl nofun rfl (.move (v := (vi a)) rfl rfl ?_)))
 obtain ⟨x1, q1, h⟩ := bind_some h
 refine .call (ys := [(.agg (vF f)), (vi a)]) (r := (.tup [(vi x1.1), (vb x1.2)])) rfl (Z8N q1) rfl (.move (v := (.tup [(vi x1.1), (vb x1.2)])) rfl rfl (.extract (v := (vi x1.1)) rfl rfl rfl (.extract (v := (vb x1.2)) rfl rfl rfl (.assign (v := (vi x1.1)) rfl rfl (.assign (v := (vb x1.2)) rfl rfl ?_)))))
 refine .nila H fun H => (.then (.then (.Z0 2 rfl H fun b3 σ H => (.move (v := (vb x1.2)) rfl rfl (.not (b := x1.2) rfl rfl ?_)))))
 refine .nila H fun H => ?_
 refine .whether (v := (!x1.2)) rfl ?_ ?_ <;> intro hc1
 ·replace h := Z8 hc1 h
  refine .then (.Z0 2 rfl H fun b4 σ H => (.assign (v := (vi 0)) rfl rfl (.assign (v := (vb false)) rfl rfl (.nila H fun H => (.ret ?_)))))
  replace h := sj h; subst h
  exact (Ends.H (xs := [(vi 0), (vb false)]) (.inr rfl) H (.tmp (v := (vi 0)) rfl (.tmp (v := (vb false)) rfl .nil)) (.two (.cons (.c (.v _)) (.cons (.c (.v _)) .nil))))
 ·replace h := Z9 hc1 h
  refine .skip (.then (.Z0 8 rfl H fun b5 σ H => (.ZY (off := 0) (cs := (vF f)) H 0 rfl rfl rfl rfl rfl rfl rfl nofun rfl (.move (v := (vi b)) rfl rfl ?_))))
  obtain ⟨x2, q2, h⟩ := bind_some h
  refine .call (ys := [(.agg (vF f)), (vi b)]) (r := (.tup [(vi x2.1), (vb x2.2)])) rfl (Z8N q2) rfl (.move (v := (.tup [(vi x2.1), (vb x2.2)])) rfl rfl (.extract (v := (vi x2.1)) rfl rfl rfl (.extract (v := (vb x2.2)) rfl rfl rfl (.assign (v := (vi x2.1)) rfl rfl (.assign (v := (vb x2.2)) rfl rfl ?_)))))
  refine .nila H fun H => (.then (.then (.Z0 2 rfl H fun b6 σ H => (.move (v := (vb x2.2)) rfl rfl (.not (b := x2.2) rfl rfl ?_)))))
  refine .nila H fun H => ?_
  refine .whether (v := (!x2.2)) rfl ?_ ?_ <;> intro hc2
  ·replace h := Z8 hc2 h
   refine .then (.Z0 2 rfl H fun b7 σ H => (.assign (v := (vi 0)) rfl rfl (.assign (v := (vb false)) rfl rfl (.nila H fun H => (.ret ?_)))))
   replace h := sj h; subst h
   exact (Ends.H (xs := [(vi 0), (vb false)]) (.inr rfl) H (.tmp (v := (vi 0)) rfl (.tmp (v := (vb false)) rfl .nil)) (.two (.cons (.c (.v _)) (.cons (.c (.v _)) .nil))))
  ·replace h := Z9 hc2 h
   refine .skip (.then (.Z0 5 rfl H fun b8 σ H => (.move (v := (vi x2.1)) rfl rfl (.move (v := (vi x1.1)) rfl rfl (.int (m := x2.1) (m' := x1.1) (r := .int .i64 (w64 (x2.1 - x1.1))) rfl rfl rfl rfl rfl ?_)))))
   refine .assign (v := (vi (w64 (x2.1 - x1.1)))) rfl rfl (.assign (v := (vb true)) rfl rfl (.nila H fun H => (.ret ?_)))
   replace h := sj h; subst h
   exact (Ends.H (xs := [(vi (w64 (x2.1 - x1.1))), (vb true)]) (.inr rfl) H (.tmp (v := (vi (w64 (x2.1 - x1.1)))) rfl (.tmp (v := (vb true)) rfl .nil)) (.two (.cons (.c (.v _)) (.cons (.c (.v _)) .nil))))

theorem Z3Y {s : (List Int)} {f : Int → Option Bool} {C : List Res} {cv0 : PV} (hs0 : cv0.still = true) (hp0 : cv0.pure = true → C = []) (hf0 : ∀ z0 y, f z0 = some y → CloH CX cv0 [(vi z0)] (vb y) C) {r : Int} (h : ZW s f = some r) : FnH CX 56 [(vl (cI .i64) s), cv0] (vi r) C := by
 refine FnH.of Try.func56 rfl rfl rfl rfl (Z2H rfl (Z2H hs0 all_nil)) rfl (fun h => hp0 (Z2q h 1 rfl)) ?_
 intro σ L hC H
 unfold ZW at h
 refine .then (.Z0 1 rfl H fun b1 σ H => (.assign (v := (vi 0)) rfl rfl (.nila H fun H => (.then (.then ?_)))))
 refine .Z0 3 rfl H fun b2 σ H => (.move (v := (vl (cI .i64) s)) rfl rfl (.Z0O (c := (cI .i64)) (xs := s) rfl rfl rfl (.move (v := (vi 0)) rfl rfl (.nila H fun H => (.inBlock ?_)))))
 obtain ⟨y1, hj1, h⟩ := bind_some h
 obtain ⟨n1, hj1⟩ := Zf.1 hj1
 refine .mono (Runs.ZM hj1 (fun s1 e σ => Z5 e [(0, (vl (cI .i64) s)), (1, cv0), (7, (vi (s.length : Int))), (8, (vi s1))] ∧ Hs σ (L)) (fun y1 x e σ => (∃ a1, y1 = (.go a1) ∧ x = .exit 0 ∧ Z5 e [] ∧ Hs σ (L)) ∨ (∃ r', y1 = (.ret r') ∧ x = .ret ∧ EndsH CX Try.f56.results.toList (vi r') L x e σ)) ⟨⟨rfl, rfl, rfl, rfl, trivial⟩, H⟩ ?_) ?_
 ·intro s1 e σ hI z h
  obtain ⟨he, H⟩ := hI
  obtain ⟨e, rfl⟩ := he.ex
  unfold ZW.s0 at h
  refine .then (.Z0 1 rfl H fun b3 σ H => (.int (m := s1) (m' := (s.length : Int)) (r := .bool (decide (s1 < (s.length : Int)))) rfl rfl rfl rfl rfl (.nila H fun H => (.then ?_))))
  refine .whether (v := (decide (s1 < (s.length : Int)))) rfl ?_ ?_ <;> intro hc1
  ·replace h := Z8 hc1 h
   refine .skip (.then (.inBlock (.then (.Z0 2 rfl H fun b4 σ H => (.move (v := (vi s1)) rfl rfl ?_)))))
   refine .assign (v := (vi s1)) rfl rfl (.nila H fun H => (.then (.Z0 6 rfl H fun b5 σ H => (.move (v := cv0) rfl rfl (.move (v := (vl (cI .i64) s)) rfl rfl ?_)))))
   refine .move (v := (vi s1)) rfl rfl ?_
   obtain ⟨x1, q1, h⟩ := bind_some h
   refine .Z0D (c := (cI .i64)) (u := x1) rfl rfl q1 rfl rfl rfl rfl (.Z2F (u := (.int .i64 x1)) rfl rfl rfl rfl ?_)
   obtain ⟨x2, q2, h⟩ := bind_some h
   refine .callV (cv := cv0) (ys := [(vi x1)]) (r := (vb x2)) H rfl rfl (hf0 x1 _ q2) hC nofun rfl fun σ H => (.nila H fun H => ?_)
   refine .whether (v := x2) rfl ?_ ?_ <;> intro hc2
   ·replace h := Z8 hc2 h
    refine .then (.Z0 2 rfl H fun b6 σ H => (.move (v := (vi s1)) rfl rfl (.assign (v := (vi s1)) rfl rfl (.nila H fun H => (.ret ?_)))))
    replace h := sj h; subst h
    exact ⟨nofun, (.inr ⟨_, rfl, rfl, (EndsH.H (xs := [(vi s1)]) (.inr rfl) H (.tmp (v := (vi s1)) rfl .nil) (.one (.c (.v _))) 0 rfl)⟩)⟩
   ·replace h := Z9 hc2 h
    refine .skip (.Z0 2 rfl H fun b7 σ H => (.int (m := s1) (m' := 1) (r := .int .i64 (w64 (s1 + 1))) rfl rfl rfl rfl rfl (.move (v := (vi (w64 (s1 + 1)))) rfl rfl (.nila H fun H => ?_))))
    replace h := sj h; subst h
    exact ⟨rfl, ⟨rfl, rfl, rfl, rfl, trivial⟩, H⟩
  ·replace h := Z9 hc1 h
   refine .exit ?_
   replace h := sj h; subst h
   exact ⟨nofun, (.inl ⟨_, rfl, rfl, trivial, H⟩)⟩
 ·rintro x e σ (⟨a2, rfl, rfl, he, H⟩ | ⟨r', rfl, rfl, hE⟩)
  ·skip
   replace h := jgo h
   obtain ⟨e, rfl⟩ := he.ex
   refine .then (.Z0 1 rfl H fun b8 σ H => (.assign (v := (vi (-1))) rfl rfl (.nila H fun H => (.ret ?_))))
   replace h := sj h; subst h
   exact (EndsH.H (xs := [(vi (-1))]) (.inr rfl) H (.tmp (v := (vi (-1))) rfl .nil) (.one (.c (.v _))) 0 rfl)
  ·skip
   replace h := jret h
   replace h := sj h; subst h
   exact hE

theorem Z2w {s : (List Int)} {f : Int → Option Bool} {C : List Res} {cv0 : PV} (hs0 : cv0.still = true) (hp0 : cv0.pure = true → C = []) (hf0 : ∀ z0 y, f z0 = some y → CloH CX cv0 [(vi z0)] (vb y) C) {r : Bool} (h : Z0A s f = some r) : FnH CX 43 [(vl (cI .i64) s), cv0] (vb r) C := by
 refine FnH.of Try.func43 rfl rfl rfl rfl (Z2H rfl (Z2H hs0 all_nil)) rfl (fun h => hp0 (Z2q h 1 rfl)) ?_
 intro σ L hC H
 unfold Z0A at h
 refine .then (.Z0 1 rfl H fun b1 σ H => (.assign (v := (vb false)) rfl rfl (.nila H fun H => (.then (.Z0 5 rfl H fun b2 σ H => ?_)))))
 refine .move (v := (vl (cI .i64) s)) rfl rfl (.move (v := cv0) rfl rfl ?_)
 obtain ⟨x1, q1, h⟩ := bind_some h
 refine .Z66 (ys := [(vl (cI .i64) s), cv0]) (r := (vi x1)) H rfl (Z3Y (C := C) hs0 hp0 hf0 q1) hC nofun rfl fun σ H => (.int (m := x1) (m' := 0) (r := .bool (decide (x1 ≥ 0))) rfl rfl rfl rfl rfl (.assign (v := (vb (decide (x1 ≥ 0)))) rfl rfl (.nila H fun H => (.ret ?_))))
 replace h := sj h; subst h
 exact (EndsH.H (xs := [(vb (decide (x1 ≥ 0)))]) (.inr rfl) H (.tmp (v := (vb (decide (x1 ≥ 0)))) rfl .nil) (.one (.c (.v _))) 0 rfl)

theorem tag_own_1_fn {t : Int} {r : Bool} (h : Z5g t = r) : Fn CX 42 [(vi t)] (vb r) := by
 refine Fn.ends Try.func42 rfl rfl rfl rfl rfl rfl ?_
 have H : Hs (⟨0, fun _ => .none⟩ : Heap) [] := Has.nil (Nat.le_refl _)
 generalize (⟨0, fun _ => .none⟩ : Heap) = σ at H ⊢
 unfold Z5g at h
 refine .then (.Z0 1 rfl H fun b1 σ H => (.assign (v := (vb false)) rfl rfl (.nila H fun H => (.then (.Z0 7 rfl H fun b2 σ H => ?_)))))
 refine .move (v := (vi t)) rfl rfl (.int (m := t) (m' := (-1099511627776)) (r := .bool (decide (t < (-1099511627776)))) rfl rfl rfl rfl rfl (.move (v := (vb (decide (t < (-1099511627776))))) rfl rfl ?_))
 refine .mid 3 (K1 := fun e σ => Z5 e [(8, (vb ((decide (t < (-1099511627776))) || (decide (t > 1099511627776)))))] ∧ Has σ (b2 + 6) (b2 + 7) []) rfl ?_ ?_
 ·refine .split rfl rfl ?_ ?_ <;> intro hc1
  ·skip
   refine .pass rfl rfl rfl (.pass rfl rfl rfl (.ZZ (v := (vb true)) rfl rfl rfl (.nil ?_)))
   exact ⟨⟨or_T hc1, trivial⟩, H.weak (by omega) (Nat.le_refl _)⟩
  ·skip
   refine .wanted rfl rfl (.move (v := (vi t)) rfl rfl (.wanted rfl rfl (.int (m := t) (m' := 1099511627776) (r := .bool (decide (t > 1099511627776))) rfl rfl rfl rfl rfl (.Zb (v := (vb (decide (t > 1099511627776)))) rfl rfl rfl (.nil ?_)))))
   exact ⟨⟨or_F hc1, trivial⟩, H.weak (by omega) (Nat.le_refl _)⟩
 ·rintro e σ ⟨he, H⟩
  obtain ⟨e, rfl⟩ := he.ex
  refine .assign (v := (vb ((decide (t < (-1099511627776))) || (decide (t > 1099511627776))))) rfl rfl (.nila H fun H => (.ret ?_))
  subst h
  exact (Ends.H (xs := [(vb ((decide (t < (-1099511627776))) || (decide (t > 1099511627776))))]) (.inr rfl) H (.tmp (v := (vb ((decide (t < (-1099511627776))) || (decide (t > 1099511627776))))) rfl .nil) (.one (.c (.v _))))

theorem Z8W {n : Net} {ticks : (List Int)} {r : Bool} (h : Z5h n ticks = some r) : Fn CX 24 [(.agg (vs (Net.cs n))), (vl (cI .i64) ticks)] (vb r) := by
 refine Fn.ends Try.func24 rfl rfl rfl rfl rfl rfl ?_
 have H : Hs (⟨0, fun _ => .none⟩ : Heap) [] := Has.nil (Nat.le_refl _)
 generalize (⟨0, fun _ => .none⟩ : Heap) = σ at H ⊢
 unfold Z5h at h
 refine .then (.Z0 2 rfl H fun b1 σ H => (.boxH (cs := [(vi n.Vars), (vl Form.cs n.Forms), (vl Con.cs n.Cons)]) H (by omega) (by omega) rfl rfl rfl fun σ H => (.assign (v := (vb false)) rfl rfl (.nila H fun H => (.then ?_)))))
 refine .Z0 1 rfl H fun b2 σ H => (.assign (v := (.v (.fn 42))) rfl rfl (.nila H fun H => (.then (.Z0 12 rfl H fun b3 σ H => (.move (v := (vl (cI .i64) ticks)) rfl rfl ?_)))))
 refine .Z0O (c := (cI .i64)) (xs := ticks) rfl rfl rfl (.Z2 (off := 0) (fo := 0) H 0 rfl rfl rfl rfl rfl nofun rfl (.ZS (off := 0) (v := (vi n.Vars)) H 0 rfl rfl rfl rfl rfl nofun rfl (.int (m := (ticks.length : Int)) (m' := n.Vars) (r := .bool ((ticks.length : Int) == n.Vars)) rfl rfl rfl rfl rfl (.move (v := (vb ((ticks.length : Int) == n.Vars))) rfl rfl ?_))))
 obtain ⟨y1, hj1, h⟩ := bind_some h
 refine .mid 5 (K1 := fun e σ => Z5 e [(16, (vb y1))] ∧ Has σ (b3 + 11) (b3 + 12) []) rfl ?_ ?_
 ·refine .split rfl rfl ?_ ?_ <;> intro hc1
  ·replace h := Z8 hc1 hj1
   refine .wanted rfl rfl (.move (v := (vl (cI .i64) ticks)) rfl rfl (.wanted rfl rfl (.move (v := (.v (.fn 42))) rfl rfl (.wanted rfl rfl ?_))))
   obtain ⟨x1, q1, h⟩ := bind_some h
   refine .Z66 (ys := [(vl (cI .i64) ticks), (.v (.fn 42))]) (r := (vb x1)) H rfl (Z2w (C := []) rfl (fun _ => rfl) (fun z0 y hz => (CloH.fn (Fn.toH (tag_own_1_fn (Option.some.inj hz)) _))) q1) .nil nofun rfl fun σ H => (.wanted rfl rfl (.not (b := x1) rfl rfl (.ZZ (v := (vb (!x1))) rfl rfl rfl (.nil ?_))))
   replace h := sj h; subst h
   exact ⟨⟨rfl, trivial⟩, (H.erase 0).weak (by omega) (Nat.le_refl _)⟩
  ·replace h := Z9 hc1 hj1
   refine .pass rfl rfl rfl (.pass rfl rfl rfl (.pass rfl rfl rfl (.pass rfl rfl rfl (.Zb (v := (vb false)) rfl rfl rfl (.nil ?_)))))
   replace h := sj h; subst h
   exact ⟨⟨rfl, trivial⟩, (H.erase 0).weak (by omega) (Nat.le_refl _)⟩
 ·rintro e σ ⟨he, H⟩
  obtain ⟨e, rfl⟩ := he.ex
  refine .assign (v := (vb y1)) rfl rfl (.nila H fun H => (.ret ?_))
  replace h := sj h; subst h
  exact (Ends.H (xs := [(vb y1)]) (.inr rfl) H (.tmp (v := (vb y1)) rfl .nil) (.one (.c (.v _))))

theorem Z5U {n : Net} {ticks : (List Int)} {σ : Heap} {lo hi : Nat} {L : List Res} (H : Has σ lo hi L) : ∃ r σ', Z0X CX (.fn 25) [(.agg (vs (Net.cs n))), (vl (cI .i64) ticks)] σ = some (r, σ') ∧ ∃ i0' i1' : Nat, r = (.clo 44 [] [(.ptr i1' 3 0), (.ptr i0' 1 0)]) ∧ Hs σ' (.blk i0' 37 [(vl (cI .i64) ticks)] :: .blk i1' 36 [(vi n.Vars), (vl Form.cs n.Forms), (vl Con.cs n.Cons)] :: L) := by
 refine callO_of (Post := fun r σ' => ∃ i0' i1' : Nat, r = (.clo 44 [] [(.ptr i1' 3 0), (.ptr i0' 1 0)]) ∧ Hs σ' (.blk i0' 37 [(vl (cI .i64) ticks)] :: .blk i1' 36 [(vi n.Vars), (vl Form.cs n.Forms), (vl Con.cs n.Cons)] :: L)) Try.func25 rfl rfl rfl rfl rfl rfl ?_
 replace H := H.all
 refine .then (.Z0 3 rfl H fun b1 σ H => (.boxH (cs := [(vi n.Vars), (vl Form.cs n.Forms), (vl Con.cs n.Cons)]) H (by omega) (by omega) rfl rfl rfl fun σ H => (.boxH (cs := [(vl (cI .i64) ticks)]) H (by omega) (by omega) rfl rfl rfl fun σ H => (.assign (v := (.v .nilf)) rfl rfl (.nila H fun H => ?_)))))
 refine .then (.Z0 2 rfl H fun b2 σ H => (.makeClo (fs := []) (cs := [(.ptr (b1 + 0) 3 0), (.ptr (b1 + 1) 1 0)]) rfl rfl rfl rfl (.assign (v := (.clo 44 [] [(.ptr (b1 + 0) 3 0), (.ptr (b1 + 1) 1 0)])) rfl rfl (.nila H fun H => (.ret ?_)))))
 exact ⟨.inr rfl, [(.clo 44 [] [(.ptr (b1 + 0) 3 0), (.ptr (b1 + 1) 1 0)])], Z74 H (.tmp (v := (.clo 44 [] [(.ptr (b1 + 0) 3 0), (.ptr (b1 + 1) 1 0)])) rfl .nil), (b1 + 1), (b1 + 0), rfl, H.all⟩

theorem tag_met_fn {n : Net} {c : Con} {ticks : (List Int)} {r : Bool} (h : Z6n n c ticks = some r) : Fn CX 26 [(.agg (vs (Net.cs n))), (.agg (vs (Con.cs c))), (vl (cI .i64) ticks)] (vb r) := by
 refine Fn.ends Try.func26 rfl rfl rfl rfl rfl rfl ?_
 have H : Hs (⟨0, fun _ => .none⟩ : Heap) [] := Has.nil (Nat.le_refl _)
 generalize (⟨0, fun _ => .none⟩ : Heap) = σ at H ⊢
 unfold Z6n at h
 refine .then (.Z0 3 rfl H fun b1 σ H => (.boxH (cs := [(vi n.Vars), (vl Form.cs n.Forms), (vl Con.cs n.Cons)]) H (by omega) (by omega) rfl rfl rfl fun σ H => (.boxH (cs := [(vi c.X), (vi c.Y), (vi c.Form), (vi c.Range.Low), (vi c.Range.High), (vb c.Range.HasLow), (vb c.Range.HasHigh)]) H (by omega) (by omega) rfl rfl rfl fun σ H => (.assign (v := (vb false)) rfl rfl (.nila H fun H => ?_)))))
 refine .then (.Z4P 22 rfl (by kernel_rfl) H fun b2 σ H B2 => (.Z2 (off := 0) (fo := 1) H 1 rfl rfl rfl rfl rfl (fun _ => .inl ⟨B2 1 _ rfl _ rfl, nofun, (fun _ => by kernel_rfl)⟩) rfl (.ZS (off := 1) (v := (vl Form.cs n.Forms)) H 1 rfl rfl rfl rfl rfl (fun _ => .inl ⟨B2 1 _ rfl _ rfl, nofun, (fun _ => by kernel_rfl)⟩) rfl (.Z2 (off := 0) (fo := 2) H 0 rfl rfl rfl rfl rfl (fun _ => .inl ⟨B2 0 _ rfl _ rfl, nofun, (fun _ => by kernel_rfl)⟩) rfl (.ZS (off := 2) (v := (vi c.Form)) H 0 rfl rfl rfl rfl rfl (fun _ => .inl ⟨B2 0 _ rfl _ rfl, nofun, (fun _ => by kernel_rfl)⟩) rfl ?_)))))
 obtain ⟨x1, q1, h⟩ := bind_some h
 refine .Z0D (c := Form.cs) (u := x1) rfl rfl q1 rfl rfl rfl rfl (.Z2Y (cs := [(.int .i64 x1.Period), (.int .i64 x1.Count), (.sl (x1.Core.map (cL Span.cs))), (.sl (x1.Odd.map Granule.cs))]) rfl rfl rfl rfl rfl rfl (.move (v := (vl (cI .i64) ticks)) rfl rfl (.Z2 (off := 0) (fo := 0) H 0 rfl rfl rfl rfl rfl (fun _ => .inl ⟨B2 0 _ rfl _ rfl, nofun, (fun _ => by kernel_rfl)⟩) rfl (.ZS (off := 0) (v := (vi c.X)) H 0 rfl rfl rfl rfl rfl (fun _ => .inl ⟨B2 0 _ rfl _ rfl, nofun, (fun _ => by kernel_rfl)⟩) rfl ?_))))
 obtain ⟨x2, q2, h⟩ := bind_some h
 refine .Z0D (c := (cI .i64)) (u := x2) rfl rfl q2 rfl rfl rfl rfl (.Z2F (u := (.int .i64 x2)) rfl rfl rfl rfl (.move (v := (vl (cI .i64) ticks)) rfl rfl (.Z2 (off := 0) (fo := 1) H 0 rfl rfl rfl rfl rfl (fun _ => .inl ⟨B2 0 _ rfl _ rfl, nofun, (fun _ => by kernel_rfl)⟩) rfl (.ZS (off := 1) (v := (vi c.Y)) H 0 rfl rfl rfl rfl rfl (fun _ => .inl ⟨B2 0 _ rfl _ rfl, nofun, (fun _ => by kernel_rfl)⟩) rfl ?_))))
 obtain ⟨x3, q3, h⟩ := bind_some h
 refine .Z0D (c := (cI .i64)) (u := x3) rfl rfl q3 rfl rfl rfl rfl (.Z2F (u := (.int .i64 x3)) rfl rfl rfl rfl ?_)
 obtain ⟨x4, q4, h⟩ := bind_some h
 refine .call (ys := [(.agg (vF x1)), (vi x2), (vi x3)]) (r := (.tup [(vi x4.1), (vb x4.2)])) rfl (Z0V q4) rfl (.move (v := (.tup [(vi x4.1), (vb x4.2)])) rfl rfl (.extract (v := (vi x4.1)) rfl rfl rfl (.extract (v := (vb x4.2)) rfl rfl rfl (.assign (v := (vi x4.1)) rfl rfl (.assign (v := (vb x4.2)) rfl rfl ?_)))))
 refine .nila H fun H => (.then ?_)
 obtain ⟨y1, hj1, h⟩ := bind_some h
 refine .mono (Q := fun x e σ => (∃ a1, y1 = (.go a1) ∧ x = .normal ∧ Z5 e [] ∧ Hs σ []) ∨ (∃ r', y1 = (.ret r') ∧ x = .ret ∧ Ends CX Try.f26.results.toList (vb r') x e σ)) ?_ ?_
 ·replace h := hj1
  refine .then (.Z0 4 rfl H fun b3 σ H => (.Z2 (off := 0) (fo := 3) H 0 rfl rfl rfl rfl rfl nofun rfl (.ZY (off := 3) (cs := [(vi c.Range.Low), (vi c.Range.High), (vb c.Range.HasLow), (vb c.Range.HasHigh)]) H 0 rfl rfl rfl rfl rfl rfl rfl nofun rfl (.Z1b (cs := [(vi 0), (vi 0), (vb false), (vb false)]) H (by omega) (by omega) rfl rfl fun σ H => (.Z11 (off := 0) (cells' := [(vi c.Range.Low), (vi c.Range.High), (vb c.Range.HasLow), (vb c.Range.HasHigh)]) H 0 rfl rfl rfl rfl rfl rfl rfl rfl rfl nofun fun σ H => ?_)))))
  refine .nila H fun H => (.inBlock ?_)
  obtain ⟨y2, hj2, h⟩ := bind_some h
  refine .mono (Q := fun x e σ => (∃ a2, y2 = (.go a2) ∧ x = .normal ∧ Z5 e [] ∧ Hs σ []) ∨ (∃ r', y2 = (.ret r') ∧ x = .ret ∧ Ends CX Try.f26.results.toList (vb r') x e σ)) ?_ ?_
  ·replace h := hj2
   refine .then ?_
   obtain ⟨y3, hj3, h⟩ := bind_some h
   refine .mono (Q := fun x e σ => x = .normal ∧ Z5 e [(32, (vb y3))] ∧ Hs σ []) ?_ ?_
   ·replace h := hj3
    refine .then (.Z0 3 rfl H fun b4 σ H => (.move (v := (vb x4.2)) rfl rfl (.not (b := x4.2) rfl rfl (.assign (v := (vb (!x4.2))) rfl rfl (.nila H fun H => ?_)))))
    refine .whether (v := (!x4.2)) rfl ?_ ?_ <;> intro hc1
    ·replace h := Z8 hc1 h
     refine .skip ?_
     replace h := sj h; subst h
     exact ⟨rfl, ⟨rfl, trivial⟩, (((H.erase 2).erase 1).erase 0)⟩
    ·replace h := Z9 hc1 h
     refine .then (.Z0 9 rfl H fun b5 σ H => (.Z2 (off := 0) (fo := 2) H 0 rfl rfl rfl rfl rfl nofun rfl (.ZS (off := 2) (v := (vb c.Range.HasLow)) H 0 rfl rfl rfl rfl rfl nofun rfl (.move (v := (vb c.Range.HasLow)) rfl rfl ?_))))
     refine .mid 5 (K1 := fun e σ => Z5 e [(42, (vb (c.Range.HasLow && (decide (x4.1 < c.Range.Low))))), (7, (vi x4.1)), (9, (.ptr (b3 + 2) 4 0))] ∧ Has σ (b5 + 8) (b5 + 9) [.blk (b3 + 2) 45 [(vi c.Range.Low), (vi c.Range.High), (vb c.Range.HasLow), (vb c.Range.HasHigh)]]) rfl ?_ ?_
     ·refine .split rfl rfl ?_ ?_ <;> intro hc2
      ·skip
       refine .wanted rfl rfl (.move (v := (vi x4.1)) rfl rfl (.wanted rfl rfl (.Z2 (off := 0) (fo := 0) H 0 rfl rfl rfl rfl rfl nofun rfl (.wanted rfl rfl (.ZS (off := 0) (v := (vi c.Range.Low)) H 0 rfl rfl rfl rfl rfl nofun rfl ?_)))))
       refine .wanted rfl rfl (.int (m := x4.1) (m' := c.Range.Low) (r := .bool (decide (x4.1 < c.Range.Low))) rfl rfl rfl rfl rfl (.ZZ (v := (vb (decide (x4.1 < c.Range.Low)))) rfl rfl rfl (.nil ?_)))
       exact ⟨⟨Z0p hc2, rfl, rfl, trivial⟩, ((H.erase 2).erase 1).weak (by omega) (Nat.le_refl _)⟩
      ·skip
       refine .pass rfl rfl rfl (.pass rfl rfl rfl (.pass rfl rfl rfl (.pass rfl rfl rfl (.Zb (v := (vb false)) rfl rfl rfl (.nil ?_)))))
       exact ⟨⟨Z0o hc2, rfl, rfl, trivial⟩, ((H.erase 2).erase 1).weak (by omega) (Nat.le_refl _)⟩
     ·rintro e σ ⟨he, H⟩
      obtain ⟨e, rfl⟩ := he.ex
      refine .assign (v := (vb (c.Range.HasLow && (decide (x4.1 < c.Range.Low))))) rfl rfl (.nila H fun H => ?_)
      refine .whether (v := (c.Range.HasLow && (decide (x4.1 < c.Range.Low)))) rfl ?_ ?_ <;> intro hc3
      ·replace h := Z8 hc3 h
       refine .skip ?_
       replace h := sj h; subst h
       exact ⟨rfl, ⟨rfl, trivial⟩, (H.erase 0)⟩
      ·replace h := Z9 hc3 h
       refine .Z0 9 rfl H fun b6 σ H => (.Z2 (off := 0) (fo := 3) H 0 rfl rfl rfl rfl rfl nofun rfl (.ZS (off := 3) (v := (vb c.Range.HasHigh)) H 0 rfl rfl rfl rfl rfl nofun rfl (.move (v := (vb c.Range.HasHigh)) rfl rfl ?_)))
       refine .mid 5 (K1 := fun e σ => Z5 e [(50, (vb (c.Range.HasHigh && (decide (x4.1 > c.Range.High)))))] ∧ Has σ (b6 + 8) (b6 + 9) []) rfl ?_ ?_
       ·refine .split rfl rfl ?_ ?_ <;> intro hc4
        ·skip
         refine .wanted rfl rfl (.move (v := (vi x4.1)) rfl rfl (.wanted rfl rfl (.Z2 (off := 0) (fo := 1) H 0 rfl rfl rfl rfl rfl nofun rfl (.wanted rfl rfl (.ZS (off := 1) (v := (vi c.Range.High)) H 0 rfl rfl rfl rfl rfl nofun rfl ?_)))))
         refine .wanted rfl rfl (.int (m := x4.1) (m' := c.Range.High) (r := .bool (decide (x4.1 > c.Range.High))) rfl rfl rfl rfl rfl (.ZZ (v := (vb (decide (x4.1 > c.Range.High)))) rfl rfl rfl (.nil ?_)))
         exact ⟨⟨Z0p hc4, trivial⟩, (H.erase 0).weak (by omega) (Nat.le_refl _)⟩
        ·skip
         refine .pass rfl rfl rfl (.pass rfl rfl rfl (.pass rfl rfl rfl (.pass rfl rfl rfl (.Zb (v := (vb false)) rfl rfl rfl (.nil ?_)))))
         exact ⟨⟨Z0o hc4, trivial⟩, (H.erase 0).weak (by omega) (Nat.le_refl _)⟩
       ·rintro e σ ⟨he, H⟩
        obtain ⟨e, rfl⟩ := he.ex
        refine .assign (v := (vb (c.Range.HasHigh && (decide (x4.1 > c.Range.High))))) rfl rfl (.nila H fun H => ?_)
        replace h := sj h; subst h
        exact ⟨rfl, ⟨rfl, trivial⟩, H⟩
   ·rintro x e σ ⟨rfl, he, H⟩
    obtain ⟨e, rfl⟩ := he.ex
    refine .whether (v := y3) rfl ?_ ?_ <;> intro hc5
    ·replace h := Z8 hc5 h
     refine .then (.Z0 1 rfl H fun b7 σ H => (.assign (v := (vb false)) rfl rfl (.nila H fun H => (.ret ?_))))
     replace h := sj h; subst h
     exact (.inr ⟨_, rfl, rfl, (Ends.H (xs := [(vb false)]) (.inr rfl) H (.tmp (v := (vb false)) rfl .nil) (.one (.c (.v _))))⟩)
    ·replace h := Z9 hc5 h
     refine .skip ?_
     replace h := sj h; subst h
     exact (.inl ⟨_, rfl, rfl, trivial, H⟩)
  ·rintro x e σ (⟨a3, rfl, rfl, he, H⟩ | ⟨r', rfl, rfl, hE⟩)
   ·skip
    replace h := jgo h
    obtain ⟨e, rfl⟩ := he.ex
    replace h := sj h; subst h
    exact (.inl ⟨_, rfl, rfl, trivial, H⟩)
   ·skip
    replace h := jret h
    replace h := sj h; subst h
    exact (.inr ⟨_, rfl, rfl, hE⟩)
 ·rintro x e σ (⟨a4, rfl, rfl, he, H⟩ | ⟨r', rfl, rfl, hE⟩)
  ·skip
   replace h := jgo h
   obtain ⟨e, rfl⟩ := he.ex
   refine .then (.Z0 1 rfl H fun b8 σ H => (.assign (v := (vb true)) rfl rfl (.nila H fun H => (.ret ?_))))
   replace h := sj h; subst h
   exact (Ends.H (xs := [(vb true)]) (.inr rfl) H (.tmp (v := (vb true)) rfl .nil) (.one (.c (.v _))))
  ·skip
   replace h := jret h
   replace h := sj h; subst h
   exact hE

theorem Z4a {p1' : Net} {p2' : (List Int)} {S : Type} {C : S → List Res → Prop} {yield : S → Int → Option (S × Bool)} {yid : Nat} {id0' : Nat} {id1' : Nat} (hy : YldH CX yid C (fun z => [(vi z)]) yield) (hcap : ∀ s L, C s L → Sub [.blk id0' 36 [(vi p1'.Vars), (vl Form.cs p1'.Forms), (vl Con.cs p1'.Cons)], .blk id1' 37 [(vl (cI .i64) p2')]] L) {st' r : S} (h : Z0S p1' p2' yield st' = some r) : ItF CX 44 [(.yld yid), (.ptr id0' 3 0), (.ptr id1' 1 0)] C st' r := by
 refine ItF.of Try.func44 rfl rfl rfl rfl rfl rfl rfl rfl ?_
 intro σ L hC H
 have hc0 := hcap _ _ hC
 obtain ⟨k0', hk0', hc0⟩ := hc0.inv
 obtain ⟨k1', hk1', hc0⟩ := hc0.inv
 unfold Z0S at h
 refine .then (.Z0 4 rfl H fun b1 σ H => (.Z2 (off := 0) (fo := 2) H k0' hk0' rfl rfl rfl rfl nofun rfl (.ZS (off := 2) (v := (vl Con.cs p1'.Cons)) H k0' hk0' rfl rfl rfl rfl nofun rfl (.Z0O (c := Con.cs) (xs := p1'.Cons) rfl rfl rfl (.move (v := (vi 0)) rfl rfl ?_)))))
 refine .nila H fun H => (.inBlock ?_)
 obtain ⟨y1, hj1, h⟩ := bind_some h
 obtain ⟨n1, hj1⟩ := Zf.1 hj1
 refine .mono (Runs.ZM hj1 (fun s1 e σ => ∃ (L : List Res), C s1.2 L ∧ Z5 e [(0, (.yld yid)), (1, (.ptr id0' 3 0)), (2, (.ptr id1' 1 0)), (7, (vl Con.cs p1'.Cons)), (8, (vi (p1'.Cons.length : Int))), (9, (vi s1.1))] ∧ Hs σ (L)) (fun y1 x e σ => (∃ a1, ∃ (L : List Res), C a1 L ∧ y1 = (.go a1) ∧ x = .exit 0 ∧ Z5 e [] ∧ Hs σ (L)) ∨ (∃ r', y1 = (.ret r') ∧ x = .ret ∧ EndsI C r' x e σ)) ⟨_, hC, ⟨rfl, rfl, rfl, rfl, rfl, rfl, trivial⟩, H⟩ ?_) ?_
 ·intro s1 e σ hI z h
  obtain ⟨L, hC, he, H⟩ := hI
  obtain ⟨e, rfl⟩ := he.ex
  have hc0 := hcap _ _ hC
  obtain ⟨k0', hk0', hc0⟩ := hc0.inv
  obtain ⟨k1', hk1', hc0⟩ := hc0.inv
  unfold Z0S.s0 at h
  refine .then (.Z0 1 rfl H fun b2 σ H => (.int (m := s1.1) (m' := (p1'.Cons.length : Int)) (r := .bool (decide (s1.1 < (p1'.Cons.length : Int)))) rfl rfl rfl rfl rfl (.nila H fun H => (.then ?_))))
  refine .whether (v := (decide (s1.1 < (p1'.Cons.length : Int)))) rfl ?_ ?_ <;> intro hc1
  ·replace h := Z8 hc1 h
   refine .skip (.then (.inBlock (.then (.Z0 6 rfl H fun b3 σ H => (.move (v := (vi s1.1)) rfl rfl ?_)))))
   obtain ⟨x1, q1, h⟩ := bind_some h
   refine .Z0D (c := Con.cs) (u := x1) rfl rfl q1 rfl rfl rfl rfl (.Z2Y (cs := [(.int .i64 x1.X), (.int .i64 x1.Y), (.int .i64 x1.Form), (.int .i64 x1.Range.Low), (.int .i64 x1.Range.High), (.bool x1.Range.HasLow), (.bool x1.Range.HasHigh)]) rfl rfl rfl rfl rfl rfl (.Z1b (cs := [(vi 0), (vi 0), (vi 0), (vi 0), (vi 0), (vb false), (vb false)]) H (by omega) (by omega) rfl rfl fun σ H => (.assign (v := (vi s1.1)) rfl rfl (.Z11 (off := 0) (cells' := [(vi x1.X), (vi x1.Y), (vi x1.Form), (vi x1.Range.Low), (vi x1.Range.High), (vb x1.Range.HasLow), (vb x1.Range.HasHigh)]) H 0 rfl rfl rfl rfl rfl rfl rfl rfl rfl nofun fun σ H => (.nila H fun H => ?_)))))
   refine .then (.Z0 11 rfl H fun b4 σ H => (.ZY (off := 0) (cs := [(vi p1'.Vars), (vl Form.cs p1'.Forms), (vl Con.cs p1'.Cons)]) H (k0' + 1) hk0' rfl rfl rfl rfl rfl rfl nofun rfl (.ZY (off := 0) (cs := [(vi x1.X), (vi x1.Y), (vi x1.Form), (vi x1.Range.Low), (vi x1.Range.High), (vb x1.Range.HasLow), (vb x1.Range.HasHigh)]) H 0 rfl rfl rfl rfl rfl rfl rfl nofun rfl (.ZS (off := 0) (v := (vl (cI .i64) p2')) H (k1' + 1) hk1' rfl rfl rfl rfl nofun rfl ?_))))
   obtain ⟨x2, q2, h⟩ := bind_some h
   refine .call (ys := [(.agg [(vi p1'.Vars), (vl Form.cs p1'.Forms), (vl Con.cs p1'.Cons)]), (.agg [(vi x1.X), (vi x1.Y), (vi x1.Form), (vi x1.Range.Low), (vi x1.Range.High), (vb x1.Range.HasLow), (vb x1.Range.HasHigh)]), (vl (cI .i64) p2')]) (r := (vb x2)) rfl (tag_met_fn q2) rfl (.not (b := x2) rfl rfl (.move (v := (vb (!x2))) rfl rfl ?_))
   obtain ⟨y2, hj2, h⟩ := bind_some h
   refine .mid 5 (K1 := fun e σ => ∃ L, C y2.2 L ∧ Z5 e [(24, (vb y2.1)), (0, (.yld yid)), (1, (.ptr id0' 3 0)), (2, (.ptr id1' 1 0)), (7, (vl Con.cs p1'.Cons)), (8, (vi (p1'.Cons.length : Int))), (9, (vi s1.1))] ∧ Hs σ (L)) rfl ?_ ?_
   ·refine .split rfl rfl ?_ ?_ <;> intro hc2
    ·replace h := Z8 hc2 hj2
     refine .wanted rfl rfl (.move (v := (.yld yid)) rfl rfl (.wanted rfl rfl (.move (v := (vi s1.1)) rfl rfl (.wanted rfl rfl ?_))))
     obtain ⟨x3, q3, h⟩ := bind_some h
     refine .callY (z := s1.1) (s' := x3.1) (b := x3.2) [.blk (b3 + 3) 48 [(vi x1.X), (vi x1.Y), (vi x1.Form), (vi x1.Range.Low), (vi x1.Range.High), (vb x1.Range.HasLow), (vb x1.Range.HasHigh)]] H hC rfl rfl hy q3 rfl rfl fun σ L hC H => ?_
     have hc0 := hcap _ _ hC
     obtain ⟨k0', hk0', hc0⟩ := hc0.inv
     obtain ⟨k1', hk1', hc0⟩ := hc0.inv
     refine .wanted rfl rfl (.not (b := x3.2) rfl rfl (.ZZ (v := (vb (!x3.2))) rfl rfl rfl (.nil ?_)))
     replace h := sj h; subst h
     exact ⟨_, hC, ⟨rfl, rfl, rfl, rfl, rfl, rfl, rfl, trivial⟩, (H.erase 0).all⟩
    ·replace h := Z9 hc2 hj2
     refine .pass rfl rfl rfl (.pass rfl rfl rfl (.pass rfl rfl rfl (.pass rfl rfl rfl (.Zb (v := (vb false)) rfl rfl rfl (.nil ?_)))))
     replace h := sj h; subst h
     exact ⟨_, hC, ⟨rfl, rfl, rfl, rfl, rfl, rfl, rfl, trivial⟩, (H.erase 0).all⟩
   ·rintro e σ ⟨L, hC, he, H⟩
    obtain ⟨e, rfl⟩ := he.ex
    have hc0 := hcap _ _ hC
    obtain ⟨k0', hk0', hc0⟩ := hc0.inv
    obtain ⟨k1', hk1', hc0⟩ := hc0.inv
    refine .nila H fun H => ?_
    refine .whether (v := y2.1) rfl ?_ ?_ <;> intro hc3
    ·replace h := Z8 hc3 h
     refine .ret ?_
     replace h := sj h; subst h
     exact ⟨nofun, (.inr ⟨_, rfl, rfl, (EndsI.H (.inr rfl) H 0 rfl hC)⟩)⟩
    ·replace h := Z9 hc3 h
     refine .skip (.Z0 2 rfl H fun b5 σ H => (.int (m := s1.1) (m' := 1) (r := .int .i64 (w64 (s1.1 + 1))) rfl rfl rfl rfl rfl (.move (v := (vi (w64 (s1.1 + 1)))) rfl rfl (.nila H fun H => ?_))))
     replace h := sj h; subst h
     exact ⟨rfl, _, hC, ⟨rfl, rfl, rfl, rfl, rfl, rfl, trivial⟩, H⟩
  ·replace h := Z9 hc1 h
   refine .exit ?_
   replace h := sj h; subst h
   exact ⟨nofun, (.inl ⟨_, _, hC, rfl, rfl, trivial, H⟩)⟩
 ·rintro x e σ (⟨a2, L, hC, rfl, rfl, he, H⟩ | ⟨r', rfl, rfl, hE⟩)
  ·skip
   replace h := jgo h
   obtain ⟨e, rfl⟩ := he.ex
   have hc0 := hcap _ _ hC
   obtain ⟨k0', hk0', hc0⟩ := hc0.inv
   obtain ⟨k1', hk1', hc0⟩ := hc0.inv
   replace h := sj h; subst h
   exact (EndsI.H (.inl rfl) H 0 rfl hC)
  ·skip
   replace h := jret h
   replace h := sj h; subst h
   exact hE

theorem Z6l {n : Net} {ticks : (List Int)} {r : (List Int) × Int} (h : Z1K n ticks = some r) : FnO CX 11 [(.agg (vs (Net.cs n))), (vl (cI .i64) ticks)] (fun q A => ∃ (w6 : PV), q = (.tup [w6, (vi r.2)]) ∧ A = [.sl w6 3 1 (r.1.map (cI .i64)) true]) := by
 refine FnO.of Try.func11 rfl rfl rfl rfl rfl rfl ?_
 intro σ T H
 unfold Z1K at h
 refine .then (.Z0 3 rfl H fun b1 σ H => (.boxH (cs := [(vi n.Vars), (vl Form.cs n.Forms), (vl Con.cs n.Cons)]) H (by omega) (by omega) rfl rfl rfl fun σ H => (.assign (v := .nils) rfl rfl (.assign (v := (vi 0)) rfl rfl (.nila H fun H => ?_)))))
 refine .then (.then (.Z0 4 rfl H fun b2 σ H => (.ZY (off := 0) (cs := [(vi n.Vars), (vl Form.cs n.Forms), (vl Con.cs n.Cons)]) H 0 rfl rfl rfl rfl rfl rfl rfl nofun rfl (.move (v := (vl (cI .i64) ticks)) rfl rfl ?_))))
 obtain ⟨x1, q1, h⟩ := bind_some h
 refine .call (ys := [(.agg [(vi n.Vars), (vl Form.cs n.Forms), (vl Con.cs n.Cons)]), (vl (cI .i64) ticks)]) (r := (vb x1)) rfl (Z8W q1) rfl (.not (b := x1) rfl rfl (.nila H fun H => ?_))
 refine .whether (v := (!x1)) rfl ?_ ?_ <;> intro hc1
 ·replace h := Z8 hc1 h
  refine .then (.Z0 2 rfl H fun b3 σ H => (.assign (v := .nils) rfl rfl (.assign (v := (vi 230)) rfl rfl (.nila H fun H => (.ret ?_)))))
  replace H := H.pushNil 3 1 true
  replace h := sj h; subst h
  exact ⟨.inr rfl, _, Z74 H (.tmp (v := .nils) rfl (.tmp (v := (vi 230)) rfl .nil)), _, ⟨.nils, rfl, rfl⟩, (H.erase 1)⟩
 ·replace h := Z9 hc1 h
  refine .skip (.then (.Z0 1 rfl H fun b4 σ H => (.Z1b (cs := [.nils]) H (by omega) (by omega) rfl rfl fun σ H => (.nila H fun H => (.then ?_)))))
  refine .then (.Z0 3 rfl H fun b5 σ H => (.ZY (off := 0) (cs := [(vi n.Vars), (vl Form.cs n.Forms), (vl Con.cs n.Cons)]) H 1 rfl rfl rfl rfl rfl rfl rfl nofun rfl (.move (v := (vl (cI .i64) ticks)) rfl rfl ?_)))
  refine .callO (ys := [(.agg (vs (Net.cs n))), (vl (cI .i64) ticks)]) rfl (Z5U H) nofun rfl ?_; rintro _ σ ⟨id1, id2, rfl, H⟩
  refine .nila H fun H => (.inBlock ?_)
  replace H := H.pushNil 3 1 true
  replace H := (H.erase 4)
  obtain ⟨y1, hj1, h⟩ := bind_some h
  refine .rangeH H rfl (fun s2 M => ∃ (w3 : PV), M = (.sl w3 3 1 (s2.map (cI .i64)) true :: .blk id1 37 [(vl (cI .i64) ticks)] :: .blk id2 36 [(vi n.Vars), (vl Form.cs n.Forms), (vl Con.cs n.Cons)] :: .blk (b4 + 0) 37 [w3] :: T)) (fun z2 => [(vi z2)]) Z1K.b0 (fun p => none) rfl (fun p => ⟨_, rfl⟩) (r := y1) ⟨.nils, rfl⟩ (fun _ => rfl) (fun _ => rfl) ?_ (fun id hy => Z4a hy (fun s L hL => by obtain ⟨M, hM, rfl⟩ := hL; obtain ⟨_, rfl⟩ := hM; exact (.cons 3 rfl (.cons 2 rfl .nil))) hj1) ?_
  ·intro R0 R1 s2 z2 s' p h σ M O hM H
   obtain ⟨w3, rfl⟩ := hM
   unfold Z1K.b0 at h
   refine .env [(15, (vi z2)), (4, .nils), (5, (vi 0)), (6, (.ptr (b4 + 0) 1 0)), (14, (.clo 44 [] [(.ptr id2 3 0), (.ptr id1 1 0)]))] ⟨rfl, rfl, rfl, rfl, rfl, trivial⟩ fun e => (.Z0 1 rfl H fun b6 σ H => (.assign (v := (vi z2)) rfl rfl (.nila H fun H => ?_)))
   refine ⟨rfl, (.sl w3 3 1 (s2.map (cI .i64)) true :: .blk id1 37 [(vl (cI .i64) ticks)] :: .blk id2 36 [(vi n.Vars), (vl Form.cs n.Forms), (vl Con.cs n.Cons)] :: .blk (b4 + 0) 37 [w3] :: T), H, ?_⟩; intro σ H
   refine .inBlock (.Z0 5 rfl H fun b7 σ H => (.ZS (off := 0) (v := w3) H 4 rfl rfl rfl rfl rfl nofun rfl (.move (v := (vi z2)) rfl rfl (.Z3u (sz := 1) ([z2].map (cI .i64)) H (by omega) (by omega) rfl rfl rfl rfl rfl rfl rfl rfl rfl fun σ H => ?_))))
   obtain ⟨x2, q2, h⟩ := bind_some h
   refine .appendSt (c := (cI .i64)) (v := w3) (w := (.buf (b7 + 2) 1 1)) (xs := s2) (ys := [z2]) H (by omega) (by omega) 2 rfl rfl rfl (.s 0 rfl) q2 rfl rfl rfl rfl rfl nofun rfl fun w4 σ H => (.Z11 (off := 0) (v := w4) (ys := [w4]) (cells' := [w4]) H 5 rfl rfl rfl rfl (H.slCells (k := 2) rfl) rfl rfl rfl rfl nofun fun σ H => (.nila H fun H => ?_))
   obtain ⟨rfl, rfl⟩ := Prod.mk.inj (Option.some.inj h)
   exact ⟨⟨rfl, (iff_of_true rfl rfl)⟩, _, ⟨w4, rfl⟩, (H.erase 0)⟩
  ·intro x σ M hx hM H
   obtain ⟨w5, rfl⟩ := hM
   cases hx
   refine .then (.Z0 3 rfl H fun b8 σ H => (.ZS (off := 0) (v := w5) H 3 rfl rfl rfl rfl rfl nofun rfl (.assign (v := w5) rfl rfl (.assign (v := (vi 0)) rfl rfl (.nila H fun H => ?_)))))
   refine .ret ?_
   replace h := sj h; subst h
   exact ⟨.inr rfl, _, Z74 H (.tmp (v := w5) rfl (.tmp (v := (vi 0)) rfl .nil)), _, ⟨w5, rfl, rfl⟩, (((H.erase 3).erase 2).erase 1)⟩

theorem Z3e {i : Int} {many : Int} {r : Bool} (h : ZP i many = r) : Fn CX 36 [(vi i), (vi many)] (vb r) := by
 refine Fn.ends Try.func36 rfl rfl rfl rfl rfl rfl ?_
 have H : Hs (⟨0, fun _ => .none⟩ : Heap) [] := Has.nil (Nat.le_refl _)
 generalize (⟨0, fun _ => .none⟩ : Heap) = σ at H ⊢
 unfold ZP at h
 refine .then (.Z0 1 rfl H fun b1 σ H => (.assign (v := (vb false)) rfl rfl (.nila H fun H => (.then (.Z0 8 rfl H fun b2 σ H => ?_)))))
 refine .move (v := (vi i)) rfl rfl (.int (m := i) (m' := 0) (r := .bool (decide (i ≥ 0))) rfl rfl rfl rfl rfl (.move (v := (vb (decide (i ≥ 0)))) rfl rfl ?_))
 refine .mid 4 (K1 := fun e σ => Z5 e [(11, (vb ((decide (i ≥ 0)) && (decide (i < many)))))] ∧ Has σ (b2 + 7) (b2 + 8) []) rfl ?_ ?_
 ·refine .split rfl rfl ?_ ?_ <;> intro hc1
  ·skip
   refine .wanted rfl rfl (.move (v := (vi i)) rfl rfl (.wanted rfl rfl (.move (v := (vi many)) rfl rfl (.wanted rfl rfl (.int (m := i) (m' := many) (r := .bool (decide (i < many))) rfl rfl rfl rfl rfl ?_)))))
   refine .ZZ (v := (vb (decide (i < many)))) rfl rfl rfl (.nil ?_)
   exact ⟨⟨Z0p hc1, trivial⟩, H.weak (by omega) (Nat.le_refl _)⟩
  ·skip
   refine .pass rfl rfl rfl (.pass rfl rfl rfl (.pass rfl rfl rfl (.Zb (v := (vb false)) rfl rfl rfl (.nil ?_))))
   exact ⟨⟨Z0o hc1, trivial⟩, H.weak (by omega) (Nat.le_refl _)⟩
 ·rintro e σ ⟨he, H⟩
  obtain ⟨e, rfl⟩ := he.ex
  refine .assign (v := (vb ((decide (i ≥ 0)) && (decide (i < many))))) rfl rfl (.nila H fun H => (.ret ?_))
  subst h
  exact (Ends.H (xs := [(vb ((decide (i ≥ 0)) && (decide (i < many))))]) (.inr rfl) H (.tmp (v := (vb ((decide (i ≥ 0)) && (decide (i < many))))) rfl .nil) (.one (.c (.v _))))

theorem Z3C {s : (List Form)} {f : Form → Option Bool} {C : List Res} {cv0 : PV} (hs0 : cv0.still = true) (hp0 : cv0.pure = true → C = []) (hf0 : ∀ z0 y, f z0 = some y → CloH CX cv0 [(.agg (vs (Form.cs z0)))] (vb y) C) {r : Int} (h : ZT s f = some r) : FnH CX 50 [(vl Form.cs s), cv0] (vi r) C := by
 refine FnH.of Try.func50 rfl rfl rfl rfl (Z2H rfl (Z2H hs0 all_nil)) rfl (fun h => hp0 (Z2q h 1 rfl)) ?_
 intro σ L hC H
 unfold ZT at h
 refine .then (.Z0 1 rfl H fun b1 σ H => (.assign (v := (vi 0)) rfl rfl (.nila H fun H => (.then (.then ?_)))))
 refine .Z0 3 rfl H fun b2 σ H => (.move (v := (vl Form.cs s)) rfl rfl (.Z0O (c := Form.cs) (xs := s) rfl rfl rfl (.move (v := (vi 0)) rfl rfl (.nila H fun H => (.inBlock ?_)))))
 obtain ⟨y1, hj1, h⟩ := bind_some h
 obtain ⟨n1, hj1⟩ := Zf.1 hj1
 refine .mono (Runs.ZM hj1 (fun s1 e σ => Z5 e [(0, (vl Form.cs s)), (1, cv0), (7, (vi (s.length : Int))), (8, (vi s1))] ∧ Hs σ (L)) (fun y1 x e σ => (∃ a1, y1 = (.go a1) ∧ x = .exit 0 ∧ Z5 e [] ∧ Hs σ (L)) ∨ (∃ r', y1 = (.ret r') ∧ x = .ret ∧ EndsH CX Try.f50.results.toList (vi r') L x e σ)) ⟨⟨rfl, rfl, rfl, rfl, trivial⟩, H⟩ ?_) ?_
 ·intro s1 e σ hI z h
  obtain ⟨he, H⟩ := hI
  obtain ⟨e, rfl⟩ := he.ex
  unfold ZT.s0 at h
  refine .then (.Z0 1 rfl H fun b3 σ H => (.int (m := s1) (m' := (s.length : Int)) (r := .bool (decide (s1 < (s.length : Int)))) rfl rfl rfl rfl rfl (.nila H fun H => (.then ?_))))
  refine .whether (v := (decide (s1 < (s.length : Int)))) rfl ?_ ?_ <;> intro hc1
  ·replace h := Z8 hc1 h
   refine .skip (.then (.inBlock (.then (.Z0 2 rfl H fun b4 σ H => (.move (v := (vi s1)) rfl rfl ?_)))))
   refine .assign (v := (vi s1)) rfl rfl (.nila H fun H => (.then (.Z0 6 rfl H fun b5 σ H => (.move (v := cv0) rfl rfl (.move (v := (vl Form.cs s)) rfl rfl ?_)))))
   refine .move (v := (vi s1)) rfl rfl ?_
   obtain ⟨x1, q1, h⟩ := bind_some h
   refine .Z0D (c := Form.cs) (u := x1) rfl rfl q1 rfl rfl rfl rfl (.Z2Y (cs := [(.int .i64 x1.Period), (.int .i64 x1.Count), (.sl (x1.Core.map (cL Span.cs))), (.sl (x1.Odd.map Granule.cs))]) rfl rfl rfl rfl rfl rfl ?_)
   obtain ⟨x2, q2, h⟩ := bind_some h
   refine .callV (cv := cv0) (ys := [(.agg (vs (Form.cs x1)))]) (r := (vb x2)) H rfl rfl (hf0 x1 _ q2) hC nofun rfl fun σ H => (.nila H fun H => ?_)
   refine .whether (v := x2) rfl ?_ ?_ <;> intro hc2
   ·replace h := Z8 hc2 h
    refine .then (.Z0 2 rfl H fun b6 σ H => (.move (v := (vi s1)) rfl rfl (.assign (v := (vi s1)) rfl rfl (.nila H fun H => (.ret ?_)))))
    replace h := sj h; subst h
    exact ⟨nofun, (.inr ⟨_, rfl, rfl, (EndsH.H (xs := [(vi s1)]) (.inr rfl) H (.tmp (v := (vi s1)) rfl .nil) (.one (.c (.v _))) 0 rfl)⟩)⟩
   ·replace h := Z9 hc2 h
    refine .skip (.Z0 2 rfl H fun b7 σ H => (.int (m := s1) (m' := 1) (r := .int .i64 (w64 (s1 + 1))) rfl rfl rfl rfl rfl (.move (v := (vi (w64 (s1 + 1)))) rfl rfl (.nila H fun H => ?_))))
    replace h := sj h; subst h
    exact ⟨rfl, ⟨rfl, rfl, rfl, rfl, trivial⟩, H⟩
  ·replace h := Z9 hc1 h
   refine .exit ?_
   replace h := sj h; subst h
   exact ⟨nofun, (.inl ⟨_, rfl, rfl, trivial, H⟩)⟩
 ·rintro x e σ (⟨a2, rfl, rfl, he, H⟩ | ⟨r', rfl, rfl, hE⟩)
  ·skip
   replace h := jgo h
   obtain ⟨e, rfl⟩ := he.ex
   refine .then (.Z0 1 rfl H fun b8 σ H => (.assign (v := (vi (-1))) rfl rfl (.nila H fun H => (.ret ?_))))
   replace h := sj h; subst h
   exact (EndsH.H (xs := [(vi (-1))]) (.inr rfl) H (.tmp (v := (vi (-1))) rfl .nil) (.one (.c (.v _))) 0 rfl)
  ·skip
   replace h := jret h
   replace h := sj h; subst h
   exact hE

theorem Z2h {s : (List Form)} {f : Form → Option Bool} {C : List Res} {cv0 : PV} (hs0 : cv0.still = true) (hp0 : cv0.pure = true → C = []) (hf0 : ∀ z0 y, f z0 = some y → CloH CX cv0 [(.agg (vs (Form.cs z0)))] (vb y) C) {r : Bool} (h : Zz s f = some r) : FnH CX 37 [(vl Form.cs s), cv0] (vb r) C := by
 refine FnH.of Try.func37 rfl rfl rfl rfl (Z2H rfl (Z2H hs0 all_nil)) rfl (fun h => hp0 (Z2q h 1 rfl)) ?_
 intro σ L hC H
 unfold Zz at h
 refine .then (.Z0 1 rfl H fun b1 σ H => (.assign (v := (vb false)) rfl rfl (.nila H fun H => (.then (.Z0 5 rfl H fun b2 σ H => ?_)))))
 refine .move (v := (vl Form.cs s)) rfl rfl (.move (v := cv0) rfl rfl ?_)
 obtain ⟨x1, q1, h⟩ := bind_some h
 refine .Z66 (ys := [(vl Form.cs s), cv0]) (r := (vi x1)) H rfl (Z3C (C := C) hs0 hp0 hf0 q1) hC nofun rfl fun σ H => (.int (m := x1) (m' := 0) (r := .bool (decide (x1 ≥ 0))) rfl rfl rfl rfl rfl (.assign (v := (vb (decide (x1 ≥ 0)))) rfl rfl (.nila H fun H => (.ret ?_))))
 replace h := sj h; subst h
 exact (EndsH.H (xs := [(vb (decide (x1 ≥ 0)))]) (.inr rfl) H (.tmp (v := (vb (decide (x1 ≥ 0)))) rfl .nil) (.one (.c (.v _))) 0 rfl)

theorem Z8H {f : Form} {r : Bool} (h : Z3Q f = some r) : Fn CX 35 [(.agg (vs (Form.cs f)))] (vb r) := by
 refine Fn.ends Try.func35 rfl rfl rfl rfl rfl rfl ?_
 have H : Hs (⟨0, fun _ => .none⟩ : Heap) [] := Has.nil (Nat.le_refl _)
 generalize (⟨0, fun _ => .none⟩ : Heap) = σ at H ⊢
 unfold Z3Q at h
 refine .then (.Z0 2 rfl H fun b1 σ H => (.boxH (cs := (vF f)) H (by omega) (by omega) rfl rfl rfl fun σ H => (.assign (v := (vb false)) rfl rfl (.nila H fun H => (.then ?_)))))
 refine .Z0 4 rfl H fun b2 σ H => (.ZY (off := 0) (cs := (vF f)) H 0 rfl rfl rfl rfl rfl rfl rfl nofun rfl ?_)
 obtain ⟨x1, q1, h⟩ := bind_some h
 refine .call (ys := [(.agg (vF f))]) (r := (vi x1)) rfl (Z65 q1) rfl (.int (m := x1) (m' := 0) (r := .bool (x1 != 0)) rfl rfl rfl rfl rfl (.assign (v := (vb (x1 != 0))) rfl rfl (.nila H fun H => (.ret ?_))))
 replace h := sj h; subst h
 exact (Ends.H (xs := [(vb (x1 != 0))]) (.inr rfl) H (.tmp (v := (vb (x1 != 0))) rfl .nil) (.one (.c (.v _))))

theorem Z3V {s : (List Con)} {f : Con → Option Bool} {C : List Res} {cv0 : PV} (hs0 : cv0.still = true) (hp0 : cv0.pure = true → C = []) (hf0 : ∀ z0 y, f z0 = some y → CloH CX cv0 [(.agg (vs (Con.cs z0)))] (vb y) C) {r : Int} (h : ZV s f = some r) : FnH CX 51 [(vl Con.cs s), cv0] (vi r) C := by
 refine FnH.of Try.func51 rfl rfl rfl rfl (Z2H rfl (Z2H hs0 all_nil)) rfl (fun h => hp0 (Z2q h 1 rfl)) ?_
 intro σ L hC H
 unfold ZV at h
 refine .then (.Z0 1 rfl H fun b1 σ H => (.assign (v := (vi 0)) rfl rfl (.nila H fun H => (.then (.then ?_)))))
 refine .Z0 3 rfl H fun b2 σ H => (.move (v := (vl Con.cs s)) rfl rfl (.Z0O (c := Con.cs) (xs := s) rfl rfl rfl (.move (v := (vi 0)) rfl rfl (.nila H fun H => (.inBlock ?_)))))
 obtain ⟨y1, hj1, h⟩ := bind_some h
 obtain ⟨n1, hj1⟩ := Zf.1 hj1
 refine .mono (Runs.ZM hj1 (fun s1 e σ => Z5 e [(0, (vl Con.cs s)), (1, cv0), (7, (vi (s.length : Int))), (8, (vi s1))] ∧ Hs σ (L)) (fun y1 x e σ => (∃ a1, y1 = (.go a1) ∧ x = .exit 0 ∧ Z5 e [] ∧ Hs σ (L)) ∨ (∃ r', y1 = (.ret r') ∧ x = .ret ∧ EndsH CX Try.f51.results.toList (vi r') L x e σ)) ⟨⟨rfl, rfl, rfl, rfl, trivial⟩, H⟩ ?_) ?_
 ·intro s1 e σ hI z h
  obtain ⟨he, H⟩ := hI
  obtain ⟨e, rfl⟩ := he.ex
  unfold ZV.s0 at h
  refine .then (.Z0 1 rfl H fun b3 σ H => (.int (m := s1) (m' := (s.length : Int)) (r := .bool (decide (s1 < (s.length : Int)))) rfl rfl rfl rfl rfl (.nila H fun H => (.then ?_))))
  refine .whether (v := (decide (s1 < (s.length : Int)))) rfl ?_ ?_ <;> intro hc1
  ·replace h := Z8 hc1 h
   refine .skip (.then (.inBlock (.then (.Z0 2 rfl H fun b4 σ H => (.move (v := (vi s1)) rfl rfl ?_)))))
   refine .assign (v := (vi s1)) rfl rfl (.nila H fun H => (.then (.Z0 6 rfl H fun b5 σ H => (.move (v := cv0) rfl rfl (.move (v := (vl Con.cs s)) rfl rfl ?_)))))
   refine .move (v := (vi s1)) rfl rfl ?_
   obtain ⟨x1, q1, h⟩ := bind_some h
   refine .Z0D (c := Con.cs) (u := x1) rfl rfl q1 rfl rfl rfl rfl (.Z2Y (cs := [(.int .i64 x1.X), (.int .i64 x1.Y), (.int .i64 x1.Form), (.int .i64 x1.Range.Low), (.int .i64 x1.Range.High), (.bool x1.Range.HasLow), (.bool x1.Range.HasHigh)]) rfl rfl rfl rfl rfl rfl ?_)
   obtain ⟨x2, q2, h⟩ := bind_some h
   refine .callV (cv := cv0) (ys := [(.agg (vs (Con.cs x1)))]) (r := (vb x2)) H rfl rfl (hf0 x1 _ q2) hC nofun rfl fun σ H => (.nila H fun H => ?_)
   refine .whether (v := x2) rfl ?_ ?_ <;> intro hc2
   ·replace h := Z8 hc2 h
    refine .then (.Z0 2 rfl H fun b6 σ H => (.move (v := (vi s1)) rfl rfl (.assign (v := (vi s1)) rfl rfl (.nila H fun H => (.ret ?_)))))
    replace h := sj h; subst h
    exact ⟨nofun, (.inr ⟨_, rfl, rfl, (EndsH.H (xs := [(vi s1)]) (.inr rfl) H (.tmp (v := (vi s1)) rfl .nil) (.one (.c (.v _))) 0 rfl)⟩)⟩
   ·replace h := Z9 hc2 h
    refine .skip (.Z0 2 rfl H fun b7 σ H => (.int (m := s1) (m' := 1) (r := .int .i64 (w64 (s1 + 1))) rfl rfl rfl rfl rfl (.move (v := (vi (w64 (s1 + 1)))) rfl rfl (.nila H fun H => ?_))))
    replace h := sj h; subst h
    exact ⟨rfl, ⟨rfl, rfl, rfl, rfl, trivial⟩, H⟩
  ·replace h := Z9 hc1 h
   refine .exit ?_
   replace h := sj h; subst h
   exact ⟨nofun, (.inl ⟨_, rfl, rfl, trivial, H⟩)⟩
 ·rintro x e σ (⟨a2, rfl, rfl, he, H⟩ | ⟨r', rfl, rfl, hE⟩)
  ·skip
   replace h := jgo h
   obtain ⟨e, rfl⟩ := he.ex
   refine .then (.Z0 1 rfl H fun b8 σ H => (.assign (v := (vi (-1))) rfl rfl (.nila H fun H => (.ret ?_))))
   replace h := sj h; subst h
   exact (EndsH.H (xs := [(vi (-1))]) (.inr rfl) H (.tmp (v := (vi (-1))) rfl .nil) (.one (.c (.v _))) 0 rfl)
  ·skip
   replace h := jret h
   replace h := sj h; subst h
   exact hE

theorem Z2v {s : (List Con)} {f : Con → Option Bool} {C : List Res} {cv0 : PV} (hs0 : cv0.still = true) (hp0 : cv0.pure = true → C = []) (hf0 : ∀ z0 y, f z0 = some y → CloH CX cv0 [(.agg (vs (Con.cs z0)))] (vb y) C) {r : Bool} (h : Z08 s f = some r) : FnH CX 38 [(vl Con.cs s), cv0] (vb r) C := by
 refine FnH.of Try.func38 rfl rfl rfl rfl (Z2H rfl (Z2H hs0 all_nil)) rfl (fun h => hp0 (Z2q h 1 rfl)) ?_
 intro σ L hC H
 unfold Z08 at h
 refine .then (.Z0 1 rfl H fun b1 σ H => (.assign (v := (vb false)) rfl rfl (.nila H fun H => (.then (.Z0 5 rfl H fun b2 σ H => ?_)))))
 refine .move (v := (vl Con.cs s)) rfl rfl (.move (v := cv0) rfl rfl ?_)
 obtain ⟨x1, q1, h⟩ := bind_some h
 refine .Z66 (ys := [(vl Con.cs s), cv0]) (r := (vi x1)) H rfl (Z3V (C := C) hs0 hp0 hf0 q1) hC nofun rfl fun σ H => (.int (m := x1) (m' := 0) (r := .bool (decide (x1 ≥ 0))) rfl rfl rfl rfl rfl (.assign (v := (vb (decide (x1 ≥ 0)))) rfl rfl (.nila H fun H => (.ret ?_))))
 replace h := sj h; subst h
 exact (EndsH.H (xs := [(vb (decide (x1 ≥ 0)))]) (.inr rfl) H (.tmp (v := (vb (decide (x1 ≥ 0)))) rfl .nil) (.one (.c (.v _))) 0 rfl)

theorem tag_scoped_fn {r' : Range} {r : Bool} (h : Z1E r' = r) : Fn CX 49 [(.agg (vs (Range.cs r')))] (vb r) := by
 refine Fn.ends Try.func49 rfl rfl rfl rfl rfl rfl ?_
 have H : Hs (⟨0, fun _ => .none⟩ : Heap) [] := Has.nil (Nat.le_refl _)
 generalize (⟨0, fun _ => .none⟩ : Heap) = σ at H ⊢
 unfold Z1E at h
 refine .then (.Z0 2 rfl H fun b1 σ H => (.boxH (cs := [(vi r'.Low), (vi r'.High), (vb r'.HasLow), (vb r'.HasHigh)]) H (by omega) (by omega) rfl rfl rfl fun σ H => (.assign (v := (vb false)) rfl rfl (.nila H fun H => (.then ?_)))))
 refine .Z0 17 rfl H fun b2 σ H => (.Z2 (off := 0) (fo := 2) H 0 rfl rfl rfl rfl rfl nofun rfl (.ZS (off := 2) (v := (vb r'.HasLow)) H 0 rfl rfl rfl rfl rfl nofun rfl (.move (v := (vb r'.HasLow)) rfl rfl ?_)))
 refine .mid 4 (K1 := fun e σ => Z5 e [(9, (vb (r'.HasLow || (r'.Low == 0)))), (1, (.ptr (b1 + 0) 4 0))] ∧ Has σ (b2 + 7) (b2 + 17) [.blk (b1 + 0) 45 [(vi r'.Low), (vi r'.High), (vb r'.HasLow), (vb r'.HasHigh)]]) rfl ?_ ?_
 ·refine .split rfl rfl ?_ ?_ <;> intro hc1
  ·skip
   refine .pass rfl rfl rfl (.pass rfl rfl rfl (.pass rfl rfl rfl (.ZZ (v := (vb true)) rfl rfl rfl (.nil ?_))))
   exact ⟨⟨or_T hc1, rfl, trivial⟩, H.weak (by omega) (Nat.le_refl _)⟩
  ·skip
   refine .wanted rfl rfl (.Z2 (off := 0) (fo := 0) H 0 rfl rfl rfl rfl rfl nofun rfl (.wanted rfl rfl (.ZS (off := 0) (v := (vi r'.Low)) H 0 rfl rfl rfl rfl rfl nofun rfl (.wanted rfl rfl (.int (m := r'.Low) (m' := 0) (r := .bool (r'.Low == 0)) rfl rfl rfl rfl rfl ?_)))))
   refine .Zb (v := (vb (r'.Low == 0))) rfl rfl rfl (.nil ?_)
   exact ⟨⟨or_F hc1, rfl, trivial⟩, H.weak (by omega) (Nat.le_refl _)⟩
 ·rintro e σ ⟨he, H⟩
  obtain ⟨e, rfl⟩ := he.ex
  refine .move (v := (vb (r'.HasLow || (r'.Low == 0)))) rfl rfl ?_
  refine .mid 8 (K1 := fun e σ => Z5 e [(18, (vb ((r'.HasLow || (r'.Low == 0)) && (r'.HasHigh || (r'.High == 0)))))] ∧ Has σ (b2 + 16) (b2 + 17) []) rfl ?_ ?_
  ·refine .split rfl rfl ?_ ?_ <;> intro hc2
   ·skip
    refine .wanted rfl rfl (.Z2 (off := 0) (fo := 3) H 0 rfl rfl rfl rfl rfl nofun rfl (.wanted rfl rfl (.ZS (off := 3) (v := (vb r'.HasHigh)) H 0 rfl rfl rfl rfl rfl nofun rfl (.wanted rfl rfl (.move (v := (vb r'.HasHigh)) rfl rfl ?_)))))
    refine .mid 4 (K1 := fun e σ => Z5 e [(17, (vb (r'.HasHigh || (r'.High == 0)))), (10, (vb true))] ∧ Has σ (b2 + 15) (b2 + 17) []) rfl ?_ ?_
    ·refine .split rfl rfl ?_ ?_ <;> intro hc3
     ·skip
      refine .pass rfl rfl rfl (.pass rfl rfl rfl (.pass rfl rfl rfl (.wanted rfl rfl (.ZZ (v := (vb true)) rfl rfl rfl (.nil ?_)))))
      exact ⟨⟨or_T hc3, rfl, trivial⟩, (H.erase 0).weak (by omega) (Nat.le_refl _)⟩
     ·skip
      refine .wanted rfl rfl (.Z2 (off := 0) (fo := 1) H 0 rfl rfl rfl rfl rfl nofun rfl (.wanted rfl rfl (.ZS (off := 1) (v := (vi r'.High)) H 0 rfl rfl rfl rfl rfl nofun rfl (.wanted rfl rfl (.int (m := r'.High) (m' := 0) (r := .bool (r'.High == 0)) rfl rfl rfl rfl rfl ?_)))))
      refine .wanted rfl rfl (.Zb (v := (vb (r'.High == 0))) rfl rfl rfl (.nil ?_))
      exact ⟨⟨or_F hc3, rfl, trivial⟩, (H.erase 0).weak (by omega) (Nat.le_refl _)⟩
    ·rintro e σ ⟨he, H⟩
     obtain ⟨e, rfl⟩ := he.ex
     refine .ZZ (v := (vb (r'.HasHigh || (r'.High == 0)))) rfl rfl rfl (.nil ?_)
     exact ⟨⟨Z0p hc2, trivial⟩, H.weak (by omega) (Nat.le_refl _)⟩
   ·skip
    refine .pass rfl rfl rfl (.pass rfl rfl rfl (.pass rfl rfl rfl (.Z00 rfl rfl rfl (.Z00 rfl rfl rfl (.Z00 rfl rfl rfl ?_)))))
    refine .pass rfl rfl rfl (.Zb (v := (vb false)) rfl rfl rfl (.nil ?_))
    exact ⟨⟨Z0o hc2, trivial⟩, (H.erase 0).weak (by omega) (Nat.le_refl _)⟩
  ·rintro e σ ⟨he, H⟩
   obtain ⟨e, rfl⟩ := he.ex
   refine .assign (v := (vb ((r'.HasLow || (r'.Low == 0)) && (r'.HasHigh || (r'.High == 0))))) rfl rfl (.nila H fun H => (.ret ?_))
   subst h
   exact (Ends.H (xs := [(vb ((r'.HasLow || (r'.Low == 0)) && (r'.HasHigh || (r'.High == 0))))]) (.inr rfl) H (.tmp (v := (vb ((r'.HasLow || (r'.Low == 0)) && (r'.HasHigh || (r'.High == 0))))) rfl .nil) (.one (.c (.v _))))

theorem tag_right_fn {n : Net} {c : Con} {r : Bool} (h : Z2B n c = r) : Fn CX 34 [(.agg (vs (Net.cs n))), (.agg (vs (Con.cs c)))] (vb r) := by
 refine Fn.ends Try.func34 rfl rfl rfl rfl rfl rfl ?_
 have H : Hs (⟨0, fun _ => .none⟩ : Heap) [] := Has.nil (Nat.le_refl _)
 generalize (⟨0, fun _ => .none⟩ : Heap) = σ at H ⊢
 unfold Z2B at h
 refine .then (.Z0 3 rfl H fun b1 σ H => (.boxH (cs := [(vi n.Vars), (vl Form.cs n.Forms), (vl Con.cs n.Cons)]) H (by omega) (by omega) rfl rfl rfl fun σ H => (.boxH (cs := [(vi c.X), (vi c.Y), (vi c.Form), (vi c.Range.Low), (vi c.Range.High), (vb c.Range.HasLow), (vb c.Range.HasHigh)]) H (by omega) (by omega) rfl rfl rfl fun σ H => (.assign (v := (vb false)) rfl rfl (.nila H fun H => ?_)))))
 refine .then (.Z0 26 rfl H fun b2 σ H => (.Z2 (off := 0) (fo := 0) H 0 rfl rfl rfl rfl rfl nofun rfl (.ZS (off := 0) (v := (vi c.X)) H 0 rfl rfl rfl rfl rfl nofun rfl (.Z2 (off := 0) (fo := 0) H 1 rfl rfl rfl rfl rfl nofun rfl (.ZS (off := 0) (v := (vi n.Vars)) H 1 rfl rfl rfl rfl rfl nofun rfl ?_)))))
 refine .call (ys := [(vi c.X), (vi n.Vars)]) (r := (vb (ZP c.X n.Vars))) rfl (Z3e rfl) rfl (.move (v := (vb (ZP c.X n.Vars))) rfl rfl ?_)
 refine .mid 6 (K1 := fun e σ => Z5 e [(16, (vb ((ZP c.X n.Vars) && (ZP c.Y n.Vars)))), (2, (.ptr (b1 + 0) 3 0)), (3, (.ptr (b1 + 1) 7 0))] ∧ Has σ (b2 + 12) (b2 + 26) [.blk (b1 + 1) 48 [(vi c.X), (vi c.Y), (vi c.Form), (vi c.Range.Low), (vi c.Range.High), (vb c.Range.HasLow), (vb c.Range.HasHigh)], .blk (b1 + 0) 36 [(vi n.Vars), (vl Form.cs n.Forms), (vl Con.cs n.Cons)]]) rfl ?_ ?_
 ·refine .split rfl rfl ?_ ?_ <;> intro hc1
  ·skip
   refine .wanted rfl rfl (.Z2 (off := 0) (fo := 1) H 0 rfl rfl rfl rfl rfl nofun rfl (.wanted rfl rfl (.ZS (off := 1) (v := (vi c.Y)) H 0 rfl rfl rfl rfl rfl nofun rfl (.wanted rfl rfl (.Z2 (off := 0) (fo := 0) H 1 rfl rfl rfl rfl rfl nofun rfl ?_)))))
   refine .wanted rfl rfl (.ZS (off := 0) (v := (vi n.Vars)) H 1 rfl rfl rfl rfl rfl nofun rfl (.wanted rfl rfl (.call (ys := [(vi c.Y), (vi n.Vars)]) (r := (vb (ZP c.Y n.Vars))) rfl (Z3e rfl) rfl (.ZZ (v := (vb (ZP c.Y n.Vars))) rfl rfl rfl (.nil ?_)))))
   exact ⟨⟨Z0p hc1, rfl, rfl, trivial⟩, H.weak (by omega) (Nat.le_refl _)⟩
  ·skip
   refine .pass rfl rfl rfl (.pass rfl rfl rfl (.pass rfl rfl rfl (.pass rfl rfl rfl (.pass rfl rfl rfl (.Zb (v := (vb false)) rfl rfl rfl ?_)))))
   refine .nil ?_
   exact ⟨⟨Z0o hc1, rfl, rfl, trivial⟩, H.weak (by omega) (Nat.le_refl _)⟩
 ·rintro e σ ⟨he, H⟩
  obtain ⟨e, rfl⟩ := he.ex
  refine .move (v := (vb ((ZP c.X n.Vars) && (ZP c.Y n.Vars)))) rfl rfl ?_
  refine .mid 7 (K1 := fun e σ => Z5 e [(24, (vb (((ZP c.X n.Vars) && (ZP c.Y n.Vars)) && (ZP c.Form (n.Forms.length : Int))))), (3, (.ptr (b1 + 1) 7 0))] ∧ Has σ (b2 + 20) (b2 + 26) [.blk (b1 + 1) 48 [(vi c.X), (vi c.Y), (vi c.Form), (vi c.Range.Low), (vi c.Range.High), (vb c.Range.HasLow), (vb c.Range.HasHigh)]]) rfl ?_ ?_
  ·refine .split rfl rfl ?_ ?_ <;> intro hc2
   ·skip
    refine .wanted rfl rfl (.Z2 (off := 0) (fo := 2) H 0 rfl rfl rfl rfl rfl nofun rfl (.wanted rfl rfl (.ZS (off := 2) (v := (vi c.Form)) H 0 rfl rfl rfl rfl rfl nofun rfl (.wanted rfl rfl (.Z2 (off := 0) (fo := 1) H 1 rfl rfl rfl rfl rfl nofun rfl ?_)))))
    refine .wanted rfl rfl (.ZS (off := 1) (v := (vl Form.cs n.Forms)) H 1 rfl rfl rfl rfl rfl nofun rfl (.wanted rfl rfl (.Z0O (c := Form.cs) (xs := n.Forms) rfl rfl rfl (.wanted rfl rfl (.call (ys := [(vi c.Form), (vi (n.Forms.length : Int))]) (r := (vb (ZP c.Form (n.Forms.length : Int)))) rfl (Z3e rfl) rfl ?_)))))
    refine .ZZ (v := (vb (ZP c.Form (n.Forms.length : Int)))) rfl rfl rfl (.nil ?_)
    exact ⟨⟨Z0p hc2, rfl, trivial⟩, (H.erase 1).weak (by omega) (Nat.le_refl _)⟩
   ·skip
    refine .pass rfl rfl rfl (.pass rfl rfl rfl (.pass rfl rfl rfl (.pass rfl rfl rfl (.pass rfl rfl rfl (.pass rfl rfl rfl ?_)))))
    refine .Zb (v := (vb false)) rfl rfl rfl (.nil ?_)
    exact ⟨⟨Z0o hc2, rfl, trivial⟩, (H.erase 1).weak (by omega) (Nat.le_refl _)⟩
  ·rintro e σ ⟨he, H⟩
   obtain ⟨e, rfl⟩ := he.ex
   refine .move (v := (vb (((ZP c.X n.Vars) && (ZP c.Y n.Vars)) && (ZP c.Form (n.Forms.length : Int))))) rfl rfl ?_
   refine .mid 4 (K1 := fun e σ => Z5 e [(29, (vb ((((ZP c.X n.Vars) && (ZP c.Y n.Vars)) && (ZP c.Form (n.Forms.length : Int))) && (Z1E c.Range))))] ∧ Has σ (b2 + 25) (b2 + 26) []) rfl ?_ ?_
   ·refine .split rfl rfl ?_ ?_ <;> intro hc3
    ·skip
     refine .wanted rfl rfl (.Z2 (off := 0) (fo := 3) H 0 rfl rfl rfl rfl rfl nofun rfl (.wanted rfl rfl (.ZY (off := 3) (cs := [(vi c.Range.Low), (vi c.Range.High), (vb c.Range.HasLow), (vb c.Range.HasHigh)]) H 0 rfl rfl rfl rfl rfl rfl rfl nofun rfl (.wanted rfl rfl (.call (ys := [(.agg [(vi c.Range.Low), (vi c.Range.High), (vb c.Range.HasLow), (vb c.Range.HasHigh)])]) (r := (vb (Z1E c.Range))) rfl (tag_scoped_fn (rfl : Z1E c.Range = _)) rfl ?_)))))
     refine .ZZ (v := (vb (Z1E c.Range))) rfl rfl rfl (.nil ?_)
     exact ⟨⟨Z0p hc3, trivial⟩, (H.erase 0).weak (by omega) (Nat.le_refl _)⟩
    ·skip
     refine .pass rfl rfl rfl (.pass rfl rfl rfl (.pass rfl rfl rfl (.Zb (v := (vb false)) rfl rfl rfl (.nil ?_))))
     exact ⟨⟨Z0o hc3, trivial⟩, (H.erase 0).weak (by omega) (Nat.le_refl _)⟩
   ·rintro e σ ⟨he, H⟩
    obtain ⟨e, rfl⟩ := he.ex
    refine .assign (v := (vb ((((ZP c.X n.Vars) && (ZP c.Y n.Vars)) && (ZP c.Form (n.Forms.length : Int))) && (Z1E c.Range)))) rfl rfl (.nila H fun H => (.ret ?_))
    subst h
    exact (Ends.H (xs := [(vb ((((ZP c.X n.Vars) && (ZP c.Y n.Vars)) && (ZP c.Form (n.Forms.length : Int))) && (Z1E c.Range)))]) (.inr rfl) H (.tmp (v := (vb ((((ZP c.X n.Vars) && (ZP c.Y n.Vars)) && (ZP c.Form (n.Forms.length : Int))) && (Z1E c.Range)))) rfl .nil) (.one (.c (.v _))))

theorem Z87 {c : Con} {p1' : Net} {id0' : Nat} {r : Bool} (h : Z4F c p1' = r) : FnH CX 33 [(.agg (vs (Con.cs c))), (.ptr id0' 3 0)] (vb r) [.blk id0' 36 [(vi p1'.Vars), (vl Form.cs p1'.Forms), (vl Con.cs p1'.Cons)]] := by
 refine FnH.of Try.func33 rfl rfl rfl rfl rfl rfl (fun h => by have := Z2q h 1 rfl; cases this) ?_
 intro σ L hC H
 have hC0 := hC
 obtain ⟨k0', hk0', hC⟩ := hC.inv
 unfold Z4F at h
 refine .then (.Z0 2 rfl H fun b1 σ H => (.boxH (cs := [(vi c.X), (vi c.Y), (vi c.Form), (vi c.Range.Low), (vi c.Range.High), (vb c.Range.HasLow), (vb c.Range.HasHigh)]) H (by omega) (by omega) rfl rfl rfl fun σ H => (.assign (v := (vb false)) rfl rfl (.nila H fun H => (.then ?_)))))
 refine .Z0 5 rfl H fun b2 σ H => (.ZY (off := 0) (cs := [(vi p1'.Vars), (vl Form.cs p1'.Forms), (vl Con.cs p1'.Cons)]) H (k0' + 1) hk0' rfl rfl rfl rfl rfl rfl nofun rfl (.ZY (off := 0) (cs := [(vi c.X), (vi c.Y), (vi c.Form), (vi c.Range.Low), (vi c.Range.High), (vb c.Range.HasLow), (vb c.Range.HasHigh)]) H 0 rfl rfl rfl rfl rfl rfl rfl nofun rfl (.call (ys := [(.agg [(vi p1'.Vars), (vl Form.cs p1'.Forms), (vl Con.cs p1'.Cons)]), (.agg [(vi c.X), (vi c.Y), (vi c.Form), (vi c.Range.Low), (vi c.Range.High), (vb c.Range.HasLow), (vb c.Range.HasHigh)])]) (r := (vb (Z2B p1' c))) rfl (tag_right_fn (rfl : Z2B p1' c = _)) rfl (.not (b := (Z2B p1' c)) rfl rfl (.assign (v := (vb (!(Z2B p1' c)))) rfl rfl ?_)))))
 refine .nila H fun H => (.ret ?_)
 subst h
 exact (EndsH.H (xs := [(vb (!(Z2B p1' c)))]) (.inr rfl) H (.tmp (v := (vb (!(Z2B p1' c)))) rfl .nil) (.one (.c (.v _))) 1 rfl)

theorem tag_Right_fn {n : Net} {r : Int} (h : Z4e n = some r) : Fn CX 21 [(.agg (vs (Net.cs n)))] (vi r) := by
 refine Fn.ends Try.func21 rfl rfl rfl rfl rfl rfl ?_
 have H : Hs (⟨0, fun _ => .none⟩ : Heap) [] := Has.nil (Nat.le_refl _)
 generalize (⟨0, fun _ => .none⟩ : Heap) = σ at H ⊢
 unfold Z4e at h
 refine .then (.Z0 2 rfl H fun b1 σ H => (.boxH (cs := [(vi n.Vars), (vl Form.cs n.Forms), (vl Con.cs n.Cons)]) H (by omega) (by omega) rfl rfl rfl fun σ H => (.assign (v := (vi 0)) rfl rfl (.nila H fun H => (.then ?_)))))
 refine .Z0 2 rfl H fun b2 σ H => (.makeClo (fs := []) (cs := [(.ptr (b1 + 0) 3 0)]) rfl rfl rfl rfl (.assign (v := (.clo 33 [] [(.ptr (b1 + 0) 3 0)])) rfl rfl (.nila H fun H => (.then (.Z0 1 rfl H fun b3 σ H => ?_)))))
 refine .assign (v := (.v (.fn 35))) rfl rfl (.nila H fun H => (.then ?_))
 obtain ⟨y1, hj1, h⟩ := bind_some h
 refine .mono (Q := fun x e σ => (∃ a1, y1 = (.go a1) ∧ x = .normal ∧ Z5 e [] ∧ Hs σ []) ∨ (∃ r', y1 = (.ret r') ∧ x = .ret ∧ Ends CX Try.f21.results.toList (vi r') x e σ)) ?_ ?_
 ·replace h := hj1
  refine .inBlock ?_
  obtain ⟨y2, hj2, h⟩ := bind_some h
  refine .mono (Q := fun x e σ => (∃ a2, y2 = (.go a2) ∧ x = .normal ∧ Z5 e [] ∧ Hs σ []) ∨ (∃ r', y2 = (.ret r') ∧ x = .ret ∧ Ends CX Try.f21.results.toList (vi r') x e σ)) ?_ ?_
  ·replace h := hj2
   refine .then ?_
   obtain ⟨y3, hj3, h⟩ := bind_some h
   refine .mono (Q := fun x e σ => x = .normal ∧ Z5 e [(1, (.ptr (b1 + 0) 3 0)), (3, (.clo 33 [] [(.ptr (b1 + 0) 3 0)])), (4, (.v (.fn 35))), (6, (vb y3))] ∧ Hs σ [.blk (b1 + 0) 36 [(vi n.Vars), (vl Form.cs n.Forms), (vl Con.cs n.Cons)]]) ?_ ?_
   ·replace h := hj3
    refine .then (.Z0 5 rfl H fun b4 σ H => (.Z2 (off := 0) (fo := 0) H 0 rfl rfl rfl rfl rfl nofun rfl (.ZS (off := 0) (v := (vi n.Vars)) H 0 rfl rfl rfl rfl rfl nofun rfl (.call (ys := [(vi n.Vars), (vi 25)]) (r := (vb (ZP n.Vars 25))) rfl (Z3e rfl) rfl (.not (b := (ZP n.Vars 25)) rfl rfl ?_)))))
    refine .assign (v := (vb (!(ZP n.Vars 25)))) rfl rfl (.nila H fun H => ?_)
    refine .whether (v := (!(ZP n.Vars 25))) rfl ?_ ?_ <;> intro hc1
    ·replace h := Z8 hc1 h
     refine .skip ?_
     replace h := sj h; subst h
     exact ⟨rfl, ⟨rfl, rfl, rfl, rfl, trivial⟩, H⟩
    ·replace h := Z9 hc1 h
     refine .then (.Z0 5 rfl H fun b5 σ H => (.Z2 (off := 0) (fo := 1) H 0 rfl rfl rfl rfl rfl nofun rfl (.ZS (off := 1) (v := (vl Form.cs n.Forms)) H 0 rfl rfl rfl rfl rfl nofun rfl (.Z0O (c := Form.cs) (xs := n.Forms) rfl rfl rfl (.int (m := (n.Forms.length : Int)) (m' := 20) (r := .bool (decide ((n.Forms.length : Int) > 20))) rfl rfl rfl rfl rfl ?_)))))
     refine .assign (v := (vb (decide ((n.Forms.length : Int) > 20)))) rfl rfl (.nila H fun H => ?_)
     refine .whether (v := (decide ((n.Forms.length : Int) > 20))) rfl ?_ ?_ <;> intro hc2
     ·replace h := Z8 hc2 h
      refine .skip ?_
      replace h := sj h; subst h
      exact ⟨rfl, ⟨rfl, rfl, rfl, rfl, trivial⟩, H⟩
     ·replace h := Z9 hc2 h
      refine .Z0 5 rfl H fun b6 σ H => (.Z2 (off := 0) (fo := 2) H 0 rfl rfl rfl rfl rfl nofun rfl (.ZS (off := 2) (v := (vl Con.cs n.Cons)) H 0 rfl rfl rfl rfl rfl nofun rfl (.Z0O (c := Con.cs) (xs := n.Cons) rfl rfl rfl (.int (m := (n.Cons.length : Int)) (m' := 200) (r := .bool (decide ((n.Cons.length : Int) > 200))) rfl rfl rfl rfl rfl (.assign (v := (vb (decide ((n.Cons.length : Int) > 200)))) rfl rfl ?_)))))
      refine .nila H fun H => ?_
      replace h := sj h; subst h
      exact ⟨rfl, ⟨rfl, rfl, rfl, rfl, trivial⟩, H⟩
   ·rintro x e σ ⟨rfl, he, H⟩
    obtain ⟨e, rfl⟩ := he.ex
    refine .whether (v := y3) rfl ?_ ?_ <;> intro hc3
    ·replace h := Z8 hc3 h
     refine .then (.Z0 1 rfl H fun b7 σ H => (.assign (v := (vi 230)) rfl rfl (.nila H fun H => (.ret ?_))))
     replace h := sj h; subst h
     exact (.inr ⟨_, rfl, rfl, (Ends.H (xs := [(vi 230)]) (.inr rfl) H (.tmp (v := (vi 230)) rfl .nil) (.one (.c (.v _))))⟩)
    ·replace h := Z9 hc3 h
     refine .then ?_
     obtain ⟨y4, hj4, h⟩ := bind_some h
     refine .mono (Q := fun x e σ => x = .normal ∧ Z5 e [(19, (vb y4))] ∧ Hs σ []) ?_ ?_
     ·replace h := hj4
      refine .then (.Z0 5 rfl H fun b8 σ H => (.Z2 (off := 0) (fo := 1) H 0 rfl rfl rfl rfl rfl nofun rfl (.ZS (off := 1) (v := (vl Form.cs n.Forms)) H 0 rfl rfl rfl rfl rfl nofun rfl (.move (v := (.v (.fn 35))) rfl rfl ?_))))
      obtain ⟨x1, q1, h⟩ := bind_some h
      refine .Z66 (ys := [(vl Form.cs n.Forms), (.v (.fn 35))]) (r := (vb x1)) H rfl (Z2h (C := []) rfl (fun _ => rfl) (fun z0 y hz => (CloH.fn (Fn.toH (Z8H hz) _))) q1) .nil nofun rfl fun σ H => (.assign (v := (vb x1)) rfl rfl (.nila H fun H => ?_))
      refine .whether (v := x1) rfl ?_ ?_ <;> intro hc4
      ·replace h := Z8 hc4 h
       refine .skip ?_
       replace h := sj h; subst h
       exact ⟨rfl, ⟨rfl, trivial⟩, (H.erase 0)⟩
      ·replace h := Z9 hc4 h
       refine .Z0 5 rfl H fun b9 σ H => (.Z2 (off := 0) (fo := 2) H 0 rfl rfl rfl rfl rfl nofun rfl (.ZS (off := 2) (v := (vl Con.cs n.Cons)) H 0 rfl rfl rfl rfl rfl nofun rfl (.move (v := (.clo 33 [] [(.ptr (b1 + 0) 3 0)])) rfl rfl ?_)))
       obtain ⟨x2, q2, h⟩ := bind_some h
       refine .Z66 (ys := [(vl Con.cs n.Cons), (.clo 33 [] [(.ptr (b1 + 0) 3 0)])]) (r := (vb x2)) H rfl (Z2v (C := [.blk (b1 + 0) 36 [(vi n.Vars), (vl Form.cs n.Forms), (vl Con.cs n.Cons)]]) rfl (fun h => by simp [PV.pure] at h) (fun z0 y hz => (CloH.clo (Z87 (Option.some.inj hz)))) q2) (.cons 0 rfl .nil) nofun rfl fun σ H => (.assign (v := (vb x2)) rfl rfl (.nila H fun H => ?_))
       replace h := sj h; subst h
       exact ⟨rfl, ⟨rfl, trivial⟩, (H.erase 0)⟩
     ·rintro x e σ ⟨rfl, he, H⟩
      obtain ⟨e, rfl⟩ := he.ex
      refine .whether (v := y4) rfl ?_ ?_ <;> intro hc5
      ·replace h := Z8 hc5 h
       refine .then (.Z0 1 rfl H fun b10 σ H => (.assign (v := (vi 230)) rfl rfl (.nila H fun H => (.ret ?_))))
       replace h := sj h; subst h
       exact (.inr ⟨_, rfl, rfl, (Ends.H (xs := [(vi 230)]) (.inr rfl) H (.tmp (v := (vi 230)) rfl .nil) (.one (.c (.v _))))⟩)
      ·replace h := Z9 hc5 h
       refine .skip ?_
       replace h := sj h; subst h
       exact (.inl ⟨_, rfl, rfl, trivial, H⟩)
  ·rintro x e σ (⟨a3, rfl, rfl, he, H⟩ | ⟨r', rfl, rfl, hE⟩)
   ·skip
    replace h := jgo h
    obtain ⟨e, rfl⟩ := he.ex
    replace h := sj h; subst h
    exact (.inl ⟨_, rfl, rfl, trivial, H⟩)
   ·skip
    replace h := jret h
    replace h := sj h; subst h
    exact (.inr ⟨_, rfl, rfl, hE⟩)
 ·rintro x e σ (⟨a4, rfl, rfl, he, H⟩ | ⟨r', rfl, rfl, hE⟩)
  ·skip
   replace h := jgo h
   obtain ⟨e, rfl⟩ := he.ex
   refine .then (.Z0 1 rfl H fun b11 σ H => (.assign (v := (vi 0)) rfl rfl (.nila H fun H => (.ret ?_))))
   replace h := sj h; subst h
   exact (Ends.H (xs := [(vi 0)]) (.inr rfl) H (.tmp (v := (vi 0)) rfl .nil) (.one (.c (.v _))))
  ·skip
   replace h := jret h
   replace h := sj h; subst h
   exact hE

end Go.Dn

namespace Go.Dn
open Go Go.Proofs
set_option maxRecDepth 100000
set_option maxHeartbeats 4000000

theorem tag_Holds_fn {n : Net} {ticks : (List Int)} {r : Bool} (h : Z1k n ticks = some r) : Fn CX 13 [(.agg (vs (Net.cs n))), (vl (cI .i64) ticks)] (vb r) := by
 refine Fn.ends Try.func13 rfl rfl rfl rfl rfl rfl ?_
 have H : Hs (⟨0, fun _ => .none⟩ : Heap) [] := Has.nil (Nat.le_refl _)
 generalize (⟨0, fun _ => .none⟩ : Heap) = σ at H ⊢
 unfold Z1k at h
 refine .then (.Z0 2 rfl H fun b1 σ H => (.boxH (cs := [(vi n.Vars), (vl Form.cs n.Forms), (vl Con.cs n.Cons)]) H (by omega) (by omega) rfl rfl rfl fun σ H => (.Z1b (cs := [(vb false)]) H (by omega) (by omega) rfl rfl fun σ H => (.nila H fun H => (.then ?_)))))
 refine .then (.Z0 4 rfl H fun b2 σ H => (.ZY (off := 0) (cs := [(vi n.Vars), (vl Form.cs n.Forms), (vl Con.cs n.Cons)]) H 1 rfl rfl rfl rfl rfl rfl rfl nofun rfl (.move (v := (vl (cI .i64) ticks)) rfl rfl ?_)))
 obtain ⟨x1, q1, h⟩ := bind_some h
 refine .call (ys := [(.agg [(vi n.Vars), (vl Form.cs n.Forms), (vl Con.cs n.Cons)]), (vl (cI .i64) ticks)]) (r := (vb x1)) rfl (Z8W q1) rfl (.not (b := x1) rfl rfl (.nila H fun H => ?_))
 refine .whether (v := (!x1)) rfl ?_ ?_ <;> intro hc1
 ·replace h := Z8 hc1 h
  refine .then (.Z0 1 rfl H fun b3 σ H => (.Z11 (off := 0) (cells' := [(vb false)]) H 0 rfl rfl rfl rfl rfl rfl rfl rfl rfl nofun fun σ H => (.nila H fun H => (.ret ?_))))
  replace h := sj h; subst h
  exact (Ends.H (xs := [(vb false)]) (.inr rfl) H (.cell (v := (vb false)) (off := 0) 0 rfl rfl rfl rfl rfl .nil) (.one (.c (.v _))))
 ·replace h := Z9 hc1 h
  refine .skip (.then (.then (.Z0 3 rfl H fun b4 σ H => (.ZY (off := 0) (cs := [(vi n.Vars), (vl Form.cs n.Forms), (vl Con.cs n.Cons)]) H 1 rfl rfl rfl rfl rfl rfl rfl nofun rfl (.move (v := (vl (cI .i64) ticks)) rfl rfl ?_)))))
  refine .callO (ys := [(.agg (vs (Net.cs n))), (vl (cI .i64) ticks)]) rfl (Z5U H) nofun rfl ?_; rintro _ σ ⟨id1, id2, rfl, H⟩
  refine .nila H fun H => (.inBlock ?_)
  replace H := (H.erase 3)
  obtain ⟨y1, hj1, h⟩ := bind_some h
  refine .rangeH H rfl (fun s1 M => M = [.blk id1 37 [(vl (cI .i64) ticks)], .blk id2 36 [(vi n.Vars), (vl Form.cs n.Forms), (vl Con.cs n.Cons)], .blk (b1 + 1) 4 [(vb false)]]) (fun z1 => [(vi z1)]) Z1k.b0 (fun p => if p = 0 then none else some .ret) rfl (fun p => by (repeat' split) <;> exact ⟨_, rfl⟩) (r := y1) rfl (fun _ => rfl) (fun _ => rfl) ?_ (fun id hy => Z4a hy (fun s L hL => by obtain ⟨M, hM, rfl⟩ := hL; obtain rfl := hM; exact (.cons 2 rfl (.cons 1 rfl .nil))) hj1) ?_
  ·intro R0 R1 s1 z1 s' p h σ M O hM H
   obtain rfl := hM
   unfold Z1k.b0 at h
   refine .env [(12, (vi z1)), (4, (.ptr (b1 + 1) 1 0)), (11, (.clo 44 [] [(.ptr id2 3 0), (.ptr id1 1 0)]))] ⟨rfl, rfl, rfl, trivial⟩ fun e => (.skip ?_)
   refine ⟨rfl, [.blk id1 37 [(vl (cI .i64) ticks)], .blk id2 36 [(vi n.Vars), (vl Form.cs n.Forms), (vl Con.cs n.Cons)], .blk (b1 + 1) 4 [(vb false)]], H, ?_⟩; intro σ H
   refine .inBlock (.then (.Z0 1 rfl H fun b5 σ H => (.Z11 (off := 0) (cells' := [(vb false)]) H 3 rfl rfl rfl rfl rfl rfl rfl rfl rfl nofun fun σ H => (.nila H fun H => (.ret ?_)))))
   obtain ⟨rfl, rfl⟩ := Prod.mk.inj (Option.some.inj h)
   exact ⟨⟨rfl, (iff_of_false nofun nofun)⟩, _, rfl, H⟩
  ·intro x σ M hx hM H
   obtain rfl := hM
   cases hc0_ : (y1.2 == 0)
   ·replace h := Z9 hc0_ h
    have hx : x = .ret := by simpa [ne_of_beq_false hc0_, Z5A] using hx.symm
    subst hx
    replace h := sj h; subst h
    exact (Ends.H (xs := [(vb false)]) (.inr rfl) H (.cell (v := (vb false)) (off := 0) 2 rfl rfl rfl rfl rfl .nil) (.one (.c (.v _))))
   ·replace h := Z8 hc0_ h
    have hx : x = .normal := by rw [eq_of_beq hc0_] at hx; exact (Option.some.inj hx).symm
    subst hx
    refine .then (.Z0 1 rfl H fun b6 σ H => (.Z11 (off := 0) (cells' := [(vb true)]) H 2 rfl rfl rfl rfl rfl rfl rfl rfl rfl nofun fun σ H => (.nila H fun H => (.ret ?_))))
    replace h := sj h; subst h
    exact (Ends.H (xs := [(vb true)]) (.inr rfl) H (.cell (v := (vb true)) (off := 0) 2 rfl rfl rfl rfl rfl .nil) (.one (.c (.v _))))

theorem Z3t {a : (List Int)} {b : (List Int)} {r : Bool} (h : Z0J a b = some r) : Fn CX 12 [(vl (cI .i64) a), (vl (cI .i64) b)] (vb r) := by
 refine Fn.ends Try.func12 rfl rfl rfl rfl rfl rfl ?_
 have H : Hs (⟨0, fun _ => .none⟩ : Heap) [] := Has.nil (Nat.le_refl _)
 generalize (⟨0, fun _ => .none⟩ : Heap) = σ at H ⊢
 unfold Z0J at h
 refine .then (.Z0 1 rfl H fun b1 σ H => (.assign (v := (vb false)) rfl rfl (.nila H fun H => (.then (.then ?_)))))
 refine .Z0 5 rfl H fun b2 σ H => (.move (v := (vl (cI .i64) a)) rfl rfl (.Z0O (c := (cI .i64)) (xs := a) rfl rfl rfl (.move (v := (vl (cI .i64) b)) rfl rfl (.Z0O (c := (cI .i64)) (xs := b) rfl rfl rfl (.int (m := (a.length : Int)) (m' := (b.length : Int)) (r := .bool ((a.length : Int) != (b.length : Int))) rfl rfl rfl rfl rfl ?_)))))
 refine .nila H fun H => ?_
 refine .whether (v := ((a.length : Int) != (b.length : Int))) rfl ?_ ?_ <;> intro hc1
 ·replace h := Z8 hc1 h
  refine .then (.Z0 1 rfl H fun b3 σ H => (.assign (v := (vb false)) rfl rfl (.nila H fun H => (.ret ?_))))
  replace h := sj h; subst h
  exact (Ends.H (xs := [(vb false)]) (.inr rfl) H (.tmp (v := (vb false)) rfl .nil) (.one (.c (.v _))))
 ·replace h := Z9 hc1 h
  refine .skip (.then (.then (.Z0 3 rfl H fun b4 σ H => (.move (v := (vl (cI .i64) a)) rfl rfl (.Z0O (c := (cI .i64)) (xs := a) rfl rfl rfl ?_)))))
  refine .move (v := (vi 0)) rfl rfl (.nila H fun H => (.inBlock ?_))
  obtain ⟨y1, hj1, h⟩ := bind_some h
  obtain ⟨n1, hj1⟩ := Zf.1 hj1
  refine .mono (Runs.ZM hj1 (fun s1 e σ => Z5 e [(0, (vl (cI .i64) a)), (1, (vl (cI .i64) b)), (12, (vi (a.length : Int))), (13, (vi s1))] ∧ Hs σ []) (fun y1 x e σ => (∃ a1, y1 = (.go a1) ∧ x = .exit 0 ∧ Z5 e [] ∧ Hs σ []) ∨ (∃ r', y1 = (.ret r') ∧ x = .ret ∧ Ends CX Try.f12.results.toList (vb r') x e σ)) ⟨⟨rfl, rfl, rfl, rfl, trivial⟩, H⟩ ?_) ?_
  ·intro s1 e σ hI z h
   obtain ⟨he, H⟩ := hI
   obtain ⟨e, rfl⟩ := he.ex
   unfold Z0J.s0 at h
   refine .then (.Z0 1 rfl H fun b5 σ H => (.int (m := s1) (m' := (a.length : Int)) (r := .bool (decide (s1 < (a.length : Int)))) rfl rfl rfl rfl rfl (.nila H fun H => (.then ?_))))
   refine .whether (v := (decide (s1 < (a.length : Int)))) rfl ?_ ?_ <;> intro hc2
   ·replace h := Z8 hc2 h
    refine .skip (.then (.inBlock (.then (.Z0 2 rfl H fun b6 σ H => (.move (v := (vi s1)) rfl rfl ?_)))))
    refine .assign (v := (vi s1)) rfl rfl (.nila H fun H => (.then (.Z4P 9 rfl (by kernel_rfl) H fun b7 σ H B7 => (.move (v := (vl (cI .i64) a)) rfl rfl (.move (v := (vi s1)) rfl rfl ?_)))))
    obtain ⟨x1, q1, h⟩ := bind_some h
    refine .Z0D (c := (cI .i64)) (u := x1) rfl rfl q1 rfl rfl rfl rfl (.Z2F (u := (.int .i64 x1)) rfl rfl rfl rfl (.move (v := (vl (cI .i64) b)) rfl rfl (.move (v := (vi s1)) rfl rfl ?_)))
    obtain ⟨x2, q2, h⟩ := bind_some h
    refine .Z0D (c := (cI .i64)) (u := x2) rfl rfl q2 rfl rfl rfl rfl (.Z2F (u := (.int .i64 x2)) rfl rfl rfl rfl (.int (m := x1) (m' := x2) (r := .bool (x1 != x2)) rfl rfl rfl rfl rfl (.nila H fun H => ?_)))
    refine .whether (v := (x1 != x2)) rfl ?_ ?_ <;> intro hc3
    ·replace h := Z8 hc3 h
     refine .then (.Z0 1 rfl H fun b8 σ H => (.assign (v := (vb false)) rfl rfl (.nila H fun H => (.ret ?_))))
     replace h := sj h; subst h
     exact ⟨nofun, (.inr ⟨_, rfl, rfl, (Ends.H (xs := [(vb false)]) (.inr rfl) H (.tmp (v := (vb false)) rfl .nil) (.one (.c (.v _))))⟩)⟩
    ·replace h := Z9 hc3 h
     refine .skip (.Z0 2 rfl H fun b9 σ H => (.int (m := s1) (m' := 1) (r := .int .i64 (w64 (s1 + 1))) rfl rfl rfl rfl rfl (.move (v := (vi (w64 (s1 + 1)))) rfl rfl (.nila H fun H => ?_))))
     replace h := sj h; subst h
     exact ⟨rfl, ⟨rfl, rfl, rfl, rfl, trivial⟩, H⟩
   ·replace h := Z9 hc2 h
    refine .exit ?_
    replace h := sj h; subst h
    exact ⟨nofun, (.inl ⟨_, rfl, rfl, trivial, H⟩)⟩
  ·rintro x e σ (⟨a2, rfl, rfl, he, H⟩ | ⟨r', rfl, rfl, hE⟩)
   ·skip
    replace h := jgo h
    obtain ⟨e, rfl⟩ := he.ex
    refine .then (.Z0 1 rfl H fun b10 σ H => (.assign (v := (vb true)) rfl rfl (.nila H fun H => (.ret ?_))))
    replace h := sj h; subst h
    exact (Ends.H (xs := [(vb true)]) (.inr rfl) H (.tmp (v := (vb true)) rfl .nil) (.one (.c (.v _))))
   ·skip
    replace h := jret h
    replace h := sj h; subst h
    exact hE

theorem Z5Z {r : Bool} (h : Z16 = some r) : Fn CX 8 [] (vb r) := by
 refine Fn.ends Try.func8 rfl rfl rfl rfl rfl rfl ?_
 have H : Hs (⟨0, fun _ => .none⟩ : Heap) [] := Has.nil (Nat.le_refl _)
 generalize (⟨0, fun _ => .none⟩ : Heap) = σ at H ⊢
 unfold Z16 at h
 refine .then (.Z0 1 rfl H fun b1 σ H => (.assign (v := (vb false)) rfl rfl (.nila H fun H => (.then (.Z0 3 rfl H fun b2 σ H => ?_)))))
 refine .call (ys := []) (r := (.agg (vF ZF))) rfl (Z5t rfl) rfl (.Z1b (cs := [(vi 0), (vi 0), .nils, .nils]) H (by omega) (by omega) rfl rfl fun σ H => (.Z11 (off := 0) (cells' := (vF ZF)) H 0 rfl rfl rfl rfl rfl rfl rfl rfl rfl nofun fun σ H => (.nila H fun H => (.then (.Z0 7 rfl H fun b3 σ H => ?_)))))
 refine .ZY (off := 0) (cs := (vF ZF)) H 0 rfl rfl rfl rfl rfl rfl rfl nofun rfl ?_
 obtain ⟨x1, q1, h⟩ := bind_some h
 refine .call (ys := [(.agg (vF ZF)), (vi 3), (vi 9)]) (r := (.tup [(vi x1.1), (vb x1.2)])) rfl (Z0V q1) rfl (.move (v := (.tup [(vi x1.1), (vb x1.2)])) rfl rfl (.extract (v := (vi x1.1)) rfl rfl rfl (.extract (v := (vb x1.2)) rfl rfl rfl (.assign (v := (vi x1.1)) rfl rfl (.assign (v := (vb x1.2)) rfl rfl ?_)))))
 refine .nila H fun H => (.then (.Z0 7 rfl H fun b4 σ H => (.ZY (off := 0) (cs := (vF ZF)) H 0 rfl rfl rfl rfl rfl rfl rfl nofun rfl ?_)))
 obtain ⟨x2, q2, h⟩ := bind_some h
 refine .call (ys := [(.agg (vF ZF)), (vi 3), (vi 5)]) (r := (.tup [(vi x2.1), (vb x2.2)])) rfl (Z0V q2) rfl (.move (v := (.tup [(vi x2.1), (vb x2.2)])) rfl rfl (.extract (v := (vi x2.1)) rfl rfl rfl (.extract (v := (vb x2.2)) rfl rfl rfl (.assign (v := (vi x2.1)) rfl rfl (.assign (v := (vb x2.2)) rfl rfl ?_)))))
 refine .nila H fun H => (.then (.Z0 8 rfl H fun b5 σ H => (.ZY (off := 0) (cs := (vF ZF)) H 0 rfl rfl rfl rfl rfl rfl rfl nofun rfl (.Z3u (sz := 4) ([ZF].map Form.cs) H (by omega) (by omega) rfl rfl rfl rfl rfl rfl rfl rfl rfl fun σ H => (.Z4V (cs := [(vi 1), (vi 2), (vb true), (vb true)]) rfl rfl ?_)))))
 refine .Z4V (cs := [(vi 0), (vi 1), (vi 0), (vi 1), (vi 2), (vb true), (vb true)]) rfl rfl (.Z3u (sz := 7) ([(Con.mk 0 1 0 (Range.mk 1 2 true true))].map Con.cs) H (by omega) (by omega) rfl rfl rfl rfl rfl rfl rfl rfl rfl fun σ H => (.Z4V (cs := [(vi 2), (.buf (b5 + 1) 1 4), (.buf (b5 + 4) 1 7)]) rfl rfl (.Z1b (cs := [(vi 0), .nils, .nils]) H (by omega) (by omega) rfl rfl fun σ H => (.Z11 (off := 0) (cells' := [(vi 2), (.buf (b5 + 1) 1 4), (.buf (b5 + 4) 1 7)]) H 0 rfl rfl rfl rfl rfl rfl rfl rfl rfl nofun fun σ H => (.nila H fun H => ?_)))))
 refine .then (.Z0 8 rfl H fun b6 σ H => (.ZY (off := 0) (cs := [(vi 2), (.buf (b5 + 1) 1 4), (.buf (b5 + 4) 1 7)]) H 0 rfl rfl rfl rfl rfl rfl rfl nofun rfl (.Z3u (sz := 1) ([3, 4].map (cI .i64)) H (by omega) (by omega) rfl rfl rfl rfl rfl rfl rfl rfl rfl fun σ H => ?_)))
 obtain ⟨x3, q3, h⟩ := bind_some h
 refine .callFOX (xs := [(.agg [(vi 2), (.buf (b5 + 1) 1 4), (.buf (b5 + 4) 1 7)]), (.buf (b6 + 1) 2 1)]) (ys := [(.agg (vs (Net.cs (Net.mk 2 [ZF] [(Con.mk 0 1 0 (Range.mk 1 2 true true))])))), (vl (cI .i64) [3, 4])]) H rfl (.cons (.a (.cons (.v _) (.cons (.s 3 rfl) (.cons (.s 2 rfl) .nil)))) (.cons (.c (.s 0 rfl)) .nil)) (Z6l q3) rfl rfl rfl rfl nofun rfl ?_; rintro _ _ σ ⟨w1, rfl, rfl⟩ H
 refine .move (v := (.tup [w1, (vi x3.2)])) rfl rfl (.extract (v := w1) rfl rfl rfl (.extract (v := (vi x3.2)) rfl rfl rfl (.assign (v := w1) rfl rfl (.assign (v := (vi x3.2)) rfl rfl (.nila H fun H => ?_)))))
 refine .then (.Z0 8 rfl H fun b7 σ H => (.ZY (off := 0) (cs := [(vi 2), (.buf (b5 + 1) 1 4), (.buf (b5 + 4) 1 7)]) H 2 rfl rfl rfl rfl rfl rfl rfl nofun rfl (.Z3u (sz := 1) ([3, 5].map (cI .i64)) H (by omega) (by omega) rfl rfl rfl rfl rfl rfl rfl rfl rfl fun σ H => ?_)))
 obtain ⟨x4, q4, h⟩ := bind_some h
 refine .callFOX (xs := [(.agg [(vi 2), (.buf (b5 + 1) 1 4), (.buf (b5 + 4) 1 7)]), (.buf (b7 + 1) 2 1)]) (ys := [(.agg (vs (Net.cs (Net.mk 2 [ZF] [(Con.mk 0 1 0 (Range.mk 1 2 true true))])))), (vl (cI .i64) [3, 5])]) H rfl (.cons (.a (.cons (.v _) (.cons (.s 5 rfl) (.cons (.s 4 rfl) .nil)))) (.cons (.c (.s 0 rfl)) .nil)) (Z6l q4) rfl rfl rfl rfl nofun rfl ?_; rintro _ _ σ ⟨w2, rfl, rfl⟩ H
 refine .move (v := (.tup [w2, (vi x4.2)])) rfl rfl (.extract (v := w2) rfl rfl rfl (.extract (v := (vi x4.2)) rfl rfl rfl (.assign (v := w2) rfl rfl (.assign (v := (vi x4.2)) rfl rfl (.nila H fun H => ?_)))))
 refine .then (.Z0 38 rfl H fun b8 σ H => (.move (v := (vb x1.2)) rfl rfl (.move (v := (vb x1.2)) rfl rfl ?_)))
 refine .mid 3 (K1 := fun e σ => Z5 e [(44, (vb (x1.2 && (x1.1 == 1)))), (5, (vb x2.2)), (6, (.ptr (b5 + 6) 3 0)), (7, w1), (8, (vi x3.2)), (9, w2), (10, (vi x4.2))] ∧ Has σ (b8 + 5) (b8 + 38) [.sl w2 3 1 (x4.1.map (cI .i64)) true, .sl w1 3 1 (x3.1.map (cI .i64)) true, .blk (b5 + 6) 36 [(vi 2), (.buf (b5 + 1) 1 4), (.buf (b5 + 4) 1 7)], .sl (.buf (b5 + 4) 1 7) 48 7 ([(Con.mk 0 1 0 (Range.mk 1 2 true true))].map Con.cs) false, .sl (.buf (b5 + 1) 1 4) 25 4 ([ZF].map Form.cs) false]) rfl ?_ ?_
 ·refine .split rfl rfl ?_ ?_ <;> intro hc1
  ·skip
   refine .wanted rfl rfl (.move (v := (vi x1.1)) rfl rfl (.wanted rfl rfl (.int (m := x1.1) (m' := 1) (r := .bool (x1.1 == 1)) rfl rfl rfl rfl rfl (.ZZ (v := (vb (x1.1 == 1))) rfl rfl rfl (.nil ?_)))))
   exact ⟨⟨Z0p hc1, rfl, rfl, rfl, rfl, rfl, rfl, trivial⟩, (((H.erase 7).erase 3).erase 1).weak (by omega) (Nat.le_refl _)⟩
  ·skip
   refine .pass rfl rfl rfl (.pass rfl rfl rfl (.Zb (v := (vb false)) rfl rfl rfl (.nil ?_)))
   exact ⟨⟨Z0o hc1, rfl, rfl, rfl, rfl, rfl, rfl, trivial⟩, (((H.erase 7).erase 3).erase 1).weak (by omega) (Nat.le_refl _)⟩
 ·rintro e σ ⟨he, H⟩
  obtain ⟨e, rfl⟩ := he.ex
  refine .move (v := (vb (x1.2 && (x1.1 == 1)))) rfl rfl ?_
  refine .mid 3 (K1 := fun e σ => Z5 e [(48, (vb ((x1.2 && (x1.1 == 1)) && (!x2.2)))), (6, (.ptr (b5 + 6) 3 0)), (7, w1), (8, (vi x3.2)), (9, w2), (10, (vi x4.2))] ∧ Has σ (b8 + 9) (b8 + 38) [.sl w2 3 1 (x4.1.map (cI .i64)) true, .sl w1 3 1 (x3.1.map (cI .i64)) true, .blk (b5 + 6) 36 [(vi 2), (.buf (b5 + 1) 1 4), (.buf (b5 + 4) 1 7)], .sl (.buf (b5 + 4) 1 7) 48 7 ([(Con.mk 0 1 0 (Range.mk 1 2 true true))].map Con.cs) false, .sl (.buf (b5 + 1) 1 4) 25 4 ([ZF].map Form.cs) false]) rfl ?_ ?_
  ·refine .split rfl rfl ?_ ?_ <;> intro hc2
   ·skip
    refine .wanted rfl rfl (.move (v := (vb x2.2)) rfl rfl (.wanted rfl rfl (.not (b := x2.2) rfl rfl (.ZZ (v := (vb (!x2.2))) rfl rfl rfl (.nil ?_)))))
    exact ⟨⟨Z0p hc2, rfl, rfl, rfl, rfl, rfl, trivial⟩, H.weak (by omega) (Nat.le_refl _)⟩
   ·skip
    refine .pass rfl rfl rfl (.pass rfl rfl rfl (.Zb (v := (vb false)) rfl rfl rfl (.nil ?_)))
    exact ⟨⟨Z0o hc2, rfl, rfl, rfl, rfl, rfl, trivial⟩, H.weak (by omega) (Nat.le_refl _)⟩
  ·rintro e σ ⟨he, H⟩
   obtain ⟨e, rfl⟩ := he.ex
   refine .move (v := (vb ((x1.2 && (x1.1 == 1)) && (!x2.2)))) rfl rfl ?_
   obtain ⟨y1, hj1, h⟩ := bind_some h
   refine .mid 4 (K1 := fun e σ => Z5 e [(53, (vb y1)), (6, (.ptr (b5 + 6) 3 0)), (7, w1), (8, (vi x3.2)), (9, w2), (10, (vi x4.2))] ∧ Has σ (b8 + 14) (b8 + 38) [.sl w2 3 1 (x4.1.map (cI .i64)) true, .sl w1 3 1 (x3.1.map (cI .i64)) true, .blk (b5 + 6) 36 [(vi 2), (.buf (b5 + 1) 1 4), (.buf (b5 + 4) 1 7)], .sl (.buf (b5 + 4) 1 7) 48 7 ([(Con.mk 0 1 0 (Range.mk 1 2 true true))].map Con.cs) false, .sl (.buf (b5 + 1) 1 4) 25 4 ([ZF].map Form.cs) false]) rfl ?_ ?_
   ·refine .split rfl rfl ?_ ?_ <;> intro hc3
    ·replace h := Z8 hc3 hj1
     refine .wanted rfl rfl (.ZY (off := 0) (cs := [(vi 2), (.buf (b5 + 1) 1 4), (.buf (b5 + 4) 1 7)]) H 2 rfl rfl rfl rfl rfl rfl rfl nofun rfl (.wanted rfl rfl ?_))
     obtain ⟨x5, q5, h⟩ := bind_some h
     refine .callX (xs := [(.agg [(vi 2), (.buf (b5 + 1) 1 4), (.buf (b5 + 4) 1 7)])]) (ys := [(.agg (vs (Net.cs (Net.mk 2 [ZF] [(Con.mk 0 1 0 (Range.mk 1 2 true true))]))))]) H rfl (.cons (.a (.cons (.v _) (.cons (.s 4 rfl) (.cons (.s 3 rfl) .nil)))) .nil) (tag_Right_fn q5) rfl rfl nofun rfl fun σ H => (.wanted rfl rfl (.int (m := x5) (m' := 0) (r := .bool (x5 == 0)) rfl rfl rfl rfl rfl (.ZZ (v := (vb (x5 == 0))) rfl rfl rfl (.nil ?_))))
     replace h := sj h; subst h
     exact ⟨⟨rfl, rfl, rfl, rfl, rfl, rfl, trivial⟩, H.weak (by omega) (Nat.le_refl _)⟩
    ·replace h := Z9 hc3 hj1
     refine .pass rfl rfl rfl (.pass rfl rfl rfl (.pass rfl rfl rfl (.Zb (v := (vb false)) rfl rfl rfl (.nil ?_))))
     replace h := sj h; subst h
     exact ⟨⟨rfl, rfl, rfl, rfl, rfl, rfl, trivial⟩, H.weak (by omega) (Nat.le_refl _)⟩
   ·rintro e σ ⟨he, H⟩
    obtain ⟨e, rfl⟩ := he.ex
    refine .move (v := (vb y1)) rfl rfl ?_
    obtain ⟨y2, hj2, h⟩ := bind_some h
    refine .mid 4 (K1 := fun e σ => Z5 e [(58, (vb y2)), (7, w1), (8, (vi x3.2)), (9, w2), (10, (vi x4.2))] ∧ Has σ (b8 + 19) (b8 + 38) [.sl w2 3 1 (x4.1.map (cI .i64)) true, .sl w1 3 1 (x3.1.map (cI .i64)) true]) rfl ?_ ?_
    ·refine .split rfl rfl ?_ ?_ <;> intro hc4
     ·replace h := Z8 hc4 hj2
      refine .wanted rfl rfl (.ZY (off := 0) (cs := [(vi 2), (.buf (b5 + 1) 1 4), (.buf (b5 + 4) 1 7)]) H 2 rfl rfl rfl rfl rfl rfl rfl nofun rfl (.wanted rfl rfl (.Z3u (sz := 1) ([3, 9].map (cI .i64)) H (by omega) (by omega) rfl rfl rfl rfl rfl rfl rfl rfl rfl fun σ H => (.wanted rfl rfl ?_))))
      obtain ⟨x6, q6, h⟩ := bind_some h
      refine .callX (xs := [(.agg [(vi 2), (.buf (b5 + 1) 1 4), (.buf (b5 + 4) 1 7)]), (.buf (b8 + 16) 2 1)]) (ys := [(.agg (vs (Net.cs (Net.mk 2 [ZF] [(Con.mk 0 1 0 (Range.mk 1 2 true true))])))), (vl (cI .i64) [3, 9])]) H rfl (.cons (.a (.cons (.v _) (.cons (.s 5 rfl) (.cons (.s 4 rfl) .nil)))) (.cons (.c (.s 0 rfl)) .nil)) (tag_Holds_fn q6) rfl rfl nofun rfl fun σ H => (.ZZ (v := (vb x6)) rfl rfl rfl (.nil ?_))
      replace h := sj h; subst h
      exact ⟨⟨rfl, rfl, rfl, rfl, rfl, trivial⟩, ((((H.erase 5).erase 4).erase 3).erase 0).weak (by omega) (Nat.le_refl _)⟩
     ·replace h := Z9 hc4 hj2
      refine .pass rfl rfl rfl (.pass rfl rfl rfl (.pass rfl rfl rfl (.Zb (v := (vb false)) rfl rfl rfl (.nil ?_))))
      replace h := sj h; subst h
      exact ⟨⟨rfl, rfl, rfl, rfl, rfl, trivial⟩, (((H.erase 4).erase 3).erase 2).weak (by omega) (Nat.le_refl _)⟩
    ·rintro e σ ⟨he, H⟩
     obtain ⟨e, rfl⟩ := he.ex
     refine .move (v := (vb y2)) rfl rfl ?_
     refine .mid 3 (K1 := fun e σ => Z5 e [(62, (vb (y2 && (x3.2 == 0)))), (7, w1), (9, w2), (10, (vi x4.2))] ∧ Has σ (b8 + 23) (b8 + 38) [.sl w2 3 1 (x4.1.map (cI .i64)) true, .sl w1 3 1 (x3.1.map (cI .i64)) true]) rfl ?_ ?_
     ·refine .split rfl rfl ?_ ?_ <;> intro hc5
      ·skip
       refine .wanted rfl rfl (.move (v := (vi x3.2)) rfl rfl (.wanted rfl rfl (.int (m := x3.2) (m' := 0) (r := .bool (x3.2 == 0)) rfl rfl rfl rfl rfl (.ZZ (v := (vb (x3.2 == 0))) rfl rfl rfl (.nil ?_)))))
       exact ⟨⟨Z0p hc5, rfl, rfl, rfl, trivial⟩, H.weak (by omega) (Nat.le_refl _)⟩
      ·skip
       refine .pass rfl rfl rfl (.pass rfl rfl rfl (.Zb (v := (vb false)) rfl rfl rfl (.nil ?_)))
       exact ⟨⟨Z0o hc5, rfl, rfl, rfl, trivial⟩, H.weak (by omega) (Nat.le_refl _)⟩
     ·rintro e σ ⟨he, H⟩
      obtain ⟨e, rfl⟩ := he.ex
      refine .move (v := (vb (y2 && (x3.2 == 0)))) rfl rfl ?_
      obtain ⟨y3, hj3, h⟩ := bind_some h
      refine .mid 4 (K1 := fun e σ => Z5 e [(67, (vb y3)), (9, w2), (10, (vi x4.2))] ∧ Has σ (b8 + 28) (b8 + 38) [.sl w2 3 1 (x4.1.map (cI .i64)) true]) rfl ?_ ?_
      ·refine .split rfl rfl ?_ ?_ <;> intro hc6
       ·replace h := Z8 hc6 hj3
        refine .wanted rfl rfl (.move (v := w1) rfl rfl (.wanted rfl rfl (.Z3u (sz := 1) ([0].map (cI .i64)) H (by omega) (by omega) rfl rfl rfl rfl rfl rfl rfl rfl rfl fun σ H => (.wanted rfl rfl ?_))))
        obtain ⟨x7, q7, h⟩ := bind_some h
        refine .callX (xs := [w1, (.buf (b8 + 25) 1 1)]) (ys := [(vl (cI .i64) x3.1), (vl (cI .i64) [0])]) H rfl (.cons (.c (.s 2 rfl)) (.cons (.c (.s 0 rfl)) .nil)) (Z3t q7) rfl rfl nofun rfl fun σ H => (.ZZ (v := (vb x7)) rfl rfl rfl (.nil ?_))
        replace h := sj h; subst h
        exact ⟨⟨rfl, rfl, rfl, trivial⟩, ((H.erase 2).erase 0).weak (by omega) (Nat.le_refl _)⟩
       ·replace h := Z9 hc6 hj3
        refine .pass rfl rfl rfl (.pass rfl rfl rfl (.pass rfl rfl rfl (.Zb (v := (vb false)) rfl rfl rfl (.nil ?_))))
        replace h := sj h; subst h
        exact ⟨⟨rfl, rfl, rfl, trivial⟩, (H.erase 1).weak (by omega) (Nat.le_refl _)⟩
      ·rintro e σ ⟨he, H⟩
       obtain ⟨e, rfl⟩ := he.ex
       refine .move (v := (vb y3)) rfl rfl ?_
       refine .mid 3 (K1 := fun e σ => Z5 e [(71, (vb (y3 && (x4.2 == 0)))), (9, w2)] ∧ Has σ (b8 + 32) (b8 + 38) [.sl w2 3 1 (x4.1.map (cI .i64)) true]) rfl ?_ ?_
       ·refine .split rfl rfl ?_ ?_ <;> intro hc7
        ·skip
         refine .wanted rfl rfl (.move (v := (vi x4.2)) rfl rfl (.wanted rfl rfl (.int (m := x4.2) (m' := 0) (r := .bool (x4.2 == 0)) rfl rfl rfl rfl rfl (.ZZ (v := (vb (x4.2 == 0))) rfl rfl rfl (.nil ?_)))))
         exact ⟨⟨Z0p hc7, rfl, trivial⟩, H.weak (by omega) (Nat.le_refl _)⟩
        ·skip
         refine .pass rfl rfl rfl (.pass rfl rfl rfl (.Zb (v := (vb false)) rfl rfl rfl (.nil ?_)))
         exact ⟨⟨Z0o hc7, rfl, trivial⟩, H.weak (by omega) (Nat.le_refl _)⟩
       ·rintro e σ ⟨he, H⟩
        obtain ⟨e, rfl⟩ := he.ex
        refine .move (v := (vb (y3 && (x4.2 == 0)))) rfl rfl ?_
        obtain ⟨y4, hj4, h⟩ := bind_some h
        refine .mid 4 (K1 := fun e σ => Z5 e [(76, (vb y4))] ∧ Has σ (b8 + 37) (b8 + 38) []) rfl ?_ ?_
        ·refine .split rfl rfl ?_ ?_ <;> intro hc8
         ·replace h := Z8 hc8 hj4
          refine .wanted rfl rfl (.move (v := w2) rfl rfl (.wanted rfl rfl (.Z3u (sz := 1) ([0].map (cI .i64)) H (by omega) (by omega) rfl rfl rfl rfl rfl rfl rfl rfl rfl fun σ H => (.wanted rfl rfl ?_))))
          obtain ⟨x8, q8, h⟩ := bind_some h
          refine .callX (xs := [w2, (.buf (b8 + 34) 1 1)]) (ys := [(vl (cI .i64) x4.1), (vl (cI .i64) [0])]) H rfl (.cons (.c (.s 1 rfl)) (.cons (.c (.s 0 rfl)) .nil)) (Z3t q8) rfl rfl nofun rfl fun σ H => (.ZZ (v := (vb x8)) rfl rfl rfl (.nil ?_))
          replace h := sj h; subst h
          exact ⟨⟨rfl, trivial⟩, ((H.erase 1).erase 0).weak (by omega) (Nat.le_refl _)⟩
         ·replace h := Z9 hc8 hj4
          refine .pass rfl rfl rfl (.pass rfl rfl rfl (.pass rfl rfl rfl (.Zb (v := (vb false)) rfl rfl rfl (.nil ?_))))
          replace h := sj h; subst h
          exact ⟨⟨rfl, trivial⟩, (H.erase 0).weak (by omega) (Nat.le_refl _)⟩
        ·rintro e σ ⟨he, H⟩
         obtain ⟨e, rfl⟩ := he.ex
         refine .assign (v := (vb y4)) rfl rfl (.nila H fun H => (.ret ?_))
         replace h := sj h; subst h
         exact (Ends.H (xs := [(vb y4)]) (.inr rfl) H (.tmp (v := (vb y4)) rfl .nil) (.one (.c (.v _))))

theorem Z3a {r : Bool} (h : Zw = r) : Fn CX 8 [] (vb r) := by
 subst h
 exact Z5Z Z4y

theorem Z5C {f : Form} {a : Int} {b : Int} {c : Int} {r : Bool} (h : Z1V f a b c = some r) : Fn CX 3 [(.agg (vs (Form.cs f))), (vi a), (vi b), (vi c)] (vb r) := by
 refine Fn.ends Try.func3 rfl rfl rfl rfl rfl rfl ?_
 have H : Hs (⟨0, fun _ => .none⟩ : Heap) [] := Has.nil (Nat.le_refl _)
 generalize (⟨0, fun _ => .none⟩ : Heap) = σ at H ⊢
 unfold Z1V at h
 refine .then (.Z0 2 rfl H fun b1 σ H => (.boxH (cs := (vF f)) H (by omega) (by omega) rfl rfl rfl fun σ H => (.assign (v := (vb false)) rfl rfl (.nila H fun H => (.then ?_)))))
 refine .then (.Z0 8 rfl H fun b2 σ H => (.ZY (off := 0) (cs := (vF f)) H 0 rfl rfl rfl rfl rfl rfl rfl nofun rfl ?_))
 obtain ⟨x1, q1, h⟩ := bind_some h
 refine .call (ys := [(.agg (vF f))]) (r := (vb x1)) rfl (Z5u q1) rfl (.not (b := x1) rfl rfl (.move (v := (vb (!x1))) rfl rfl ?_))
 obtain ⟨y1, hj1, h⟩ := bind_some h
 refine .mid 4 (K1 := fun e σ => Z5 e [(28, (vb y1)), (1, (vi a)), (2, (vi b)), (3, (vi c)), (4, (.ptr (b1 + 0) 4 0))] ∧ Has σ (b2 + 8) (b2 + 8) [.blk (b1 + 0) 25 (vF f)]) rfl ?_ ?_
 ·refine .split rfl rfl ?_ ?_ <;> intro hc1
  ·replace h := Z8 hc1 hj1
   refine .pass rfl rfl rfl (.pass rfl rfl rfl (.pass rfl rfl rfl (.ZZ (v := (vb true)) rfl rfl rfl (.nil ?_))))
   replace h := sj h; subst h
   exact ⟨⟨rfl, rfl, rfl, rfl, rfl, trivial⟩, H.weak (by omega) (Nat.le_refl _)⟩
  ·replace h := Z9 hc1 hj1
   refine .wanted rfl rfl (.ZY (off := 0) (cs := (vF f)) H 0 rfl rfl rfl rfl rfl rfl rfl nofun rfl (.wanted rfl rfl ?_))
   obtain ⟨x2, q2, h⟩ := bind_some h
   refine .call (ys := [(.agg (vF f))]) (r := (vi x2)) rfl (Z65 q2) rfl (.wanted rfl rfl (.int (m := x2) (m' := 0) (r := .bool (x2 != 0)) rfl rfl rfl rfl rfl (.Zb (v := (vb (x2 != 0))) rfl rfl rfl (.nil ?_))))
   replace h := sj h; subst h
   exact ⟨⟨rfl, rfl, rfl, rfl, rfl, trivial⟩, H.weak (by omega) (Nat.le_refl _)⟩
 ·rintro e σ ⟨he, H⟩
  obtain ⟨e, rfl⟩ := he.ex
  refine .nila H fun H => ?_
  refine .whether (v := y1) rfl ?_ ?_ <;> intro hc2
  ·replace h := Z8 hc2 h
   refine .then (.Z0 2 rfl H fun b3 σ H => (.call (ys := []) (r := (vb Zw)) rfl (Z3a rfl) rfl (.assign (v := (vb Zw)) rfl rfl (.nila H fun H => (.ret ?_)))))
   replace h := sj h; subst h
   exact (Ends.H (xs := [(vb Zw)]) (.inr rfl) H (.tmp (v := (vb Zw)) rfl .nil) (.one (.c (.v _))))
  ·replace h := Z9 hc2 h
   refine .skip (.then (.Z0 9 rfl H fun b4 σ H => (.ZY (off := 0) (cs := (vF f)) H 0 rfl rfl rfl rfl rfl rfl rfl nofun rfl (.move (v := (vi a)) rfl rfl (.move (v := (vi b)) rfl rfl ?_)))))
   obtain ⟨x3, q3, h⟩ := bind_some h
   refine .call (ys := [(.agg (vF f)), (vi a), (vi b)]) (r := (.tup [(vi x3.1), (vb x3.2)])) rfl (Z0V q3) rfl (.move (v := (.tup [(vi x3.1), (vb x3.2)])) rfl rfl (.extract (v := (vi x3.1)) rfl rfl rfl (.extract (v := (vb x3.2)) rfl rfl rfl (.assign (v := (vi x3.1)) rfl rfl (.assign (v := (vb x3.2)) rfl rfl ?_)))))
   refine .nila H fun H => (.then (.Z0 9 rfl H fun b5 σ H => (.ZY (off := 0) (cs := (vF f)) H 0 rfl rfl rfl rfl rfl rfl rfl nofun rfl (.move (v := (vi b)) rfl rfl (.move (v := (vi a)) rfl rfl ?_)))))
   obtain ⟨x4, q4, h⟩ := bind_some h
   refine .call (ys := [(.agg (vF f)), (vi b), (vi a)]) (r := (.tup [(vi x4.1), (vb x4.2)])) rfl (Z0V q4) rfl (.move (v := (.tup [(vi x4.1), (vb x4.2)])) rfl rfl (.extract (v := (vi x4.1)) rfl rfl rfl (.extract (v := (vb x4.2)) rfl rfl rfl (.assign (v := (vi x4.1)) rfl rfl (.assign (v := (vb x4.2)) rfl rfl ?_)))))
   refine .nila H fun H => (.then (.Z0 9 rfl H fun b6 σ H => (.ZY (off := 0) (cs := (vF f)) H 0 rfl rfl rfl rfl rfl rfl rfl nofun rfl (.move (v := (vi b)) rfl rfl (.move (v := (vi c)) rfl rfl ?_)))))
   obtain ⟨x5, q5, h⟩ := bind_some h
   refine .call (ys := [(.agg (vF f)), (vi b), (vi c)]) (r := (.tup [(vi x5.1), (vb x5.2)])) rfl (Z0V q5) rfl (.move (v := (.tup [(vi x5.1), (vb x5.2)])) rfl rfl (.extract (v := (vi x5.1)) rfl rfl rfl (.extract (v := (vb x5.2)) rfl rfl rfl (.assign (v := (vi x5.1)) rfl rfl (.assign (v := (vb x5.2)) rfl rfl ?_)))))
   refine .nila H fun H => (.then (.Z0 9 rfl H fun b7 σ H => (.ZY (off := 0) (cs := (vF f)) H 0 rfl rfl rfl rfl rfl rfl rfl nofun rfl (.move (v := (vi a)) rfl rfl (.move (v := (vi c)) rfl rfl ?_)))))
   obtain ⟨x6, q6, h⟩ := bind_some h
   refine .call (ys := [(.agg (vF f)), (vi a), (vi c)]) (r := (.tup [(vi x6.1), (vb x6.2)])) rfl (Z0V q6) rfl (.move (v := (.tup [(vi x6.1), (vb x6.2)])) rfl rfl (.extract (v := (vi x6.1)) rfl rfl rfl (.extract (v := (vb x6.2)) rfl rfl rfl (.assign (v := (vi x6.1)) rfl rfl (.assign (v := (vb x6.2)) rfl rfl ?_)))))
   refine .nila H fun H => (.then (.Z0 9 rfl H fun b8 σ H => (.ZY (off := 0) (cs := (vF f)) H 0 rfl rfl rfl rfl rfl rfl rfl nofun rfl (.move (v := (vi a)) rfl rfl (.move (v := (vi a)) rfl rfl ?_)))))
   obtain ⟨x7, q7, h⟩ := bind_some h
   refine .call (ys := [(.agg (vF f)), (vi a), (vi a)]) (r := (.tup [(vi x7.1), (vb x7.2)])) rfl (Z0V q7) rfl (.move (v := (.tup [(vi x7.1), (vb x7.2)])) rfl rfl (.extract (v := (vi x7.1)) rfl rfl rfl (.extract (v := (vb x7.2)) rfl rfl rfl (.assign (v := (vi x7.1)) rfl rfl (.assign (v := (vb x7.2)) rfl rfl ?_)))))
   refine .nila H fun H => (.then (.Z0 9 rfl H fun b9 σ H => (.ZY (off := 0) (cs := (vF f)) H 0 rfl rfl rfl rfl rfl rfl rfl nofun rfl (.move (v := (vi b)) rfl rfl (.move (v := (vi b)) rfl rfl ?_)))))
   obtain ⟨x8, q8, h⟩ := bind_some h
   refine .call (ys := [(.agg (vF f)), (vi b), (vi b)]) (r := (.tup [(vi x8.1), (vb x8.2)])) rfl (Z0V q8) rfl (.move (v := (.tup [(vi x8.1), (vb x8.2)])) rfl rfl (.extract (v := (vi x8.1)) rfl rfl rfl (.extract (v := (vb x8.2)) rfl rfl rfl (.assign (v := (vi x8.1)) rfl rfl (.assign (v := (vb x8.2)) rfl rfl ?_)))))
   refine .nila H fun H => (.then (.then (.Z0 27 rfl H fun b10 σ H => (.move (v := (vb x3.2)) rfl rfl (.move (v := (vb x4.2)) rfl rfl ?_)))))
   refine .neB (b := x3.2) (b' := x4.2) rfl rfl rfl rfl (.move (v := (vb (x3.2 != x4.2))) rfl rfl ?_)
   refine .mid 7 (K1 := fun e σ => Z5 e [(82, (vb ((x3.2 != x4.2) || (x3.2 != (x7.2 && x8.2))))), (1, (vi a)), (2, (vi b)), (9, (vi x3.1)), (10, (vb x3.2)), (11, (vi x4.1)), (13, (vi x5.1)), (14, (vb x5.2)), (15, (vi x6.1)), (16, (vb x6.2)), (17, (vi x7.1)), (19, (vi x8.1))] ∧ Has σ (b10 + 11) (b10 + 27) []) rfl ?_ ?_
   ·refine .split rfl rfl ?_ ?_ <;> intro hc3
    ·skip
     refine .pass rfl rfl rfl (.pass rfl rfl rfl (.pass rfl rfl rfl (.Z00 rfl rfl rfl (.pass rfl rfl rfl (.pass rfl rfl rfl ?_)))))
     refine .ZZ (v := (vb true)) rfl rfl rfl (.nil ?_)
     exact ⟨⟨or_T hc3, rfl, rfl, rfl, rfl, rfl, rfl, rfl, rfl, rfl, rfl, rfl, trivial⟩, (H.erase 0).weak (by omega) (Nat.le_refl _)⟩
    ·skip
     refine .wanted rfl rfl (.move (v := (vb x3.2)) rfl rfl (.wanted rfl rfl (.move (v := (vb x7.2)) rfl rfl (.wanted rfl rfl (.move (v := (vb x7.2)) rfl rfl ?_)))))
     refine .mid 2 (K1 := fun e σ => Z5 e [(80, (vb (x7.2 && x8.2))), (1, (vi a)), (2, (vi b)), (9, (vi x3.1)), (10, (vb x3.2)), (11, (vi x4.1)), (13, (vi x5.1)), (14, (vb x5.2)), (15, (vi x6.1)), (16, (vb x6.2)), (17, (vi x7.1)), (19, (vi x8.1)), (75, (vb false)), (76, (vb x3.2))] ∧ Has σ (b10 + 9) (b10 + 27) []) rfl ?_ ?_
     ·refine .split rfl rfl ?_ ?_ <;> intro hc4
      ·skip
       refine .wanted rfl rfl (.move (v := (vb x8.2)) rfl rfl (.wanted rfl rfl (.ZZ (v := (vb x8.2)) rfl rfl rfl (.nil ?_))))
       exact ⟨⟨Z0p hc4, rfl, rfl, rfl, rfl, rfl, rfl, rfl, rfl, rfl, rfl, rfl, rfl, rfl, trivial⟩, (H.erase 0).weak (by omega) (Nat.le_refl _)⟩
      ·skip
       refine .pass rfl rfl rfl (.wanted rfl rfl (.Zb (v := (vb false)) rfl rfl rfl (.nil ?_)))
       exact ⟨⟨Z0o hc4, rfl, rfl, rfl, rfl, rfl, rfl, rfl, rfl, rfl, rfl, rfl, rfl, rfl, trivial⟩, (H.erase 0).weak (by omega) (Nat.le_refl _)⟩
     ·rintro e σ ⟨he, H⟩
      obtain ⟨e, rfl⟩ := he.ex
      refine .wanted rfl rfl (.neB (b := x3.2) (b' := (x7.2 && x8.2)) rfl rfl rfl rfl (.Zb (v := (vb (x3.2 != (x7.2 && x8.2)))) rfl rfl rfl (.nil ?_)))
      exact ⟨⟨or_F hc3, rfl, rfl, rfl, rfl, rfl, rfl, rfl, rfl, rfl, rfl, rfl, trivial⟩, H.weak (by omega) (Nat.le_refl _)⟩
   ·rintro e σ ⟨he, H⟩
    obtain ⟨e, rfl⟩ := he.ex
    refine .move (v := (vb ((x3.2 != x4.2) || (x3.2 != (x7.2 && x8.2))))) rfl rfl ?_
    refine .mid 7 (K1 := fun e σ => Z5 e [(90, (vb (((x3.2 != x4.2) || (x3.2 != (x7.2 && x8.2))) || ((!x3.2) && (x3.1 != 0))))), (1, (vi a)), (2, (vi b)), (9, (vi x3.1)), (10, (vb x3.2)), (11, (vi x4.1)), (13, (vi x5.1)), (14, (vb x5.2)), (15, (vi x6.1)), (16, (vb x6.2)), (17, (vi x7.1)), (19, (vi x8.1))] ∧ Has σ (b10 + 19) (b10 + 27) []) rfl ?_ ?_
    ·refine .split rfl rfl ?_ ?_ <;> intro hc5
     ·skip
      refine .pass rfl rfl rfl (.pass rfl rfl rfl (.pass rfl rfl rfl (.Z00 rfl rfl rfl (.Z00 rfl rfl rfl (.pass rfl rfl rfl ?_)))))
      refine .ZZ (v := (vb true)) rfl rfl rfl (.nil ?_)
      exact ⟨⟨or_T hc5, rfl, rfl, rfl, rfl, rfl, rfl, rfl, rfl, rfl, rfl, rfl, trivial⟩, H.weak (by omega) (Nat.le_refl _)⟩
     ·skip
      refine .wanted rfl rfl (.move (v := (vb x3.2)) rfl rfl (.wanted rfl rfl (.not (b := x3.2) rfl rfl (.wanted rfl rfl (.move (v := (vb (!x3.2))) rfl rfl ?_)))))
      refine .mid 3 (K1 := fun e σ => Z5 e [(89, (vb ((!x3.2) && (x3.1 != 0)))), (1, (vi a)), (2, (vi b)), (9, (vi x3.1)), (10, (vb x3.2)), (11, (vi x4.1)), (13, (vi x5.1)), (14, (vb x5.2)), (15, (vi x6.1)), (16, (vb x6.2)), (17, (vi x7.1)), (19, (vi x8.1)), (83, (vb false))] ∧ Has σ (b10 + 18) (b10 + 27) []) rfl ?_ ?_
      ·refine .split rfl rfl ?_ ?_ <;> intro hc6
       ·skip
        refine .wanted rfl rfl (.move (v := (vi x3.1)) rfl rfl (.wanted rfl rfl (.int (m := x3.1) (m' := 0) (r := .bool (x3.1 != 0)) rfl rfl rfl rfl rfl (.wanted rfl rfl (.ZZ (v := (vb (x3.1 != 0))) rfl rfl rfl ?_)))))
        refine .nil ?_
        exact ⟨⟨Z0p hc6, rfl, rfl, rfl, rfl, rfl, rfl, rfl, rfl, rfl, rfl, rfl, rfl, trivial⟩, H.weak (by omega) (Nat.le_refl _)⟩
       ·skip
        refine .pass rfl rfl rfl (.pass rfl rfl rfl (.wanted rfl rfl (.Zb (v := (vb false)) rfl rfl rfl (.nil ?_))))
        exact ⟨⟨Z0o hc6, rfl, rfl, rfl, rfl, rfl, rfl, rfl, rfl, rfl, rfl, rfl, rfl, trivial⟩, H.weak (by omega) (Nat.le_refl _)⟩
      ·rintro e σ ⟨he, H⟩
       obtain ⟨e, rfl⟩ := he.ex
       refine .Zb (v := (vb ((!x3.2) && (x3.1 != 0)))) rfl rfl rfl (.nil ?_)
       exact ⟨⟨or_F hc5, rfl, rfl, rfl, rfl, rfl, rfl, rfl, rfl, rfl, rfl, rfl, trivial⟩, H.weak (by omega) (Nat.le_refl _)⟩
    ·rintro e σ ⟨he, H⟩
     obtain ⟨e, rfl⟩ := he.ex
     refine .move (v := (vb (((x3.2 != x4.2) || (x3.2 != (x7.2 && x8.2))) || ((!x3.2) && (x3.1 != 0))))) rfl rfl ?_
     refine .mid 3 (K1 := fun e σ => Z5 e [(94, (vb ((((x3.2 != x4.2) || (x3.2 != (x7.2 && x8.2))) || ((!x3.2) && (x3.1 != 0))) || (x7.1 != 0)))), (1, (vi a)), (2, (vi b)), (9, (vi x3.1)), (10, (vb x3.2)), (11, (vi x4.1)), (13, (vi x5.1)), (14, (vb x5.2)), (15, (vi x6.1)), (16, (vb x6.2)), (19, (vi x8.1))] ∧ Has σ (b10 + 23) (b10 + 27) []) rfl ?_ ?_
     ·refine .split rfl rfl ?_ ?_ <;> intro hc7
      ·skip
       refine .pass rfl rfl rfl (.pass rfl rfl rfl (.ZZ (v := (vb true)) rfl rfl rfl (.nil ?_)))
       exact ⟨⟨or_T hc7, rfl, rfl, rfl, rfl, rfl, rfl, rfl, rfl, rfl, rfl, trivial⟩, H.weak (by omega) (Nat.le_refl _)⟩
      ·skip
       refine .wanted rfl rfl (.move (v := (vi x7.1)) rfl rfl (.wanted rfl rfl (.int (m := x7.1) (m' := 0) (r := .bool (x7.1 != 0)) rfl rfl rfl rfl rfl (.Zb (v := (vb (x7.1 != 0))) rfl rfl rfl (.nil ?_)))))
       exact ⟨⟨or_F hc7, rfl, rfl, rfl, rfl, rfl, rfl, rfl, rfl, rfl, rfl, trivial⟩, H.weak (by omega) (Nat.le_refl _)⟩
     ·rintro e σ ⟨he, H⟩
      obtain ⟨e, rfl⟩ := he.ex
      refine .move (v := (vb ((((x3.2 != x4.2) || (x3.2 != (x7.2 && x8.2))) || ((!x3.2) && (x3.1 != 0))) || (x7.1 != 0)))) rfl rfl ?_
      refine .mid 3 (K1 := fun e σ => Z5 e [(98, (vb (((((x3.2 != x4.2) || (x3.2 != (x7.2 && x8.2))) || ((!x3.2) && (x3.1 != 0))) || (x7.1 != 0)) || (x8.1 != 0)))), (1, (vi a)), (2, (vi b)), (9, (vi x3.1)), (10, (vb x3.2)), (11, (vi x4.1)), (13, (vi x5.1)), (14, (vb x5.2)), (15, (vi x6.1)), (16, (vb x6.2))] ∧ Has σ (b10 + 27) (b10 + 27) []) rfl ?_ ?_
      ·refine .split rfl rfl ?_ ?_ <;> intro hc8
       ·skip
        refine .pass rfl rfl rfl (.pass rfl rfl rfl (.ZZ (v := (vb true)) rfl rfl rfl (.nil ?_)))
        exact ⟨⟨or_T hc8, rfl, rfl, rfl, rfl, rfl, rfl, rfl, rfl, rfl, trivial⟩, H.weak (by omega) (Nat.le_refl _)⟩
       ·skip
        refine .wanted rfl rfl (.move (v := (vi x8.1)) rfl rfl (.wanted rfl rfl (.int (m := x8.1) (m' := 0) (r := .bool (x8.1 != 0)) rfl rfl rfl rfl rfl (.Zb (v := (vb (x8.1 != 0))) rfl rfl rfl (.nil ?_)))))
        exact ⟨⟨or_F hc8, rfl, rfl, rfl, rfl, rfl, rfl, rfl, rfl, rfl, trivial⟩, H.weak (by omega) (Nat.le_refl _)⟩
      ·rintro e σ ⟨he, H⟩
       obtain ⟨e, rfl⟩ := he.ex
       refine .nila H fun H => ?_
       refine .whether (v := (((((x3.2 != x4.2) || (x3.2 != (x7.2 && x8.2))) || ((!x3.2) && (x3.1 != 0))) || (x7.1 != 0)) || (x8.1 != 0))) rfl ?_ ?_ <;> intro hc9
       ·replace h := Z8 hc9 h
        refine .then (.Z0 1 rfl H fun b11 σ H => (.assign (v := (vb false)) rfl rfl (.nila H fun H => (.ret ?_))))
        replace h := sj h; subst h
        exact (Ends.H (xs := [(vb false)]) (.inr rfl) H (.tmp (v := (vb false)) rfl .nil) (.one (.c (.v _))))
       ·replace h := Z9 hc9 h
        refine .skip (.then (.then (.Z0 24 rfl H fun b12 σ H => (.move (v := (vb x3.2)) rfl rfl (.move (v := (vb x3.2)) rfl rfl ?_)))))
        refine .mid 5 (K1 := fun e σ => Z5 e [(105, (vb (x3.2 && (x3.1 != (w64 (0 - x4.1)))))), (1, (vi a)), (2, (vi b)), (9, (vi x3.1)), (10, (vb x3.2)), (13, (vi x5.1)), (14, (vb x5.2)), (15, (vi x6.1)), (16, (vb x6.2))] ∧ Has σ (b12 + 7) (b12 + 24) []) rfl ?_ ?_
        ·refine .split rfl rfl ?_ ?_ <;> intro hc10
         ·skip
          refine .wanted rfl rfl (.move (v := (vi x3.1)) rfl rfl (.wanted rfl rfl (.move (v := (vi x4.1)) rfl rfl (.wanted rfl rfl (.neg (m := x4.1) rfl rfl ?_)))))
          refine .wanted rfl rfl (.int (m := x3.1) (m' := (w64 (0 - x4.1))) (r := .bool (x3.1 != (w64 (0 - x4.1)))) rfl rfl rfl rfl rfl (.ZZ (v := (vb (x3.1 != (w64 (0 - x4.1))))) rfl rfl rfl (.nil ?_)))
          exact ⟨⟨Z0p hc10, rfl, rfl, rfl, rfl, rfl, rfl, rfl, rfl, trivial⟩, H.weak (by omega) (Nat.le_refl _)⟩
         ·skip
          refine .pass rfl rfl rfl (.pass rfl rfl rfl (.pass rfl rfl rfl (.pass rfl rfl rfl (.Zb (v := (vb false)) rfl rfl rfl (.nil ?_)))))
          exact ⟨⟨Z0o hc10, rfl, rfl, rfl, rfl, rfl, rfl, rfl, rfl, trivial⟩, H.weak (by omega) (Nat.le_refl _)⟩
        ·rintro e σ ⟨he, H⟩
         obtain ⟨e, rfl⟩ := he.ex
         refine .move (v := (vb (x3.2 && (x3.1 != (w64 (0 - x4.1)))))) rfl rfl ?_
         refine .mid 16 (K1 := fun e σ => Z5 e [(122, (vb ((x3.2 && (x3.1 != (w64 (0 - x4.1)))) || ((x3.2 && x5.2) && ((!x6.2) || (x6.1 != (w64 (x3.1 + x5.1)))))))), (1, (vi a)), (2, (vi b)), (9, (vi x3.1)), (10, (vb x3.2))] ∧ Has σ (b12 + 24) (b12 + 24) []) rfl ?_ ?_
         ·refine .split rfl rfl ?_ ?_ <;> intro hc11
          ·skip
           refine .pass rfl rfl rfl (.pass rfl rfl rfl (.Z00 rfl rfl rfl (.pass rfl rfl rfl (.pass rfl rfl rfl (.Z00 rfl rfl rfl ?_)))))
           refine .Z00 rfl rfl rfl (.Z00 rfl rfl rfl (.Z00 rfl rfl rfl (.Z00 rfl rfl rfl (.Z00 rfl rfl rfl (.Z00 rfl rfl rfl ?_)))))
           refine .Z00 rfl rfl rfl (.Z00 rfl rfl rfl (.pass rfl rfl rfl (.ZZ (v := (vb true)) rfl rfl rfl (.nil ?_))))
           exact ⟨⟨or_T hc11, rfl, rfl, rfl, rfl, trivial⟩, H.weak (by omega) (Nat.le_refl _)⟩
          ·skip
           refine .wanted rfl rfl (.move (v := (vb x3.2)) rfl rfl (.wanted rfl rfl (.move (v := (vb x3.2)) rfl rfl ?_)))
           refine .mid 2 (K1 := fun e σ => Z5 e [(110, (vb (x3.2 && x5.2))), (1, (vi a)), (2, (vi b)), (9, (vi x3.1)), (10, (vb x3.2)), (13, (vi x5.1)), (15, (vi x6.1)), (16, (vb x6.2)), (106, (vb false))] ∧ Has σ (b12 + 12) (b12 + 24) []) rfl ?_ ?_
           ·refine .split rfl rfl ?_ ?_ <;> intro hc12
            ·skip
             refine .wanted rfl rfl (.move (v := (vb x5.2)) rfl rfl (.wanted rfl rfl (.ZZ (v := (vb x5.2)) rfl rfl rfl (.nil ?_))))
             exact ⟨⟨Z0p hc12, rfl, rfl, rfl, rfl, rfl, rfl, rfl, rfl, trivial⟩, H.weak (by omega) (Nat.le_refl _)⟩
            ·skip
             refine .pass rfl rfl rfl (.wanted rfl rfl (.Zb (v := (vb false)) rfl rfl rfl (.nil ?_)))
             exact ⟨⟨Z0o hc12, rfl, rfl, rfl, rfl, rfl, rfl, rfl, rfl, trivial⟩, H.weak (by omega) (Nat.le_refl _)⟩
           ·rintro e σ ⟨he, H⟩
            obtain ⟨e, rfl⟩ := he.ex
            refine .wanted rfl rfl (.move (v := (vb (x3.2 && x5.2))) rfl rfl ?_)
            refine .mid 10 (K1 := fun e σ => Z5 e [(121, (vb ((x3.2 && x5.2) && ((!x6.2) || (x6.1 != (w64 (x3.1 + x5.1))))))), (1, (vi a)), (2, (vi b)), (9, (vi x3.1)), (10, (vb x3.2)), (106, (vb false))] ∧ Has σ (b12 + 23) (b12 + 24) []) rfl ?_ ?_
            ·refine .split rfl rfl ?_ ?_ <;> intro hc13
             ·skip
              refine .wanted rfl rfl (.move (v := (vb x6.2)) rfl rfl (.wanted rfl rfl (.not (b := x6.2) rfl rfl (.wanted rfl rfl (.move (v := (vb (!x6.2))) rfl rfl ?_)))))
              refine .mid 6 (K1 := fun e σ => Z5 e [(120, (vb ((!x6.2) || (x6.1 != (w64 (x3.1 + x5.1)))))), (1, (vi a)), (2, (vi b)), (9, (vi x3.1)), (10, (vb x3.2)), (106, (vb false)), (111, (vb true))] ∧ Has σ (b12 + 22) (b12 + 24) []) rfl ?_ ?_
              ·refine .split rfl rfl ?_ ?_ <;> intro hc14
               ·skip
                refine .pass rfl rfl rfl (.pass rfl rfl rfl (.pass rfl rfl rfl (.pass rfl rfl rfl (.pass rfl rfl rfl (.wanted rfl rfl ?_)))))
                refine .ZZ (v := (vb true)) rfl rfl rfl (.nil ?_)
                exact ⟨⟨or_T hc14, rfl, rfl, rfl, rfl, rfl, rfl, trivial⟩, H.weak (by omega) (Nat.le_refl _)⟩
               ·skip
                refine .wanted rfl rfl (.move (v := (vi x6.1)) rfl rfl (.wanted rfl rfl (.move (v := (vi x3.1)) rfl rfl (.wanted rfl rfl (.move (v := (vi x5.1)) rfl rfl ?_)))))
                refine .wanted rfl rfl (.int (m := x3.1) (m' := x5.1) (r := .int .i64 (w64 (x3.1 + x5.1))) rfl rfl rfl rfl rfl (.wanted rfl rfl (.int (m := x6.1) (m' := (w64 (x3.1 + x5.1))) (r := .bool (x6.1 != (w64 (x3.1 + x5.1)))) rfl rfl rfl rfl rfl (.wanted rfl rfl (.Zb (v := (vb (x6.1 != (w64 (x3.1 + x5.1))))) rfl rfl rfl ?_)))))
                refine .nil ?_
                exact ⟨⟨or_F hc14, rfl, rfl, rfl, rfl, rfl, rfl, trivial⟩, H.weak (by omega) (Nat.le_refl _)⟩
              ·rintro e σ ⟨he, H⟩
               obtain ⟨e, rfl⟩ := he.ex
               refine .wanted rfl rfl (.ZZ (v := (vb ((!x6.2) || (x6.1 != (w64 (x3.1 + x5.1)))))) rfl rfl rfl (.nil ?_))
               exact ⟨⟨Z0p hc13, rfl, rfl, rfl, rfl, rfl, trivial⟩, H.weak (by omega) (Nat.le_refl _)⟩
             ·skip
              refine .pass rfl rfl rfl (.pass rfl rfl rfl (.pass rfl rfl rfl (.Z00 rfl rfl rfl (.Z00 rfl rfl rfl (.Z00 rfl rfl rfl ?_)))))
              refine .Z00 rfl rfl rfl (.Z00 rfl rfl rfl (.pass rfl rfl rfl (.wanted rfl rfl (.Zb (v := (vb false)) rfl rfl rfl (.nil ?_)))))
              exact ⟨⟨Z0o hc13, rfl, rfl, rfl, rfl, rfl, trivial⟩, H.weak (by omega) (Nat.le_refl _)⟩
            ·rintro e σ ⟨he, H⟩
             obtain ⟨e, rfl⟩ := he.ex
             refine .Zb (v := (vb ((x3.2 && x5.2) && ((!x6.2) || (x6.1 != (w64 (x3.1 + x5.1))))))) rfl rfl rfl (.nil ?_)
             exact ⟨⟨or_F hc11, rfl, rfl, rfl, rfl, trivial⟩, H.weak (by omega) (Nat.le_refl _)⟩
         ·rintro e σ ⟨he, H⟩
          obtain ⟨e, rfl⟩ := he.ex
          refine .nila H fun H => ?_
          refine .whether (v := ((x3.2 && (x3.1 != (w64 (0 - x4.1)))) || ((x3.2 && x5.2) && ((!x6.2) || (x6.1 != (w64 (x3.1 + x5.1))))))) rfl ?_ ?_ <;> intro hc15
          ·replace h := Z8 hc15 h
           refine .then (.Z0 1 rfl H fun b13 σ H => (.assign (v := (vb false)) rfl rfl (.nila H fun H => (.ret ?_))))
           replace h := sj h; subst h
           exact (Ends.H (xs := [(vb false)]) (.inr rfl) H (.tmp (v := (vb false)) rfl .nil) (.one (.c (.v _))))
          ·replace h := Z9 hc15 h
           refine .skip (.then (.then (.Z0 22 rfl H fun b14 σ H => (.move (v := (vb x3.2)) rfl rfl (.move (v := (vb x3.2)) rfl rfl ?_)))))
           refine .mid 4 (K1 := fun e σ => Z5 e [(128, (vb (x3.2 && (decide (a ≤ b))))), (1, (vi a)), (2, (vi b)), (9, (vi x3.1)), (10, (vb x3.2))] ∧ Has σ (b14 + 6) (b14 + 22) []) rfl ?_ ?_
           ·refine .split rfl rfl ?_ ?_ <;> intro hc16
            ·skip
             refine .wanted rfl rfl (.move (v := (vi a)) rfl rfl (.wanted rfl rfl (.move (v := (vi b)) rfl rfl (.wanted rfl rfl (.int (m := a) (m' := b) (r := .bool (decide (a ≤ b))) rfl rfl rfl rfl rfl ?_)))))
             refine .ZZ (v := (vb (decide (a ≤ b)))) rfl rfl rfl (.nil ?_)
             exact ⟨⟨Z0p hc16, rfl, rfl, rfl, rfl, trivial⟩, H.weak (by omega) (Nat.le_refl _)⟩
            ·skip
             refine .pass rfl rfl rfl (.pass rfl rfl rfl (.pass rfl rfl rfl (.Zb (v := (vb false)) rfl rfl rfl (.nil ?_))))
             exact ⟨⟨Z0o hc16, rfl, rfl, rfl, rfl, trivial⟩, H.weak (by omega) (Nat.le_refl _)⟩
           ·rintro e σ ⟨he, H⟩
            obtain ⟨e, rfl⟩ := he.ex
            refine .move (v := (vb (x3.2 && (decide (a ≤ b))))) rfl rfl ?_
            refine .mid 3 (K1 := fun e σ => Z5 e [(132, (vb ((x3.2 && (decide (a ≤ b))) && (decide (x3.1 < 0))))), (1, (vi a)), (2, (vi b)), (9, (vi x3.1)), (10, (vb x3.2))] ∧ Has σ (b14 + 10) (b14 + 22) []) rfl ?_ ?_
            ·refine .split rfl rfl ?_ ?_ <;> intro hc17
             ·skip
              refine .wanted rfl rfl (.move (v := (vi x3.1)) rfl rfl (.wanted rfl rfl (.int (m := x3.1) (m' := 0) (r := .bool (decide (x3.1 < 0))) rfl rfl rfl rfl rfl (.ZZ (v := (vb (decide (x3.1 < 0)))) rfl rfl rfl (.nil ?_)))))
              exact ⟨⟨Z0p hc17, rfl, rfl, rfl, rfl, trivial⟩, H.weak (by omega) (Nat.le_refl _)⟩
             ·skip
              refine .pass rfl rfl rfl (.pass rfl rfl rfl (.Zb (v := (vb false)) rfl rfl rfl (.nil ?_)))
              exact ⟨⟨Z0o hc17, rfl, rfl, rfl, rfl, trivial⟩, H.weak (by omega) (Nat.le_refl _)⟩
            ·rintro e σ ⟨he, H⟩
             obtain ⟨e, rfl⟩ := he.ex
             refine .move (v := (vb ((x3.2 && (decide (a ≤ b))) && (decide (x3.1 < 0))))) rfl rfl ?_
             refine .mid 11 (K1 := fun e σ => Z5 e [(144, (vb (((x3.2 && (decide (a ≤ b))) && (decide (x3.1 < 0))) || ((x3.2 && (decide (a ≥ b))) && (decide (x3.1 > 0))))))] ∧ Has σ (b14 + 22) (b14 + 22) []) rfl ?_ ?_
             ·refine .split rfl rfl ?_ ?_ <;> intro hc18
              ·skip
               refine .pass rfl rfl rfl (.pass rfl rfl rfl (.Z00 rfl rfl rfl (.Z00 rfl rfl rfl (.Z00 rfl rfl rfl (.pass rfl rfl rfl ?_)))))
               refine .pass rfl rfl rfl (.Z00 rfl rfl rfl (.Z00 rfl rfl rfl (.pass rfl rfl rfl (.ZZ (v := (vb true)) rfl rfl rfl (.nil ?_)))))
               exact ⟨⟨or_T hc18, trivial⟩, H.weak (by omega) (Nat.le_refl _)⟩
              ·skip
               refine .wanted rfl rfl (.move (v := (vb x3.2)) rfl rfl (.wanted rfl rfl (.move (v := (vb x3.2)) rfl rfl ?_)))
               refine .mid 4 (K1 := fun e σ => Z5 e [(139, (vb (x3.2 && (decide (a ≥ b))))), (9, (vi x3.1)), (133, (vb false))] ∧ Has σ (b14 + 17) (b14 + 22) []) rfl ?_ ?_
               ·refine .split rfl rfl ?_ ?_ <;> intro hc19
                ·skip
                 refine .wanted rfl rfl (.move (v := (vi a)) rfl rfl (.wanted rfl rfl (.move (v := (vi b)) rfl rfl (.wanted rfl rfl (.int (m := a) (m' := b) (r := .bool (decide (a ≥ b))) rfl rfl rfl rfl rfl ?_)))))
                 refine .wanted rfl rfl (.ZZ (v := (vb (decide (a ≥ b)))) rfl rfl rfl (.nil ?_))
                 exact ⟨⟨Z0p hc19, rfl, rfl, trivial⟩, H.weak (by omega) (Nat.le_refl _)⟩
                ·skip
                 refine .pass rfl rfl rfl (.pass rfl rfl rfl (.pass rfl rfl rfl (.wanted rfl rfl (.Zb (v := (vb false)) rfl rfl rfl (.nil ?_)))))
                 exact ⟨⟨Z0o hc19, rfl, rfl, trivial⟩, H.weak (by omega) (Nat.le_refl _)⟩
               ·rintro e σ ⟨he, H⟩
                obtain ⟨e, rfl⟩ := he.ex
                refine .wanted rfl rfl (.move (v := (vb (x3.2 && (decide (a ≥ b))))) rfl rfl ?_)
                refine .mid 3 (K1 := fun e σ => Z5 e [(143, (vb ((x3.2 && (decide (a ≥ b))) && (decide (x3.1 > 0))))), (133, (vb false))] ∧ Has σ (b14 + 21) (b14 + 22) []) rfl ?_ ?_
                ·refine .split rfl rfl ?_ ?_ <;> intro hc20
                 ·skip
                  refine .wanted rfl rfl (.move (v := (vi x3.1)) rfl rfl (.wanted rfl rfl (.int (m := x3.1) (m' := 0) (r := .bool (decide (x3.1 > 0))) rfl rfl rfl rfl rfl (.wanted rfl rfl (.ZZ (v := (vb (decide (x3.1 > 0)))) rfl rfl rfl ?_)))))
                  refine .nil ?_
                  exact ⟨⟨Z0p hc20, rfl, trivial⟩, H.weak (by omega) (Nat.le_refl _)⟩
                 ·skip
                  refine .pass rfl rfl rfl (.pass rfl rfl rfl (.wanted rfl rfl (.Zb (v := (vb false)) rfl rfl rfl (.nil ?_))))
                  exact ⟨⟨Z0o hc20, rfl, trivial⟩, H.weak (by omega) (Nat.le_refl _)⟩
                ·rintro e σ ⟨he, H⟩
                 obtain ⟨e, rfl⟩ := he.ex
                 refine .Zb (v := (vb ((x3.2 && (decide (a ≥ b))) && (decide (x3.1 > 0))))) rfl rfl rfl (.nil ?_)
                 exact ⟨⟨or_F hc18, trivial⟩, H.weak (by omega) (Nat.le_refl _)⟩
             ·rintro e σ ⟨he, H⟩
              obtain ⟨e, rfl⟩ := he.ex
              refine .nila H fun H => ?_
              refine .whether (v := (((x3.2 && (decide (a ≤ b))) && (decide (x3.1 < 0))) || ((x3.2 && (decide (a ≥ b))) && (decide (x3.1 > 0))))) rfl ?_ ?_ <;> intro hc21
              ·replace h := Z8 hc21 h
               refine .then (.Z0 1 rfl H fun b15 σ H => (.assign (v := (vb false)) rfl rfl (.nila H fun H => (.ret ?_))))
               replace h := sj h; subst h
               exact (Ends.H (xs := [(vb false)]) (.inr rfl) H (.tmp (v := (vb false)) rfl .nil) (.one (.c (.v _))))
              ·replace h := Z9 hc21 h
               refine .skip (.then (.Z0 2 rfl H fun b16 σ H => (.call (ys := []) (r := (vb Zw)) rfl (Z3a rfl) rfl (.assign (v := (vb Zw)) rfl rfl (.nila H fun H => ?_)))))
               refine .ret ?_
               replace h := sj h; subst h
               exact (Ends.H (xs := [(vb Zw)]) (.inr rfl) H (.tmp (v := (vb Zw)) rfl .nil) (.one (.c (.v _))))

end Go.Dn

namespace Go.Dn
open Go Go.Proofs
set_option maxRecDepth 100000
set_option maxHeartbeats 4000000



end Go.Dn

namespace Go.Dn
open Go

theorem Z12 {S R : Type} {step : S → Option (S ⊕ R)} (I : S → Prop) (m : S → Nat) (post : R → Prop)
  (h : ∀ s, I s → (∃ s', step s = some (.inl s') ∧ I s' ∧ m s' < m s) ∨ (∃ r, step s = some (.inr r) ∧ post r)) : ∀ s, I s → ∃ r, ZM step s = some r ∧ post r := by
 have key : ∀ n s, m s = n → I s → ∃ r, ZM step s = some r ∧ post r := by
  intro n
  induction n using Nat.strongRecOn with
  | _ n ih =>
   intro s hm hI
   rcases h s hI with ⟨s', h1, h2, h3⟩ | ⟨r, h1, h2⟩
   ·obtain ⟨r, q1, q2⟩ := ih (m s') (by omega) s' rfl h2
    exact ⟨r, by rw [loopO_eq, h1]; exact q1, q2⟩
   ·exact ⟨r, by rw [loopO_eq, h1], h2⟩
 exact fun s hI => key _ s rfl hI

theorem Z37 {S R : Type} {step : S → Option (S ⊕ R)} (I : S → R → Prop) (m : S → Nat)
  (h : ∀ s r, I s r → (∃ s', step s = some (.inl s') ∧ I s' r ∧ m s' < m s) ∨ step s = some (.inr r)) {s : S} {r : R} (hI : I s r) : ZM step s = some r := by
 obtain ⟨r', h1, h2⟩ := Z12 (I := fun s => I s r) m (fun r' => r' = r) (fun s hs => by
  rcases h s r hs with ⟨s', h1, h2, h3⟩ | h1
  ·exact .inl ⟨s', h1, h2, h3⟩
  ·exact .inr ⟨r, h1, rfl⟩) s hI
 rw [h1, h2]

theorem Z3w (a : Int) : IntKind.i64.wrap a = (a + 9223372036854775808) % 18446744073709551616 - 9223372036854775808 := by
 simp [IntKind.wrap, IntKind.bits, IntKind.signed]
 split <;> omega
theorem Z4f (a : Int) : IntKind.u64.wrap a = a % 18446744073709551616 := by
 simp [IntKind.wrap, IntKind.bits, IntKind.signed]
theorem Zx {x : Int} (h : -9223372036854775808 ≤ x ∧ x ≤ 9223372036854775807) : w64 x = x := by
 unfold w64; rw [Z3w]; omega
theorem Z7J : maxLen = 9223372036854775807 := rfl
theorem room_eq : room = 140737488355328 := rfl

theorem at?_lt {α : Type} {l : List α} {i : Int} (h0 : 0 ≤ i) (h : i < l.length) : at? l i = some (l[i.toNat]'(by omega)) := by
 unfold at?; rw [if_pos h0, List.getElem?_eq_getElem]
theorem at?_nat {α : Type} {l : List α} {k : Nat} (h : k < l.length) : at? l (k : Int) = some l[k] := by
 rw [at?_lt (by omega) (by omega)]; rfl
theorem app?_ok {α : Type} {b : Nat} {l m : List α} (h : (l.length + m.length) * b ≤ room) : app? b l m = some (l ++ m) := if_pos h
theorem nz?_ok {b : Int} (h : b ≠ 0) : nz? b = some () := if_neg h

theorem beq_t {a b : Int} (h : a = b) : (a == b) = true := by simp [h]
theorem beq_f {a b : Int} (h : a ≠ b) : (a == b) = false := by simp [h]
theorem bne_f {a b : Int} (h : a = b) : (a != b) = false := by simp [h]
theorem ibeq (a b : Int) : (a == b) = decide (a = b) := by by_cases h : a = b <;> simp [h]
theorem Zs {p : Prop} [Decidable p] (h : p) : decide p = true := by simp [h]
theorem Z07 {p : Prop} [Decidable p] (h : ¬ p) : decide p = false := by simp [h]

theorem pickB {α : Type} (c : Bool) (a b : α) : (bif c then a else b) = if c = true then a else b := by cases c <;> rfl

theorem Z7W {α : Type} {l : List α} {good : Nat → α → Prop} (h : ¬ ∀ k x, l[k]? = some x → good k x) : ∃ (k : Nat) (x : α), l[k]? = some x ∧ ¬ good k x ∧ ∀ j y, j < k → l[j]? = some y → good j y := by
 have hex : ∃ k : Nat, ∃ x, l[k]? = some x ∧ ¬ good k x := by
  apply Classical.byContradiction
  intro hn
  exact h fun k x hk => Classical.byContradiction fun hg => hn ⟨k, x, hk, hg⟩
 obtain ⟨k, hk⟩ := hex
 induction k using Nat.strongRecOn with
 | _ k ih =>
  by_cases h : ∃ j, j < k ∧ ∃ x, l[j]? = some x ∧ ¬ good j x
  ·obtain ⟨j, hj, hx⟩ := h
   exact ih j hj hx
  ·obtain ⟨x, hx, hb⟩ := hk
   exact ⟨k, x, hx, hb, fun j y hj hy => Classical.byContradiction fun hg => h ⟨j, hj, y, hy, hg⟩⟩

theorem Z5K {α R : Type} {l : List α} {step : Int → Option (Int ⊕ R)} (good : Nat → α → Prop) {no yes : R}
  (hstep : ∀ (k : Nat) (x : α), l[k]? = some x → (∀ j y, j < k → l[j]? = some y → good j y) → (step (k : Int) = some (.inl ((k : Int) + 1)) ∧ good k x) ∨ (step (k : Int) = some (.inr no) ∧ ¬ good k x))
  (hend : step (l.length : Int) = some (.inr yes)) : (ZM step 0 = some yes ∧ ∀ k x, l[k]? = some x → good k x) ∨ (ZM step 0 = some no ∧ ¬ ∀ k x, l[k]? = some x → good k x) := by
 by_cases hall : ∀ k x, l[k]? = some x → good k x
 ·refine .inl ⟨?_, hall⟩
  refine Z37 (I := fun (s : Int) r => r = yes ∧ ∃ k : Nat, s = k ∧ k ≤ l.length) (fun s => (l.length - s.toNat)) ?_ ⟨rfl, 0, rfl, Nat.zero_le _⟩
  rintro s r ⟨rfl, k, rfl, hk⟩
  by_cases hlt : k < l.length
  ·rcases hstep k l[k] (List.getElem?_eq_getElem hlt) (fun j y _ hy => hall j y hy) with ⟨h1, _⟩ | ⟨_, h2⟩
   ·exact .inl ⟨_, h1, ⟨rfl, k + 1, by push_cast; rfl, hlt⟩, by simp; omega⟩
   ·exact absurd (hall k _ (List.getElem?_eq_getElem hlt)) h2
  ·have : k = l.length := by omega
   subst this
   exact .inr hend
 ·refine .inr ⟨?_, hall⟩
  obtain ⟨k0, x0, hx0, hb0, hgood⟩ := Z7W hall
  have hlt0 := (List.getElem?_eq_some_iff.1 hx0).1
  refine Z37 (I := fun (s : Int) r => r = no ∧ ∃ k : Nat, s = k ∧ k ≤ k0) (fun s => (l.length - s.toNat)) ?_ ⟨rfl, 0, rfl, Nat.zero_le _⟩
  rintro s r ⟨rfl, k, rfl, hk⟩
  by_cases hlt : k < k0
  ·have hkl : k < l.length := by omega
   rcases hstep k l[k] (List.getElem?_eq_getElem hkl) (fun j y hj hy => hgood j y (by omega) hy) with ⟨h1, _⟩ | ⟨_, h2⟩
   ·exact .inl ⟨_, h1, ⟨rfl, k + 1, by push_cast; rfl, hlt⟩, by simp; omega⟩
   ·exact absurd (hgood k _ hlt (List.getElem?_eq_getElem hkl)) h2
  ·have : k = k0 := by omega
   subst this
   rcases hstep k x0 hx0 hgood with ⟨_, h2⟩ | ⟨h1, _⟩
   ·exact absurd h2 hb0
   ·exact .inr h1

theorem fold_loop {α A R : Type} {l : List α} {step : A × Int → Option ((A × Int) ⊕ R)} (f : A → Nat → α → A) (fin : A → R) (I : Nat → A → Prop) {a0 : A} (h0 : I 0 a0)
  (hgo : ∀ (k : Nat) (x : α) (a : A), l[k]? = some x → I k a → step (a, (k : Int)) = some (.inl (f a k x, (k : Int) + 1)) ∧ I (k + 1) (f a k x))
  (hend : ∀ a, I l.length a → step (a, (l.length : Int)) = some (.inr (fin a))) : ∃ a, ZM step (a0, 0) = some (fin a) ∧ I l.length a := by
 obtain ⟨r, h1, a, rfl, h2⟩ := Z12 (step := step) (I := fun s => ∃ (k : Nat) (a : A), s = (a, (k : Int)) ∧ k ≤ l.length ∧ I k a) (fun s => l.length - s.2.toNat) (fun r => ∃ a, r = fin a ∧ I l.length a) (by
  rintro s ⟨k, a, rfl, hk, hI⟩
  by_cases hlt : k < l.length
  ·obtain ⟨q1, q2⟩ := hgo k l[k] a (List.getElem?_eq_getElem hlt) hI
   exact .inl ⟨_, q1, ⟨k + 1, _, by push_cast; rfl, hlt, q2⟩, by simp; omega⟩
  ·have : k = l.length := by omega
   subst this
   exact .inr ⟨_, hend a hI, a, rfl, hI⟩) (a0, 0) ⟨0, a0, rfl, Nat.zero_le _, h0⟩
 exact ⟨a, h1, h2⟩
end Go.Dn

namespace Go.Dn
open Go

def In64 (a : Int) : Prop := -9223372036854775808 ≤ a ∧ a ≤ 9223372036854775807
def Z5w (a : Int) : Prop := 0 ≤ a ∧ a ≤ 18446744073709551615
def fitS (a : Int) : Int × Int := if -9223372036854775808 ≤ a ∧ a ≤ 9223372036854775807 then (a, 0) else (0, 10)
theorem fitS_of {a : Int} (h : In64 a) : fitS a = (a, 0) := if_pos h
theorem fitS_not {a : Int} (h : ¬ In64 a) : fitS a = (0, 10) := if_neg h
theorem fit_or (x : Int) : (In64 x ∧ fitS x = (x, 0)) ∨ (¬ In64 x ∧ fitS x = (0, 10)) := by
 by_cases h : In64 x
 ·exact .inl ⟨h, fitS_of h⟩
 ·exact .inr ⟨h, fitS_not h⟩
theorem and32 (x : Int) (h : Z5w x) : (((BitVec.ofInt 64 x &&& BitVec.ofInt 64 4294967295).toNat : Nat) : Int) = x % 4294967296 := by
 obtain ⟨n, rfl⟩ := Int.eq_ofNat_of_zero_le h.1
 have hn : n < 2 ^ 64 := by have := h.2; omega
 have h1 : (BitVec.ofInt 64 (n : Int)).toNat = n := by simp [BitVec.toNat_ofInt]; omega
 have h2 : (BitVec.ofInt 64 4294967295).toNat = 2 ^ 32 - 1 := by decide
 rw [BitVec.toNat_and, h1, h2, Nat.and_two_pow_sub_one_eq_mod]
 omega

theorem mul64_fact {x y : Int} (hx : Z5w x) (hy : Z5w y) :
  (x / 4294967296 * (y / 4294967296) + (x / 4294967296 * (y % 4294967296) + x % 4294967296 * (y % 4294967296) / 4294967296) / 4294967296 +
   ((x / 4294967296 * (y % 4294967296) + x % 4294967296 * (y % 4294967296) / 4294967296) % 4294967296 + x % 4294967296 * (y / 4294967296)) / 4294967296) = x * y / 18446744073709551616 ∧
  0 ≤ x % 4294967296 * (y % 4294967296) ∧ x % 4294967296 * (y % 4294967296) ≤ 18446744065119617025 ∧
  0 ≤ x / 4294967296 * (y % 4294967296) ∧ x / 4294967296 * (y % 4294967296) ≤ 18446744065119617025 ∧
  0 ≤ x % 4294967296 * (y / 4294967296) ∧ x % 4294967296 * (y / 4294967296) ≤ 18446744065119617025 ∧
  0 ≤ x / 4294967296 * (y / 4294967296) ∧ x / 4294967296 * (y / 4294967296) ≤ 18446744065119617025 := by
 have b : ∀ {u v : Int}, 0 ≤ u → u ≤ 4294967295 → 0 ≤ v → v ≤ 4294967295 → 0 ≤ u * v ∧ u * v ≤ 18446744065119617025 := by
  intro u v h1 h2 h3 h4
  exact ⟨Int.mul_nonneg h1 h3, Int.le_trans (Int.mul_le_mul h2 h4 h3 (by omega)) (by decide)⟩
 obtain ⟨hx1, hx2⟩ := hx
 obtain ⟨hy1, hy2⟩ := hy
 obtain ⟨a1, a2⟩ := b (u := x % 4294967296) (v := y % 4294967296) (by omega) (by omega) (by omega) (by omega)
 obtain ⟨b1, b2⟩ := b (u := x / 4294967296) (v := y % 4294967296) (by omega) (by omega) (by omega) (by omega)
 obtain ⟨c1, c2⟩ := b (u := x % 4294967296) (v := y / 4294967296) (by omega) (by omega) (by omega) (by omega)
 obtain ⟨d1, d2⟩ := b (u := x / 4294967296) (v := y / 4294967296) (by omega) (by omega) (by omega) (by omega)
 refine ⟨?_, a1, a2, b1, b2, c1, c2, d1, d2⟩
 have e : x * y = x / 4294967296 * (y / 4294967296) * 18446744073709551616 + (x / 4294967296 * (y % 4294967296) + x % 4294967296 * (y / 4294967296)) * 4294967296 + x % 4294967296 * (y % 4294967296) := by
  have ex : x = x / 4294967296 * 4294967296 + x % 4294967296 := by omega
  have ey : y = y / 4294967296 * 4294967296 + y % 4294967296 := by omega
  clear a1 a2 b1 b2 c1 c2 d1 d2 b hx1 hx2 hy1 hy2
  generalize x / 4294967296 = x1 at *
  generalize x % 4294967296 = x0 at *
  generalize y / 4294967296 = y1 at *
  generalize y % 4294967296 = y0 at *
  subst ex ey
  simp only [Int.add_mul, Int.mul_add]
  have h1 : x1 * 4294967296 * (y1 * 4294967296) = x1 * y1 * 18446744073709551616 := by
   rw [Int.mul_assoc, Int.mul_comm 4294967296, Int.mul_assoc y1, ← Int.mul_assoc]
   rfl
  have h2 : x1 * 4294967296 * y0 = x1 * y0 * 4294967296 := by rw [Int.mul_assoc, Int.mul_comm 4294967296, ← Int.mul_assoc]
  have h3 : x0 * (y1 * 4294967296) = x0 * y1 * 4294967296 := by rw [← Int.mul_assoc]
  rw [h1, h2, h3]
  omega
 rw [e]
 generalize x / 4294967296 * (y / 4294967296) = d at *
 generalize x / 4294967296 * (y % 4294967296) = b' at *
 generalize x % 4294967296 * (y / 4294967296) = c at *
 generalize x % 4294967296 * (y % 4294967296) = a at *
 omega

theorem Z7q {a b : Int} (ha : In64 a) (hb : In64 b) : ZB a b = fitS (a + b) := by
 unfold In64 at ha hb
 unfold ZB fitS w64
 rw [Z3w]
 cases h : ((decide ((a + b + 9223372036854775808) % 18446744073709551616 - 9223372036854775808 > a) != decide (b > 0)) && b != 0)
 ·rw [cond_false]
  simp only [Bool.and_eq_false_iff, bne_eq_false_iff_eq, decide_eq_decide] at h
  split <;> simp only [Prod.mk.injEq, and_true] <;> omega
 ·rw [cond_true]
  simp only [Bool.and_eq_true, bne_iff_ne, ne_eq, decide_eq_decide] at h
  split <;> simp only [Prod.mk.injEq] <;> omega

theorem Z6h {a : Int} (h : In64 a) : ZD a = a.natAbs := by
 unfold In64 at h
 unfold ZD
 rw [pickB]
 simp only [decide_eq_true_eq, Z4f]
 split <;> omega

theorem inU_abs {a : Int} (h : In64 a) : Z5w a.natAbs := by unfold In64 at h; unfold Z5w; omega
theorem natAbs_prod (a b : Int) : (a.natAbs : Int) * b.natAbs = (a * b).natAbs := by rw [Int.natAbs_mul]; simp

theorem mul64_eq {x y : Int} (hx : Z5w x) (hy : Z5w y) : ZH x y = (x * y / 18446744073709551616, x * y % 18446744073709551616) := by
 unfold ZH
 have hb : ∀ z : Int, z.fdiv (2 ^ 32) = z / 4294967296 := fun z => Int.fdiv_eq_ediv_of_nonneg z (by decide)
 have hm : (IntKind.u64.bits) = 64 := rfl
 obtain ⟨h1, h2, h3, h4, h5, h6, h7, h8, h9⟩ := mul64_fact hx hy
 have hw : ∀ z : Int, 0 ≤ z → z ≤ 18446744073709551615 → IntKind.u64.wrap z = z := fun z q1 q2 => by rw [Z4f]; omega
 simp only [hb, iAnd]
 rw [hm, and32 x hx, and32 y hy]
 have x0 : 0 ≤ x % 4294967296 ∧ x % 4294967296 < 4294967296 := by omega
 have y0 : 0 ≤ y % 4294967296 ∧ y % 4294967296 < 4294967296 := by omega
 rw [hw (x % 4294967296) (by omega) (by omega), hw (y % 4294967296) (by omega) (by omega), hw _ h2 (by omega), hw _ h4 (by omega), hw _ h6 (by omega), hw _ h8 (by omega)]
 rw [hw (x / 4294967296 * (y % 4294967296) + x % 4294967296 * (y % 4294967296) / 4294967296) (by omega) (by omega)]
 rw [and32 _ ⟨by omega, by omega⟩]
 have t0 : 0 ≤ (x / 4294967296 * (y % 4294967296) + x % 4294967296 * (y % 4294967296) / 4294967296) % 4294967296 ∧ (x / 4294967296 * (y % 4294967296) + x % 4294967296 * (y % 4294967296) / 4294967296) % 4294967296 < 4294967296 := by omega
 rw [hw ((x / 4294967296 * (y % 4294967296) + x % 4294967296 * (y % 4294967296) / 4294967296) % 4294967296) (by omega) (by omega)]
 rw [hw ((x / 4294967296 * (y % 4294967296) + x % 4294967296 * (y % 4294967296) / 4294967296) % 4294967296 + x % 4294967296 * (y / 4294967296)) (by omega) (by omega)]
 rw [hw (x / 4294967296 * (y / 4294967296) + (x / 4294967296 * (y % 4294967296) + x % 4294967296 * (y % 4294967296) / 4294967296) / 4294967296) (by omega) (by omega)]
 rw [hw _ (by omega) (by omega), h1, Z4f]

theorem Z8K {n : Int} (m : Bool) (h : Z5w n) : Z0C n m = fitS (if m then -n else n) := by
 unfold Z5w at h
 unfold Z0C fitS w64
 rw [pickB, pickB, Z4f, Z3w, Z3w]
 cases m <;> simp only [Bool.true_and, Bool.false_and, Bool.not_true, Bool.not_false, decide_eq_true_eq, Bool.false_eq_true, if_false, if_true]
 ·split
  ·rw [if_pos (by omega)]; simp only [Prod.mk.injEq, and_true]; omega
  ·rw [if_neg (by omega)]
 ·split
  ·rw [if_pos (by omega)]; simp only [Prod.mk.injEq, and_true]; omega
  ·rw [if_neg (by omega)]

theorem safe_Mul_eq {a b : Int} (ha : In64 a) (hb : In64 b) : Z0E a b = fitS (a * b) := by
 unfold Z0E
 rw [Z6h ha, Z6h hb, mul64_eq (inU_abs ha) (inU_abs hb), pickB]
 simp only [natAbs_prod]
 rw [Z8K _ (by unfold Z5w; omega)]
 by_cases h : ((a * b).natAbs : Int) / 18446744073709551616 = 0
 ·rw [if_neg (by simp [h])]
  have e : ((a * b).natAbs : Int) % 18446744073709551616 = (a * b).natAbs := by omega
  rw [e]
  show fitS _ = _
  refine congrArg fitS ?_
  by_cases h1 : a < 0 <;> by_cases h2 : b < 0 <;> simp only [h1, h2, decide_true, decide_false]
  ·have := Int.mul_nonneg_of_nonpos_of_nonpos (Int.le_of_lt h1) (Int.le_of_lt h2)
   simp; omega
  ·have := Int.mul_nonpos_of_nonpos_of_nonneg (Int.le_of_lt h1) (Int.not_lt.1 h2)
   simp; omega
  ·have := Int.mul_nonpos_of_nonneg_of_nonpos (Int.not_lt.1 h1) (Int.le_of_lt h2)
   simp; omega
  ·have := Int.mul_nonneg (Int.not_lt.1 h1) (Int.not_lt.1 h2)
   simp; omega
 ·rw [if_pos (by simp [h])]
  unfold fitS
  rw [if_neg]
  omega

def Z6S (a b : Int) : Int × Int × Int := if b = 0 then (0, 0, 11) else if b = -1 ∧ a = -9223372036854775808 then (0, 0, 10) else (a.fdiv b, a.fmod b, 0)
theorem floor_up {a b : Int} (hb : b ≠ 0) (h1 : a.tmod b ≠ 0) (h2 : ¬(a.tmod b < 0 ↔ b < 0)) : a.fdiv b = a.tdiv b - 1 ∧ a.fmod b = a.tmod b + b := by
 have q1 := Int.emod_nonneg a hb
 have q2 := Int.emod_lt a hb
 have hd : b ∣ a ↔ a % b = 0 := Int.dvd_iff_emod_eq_zero
 rw [Int.fdiv_eq_ediv, Int.fmod_eq_emod, Int.tdiv_eq_ediv]
 rw [Int.tmod_eq_emod] at h1 h2 ⊢
 simp only [hd] at h1 h2 ⊢
 rcases Int.lt_or_gt_of_ne hb with h | h
 ·rw [Int.sign_eq_neg_one_of_neg h]
  split at h1 <;> split <;> simp_all <;> omega
 ·rw [Int.sign_eq_one_of_pos h]
  split at h1 <;> split <;> simp_all <;> omega

theorem floor_same {a b : Int} (hb : b ≠ 0) (h : a.tmod b = 0 ∨ (a.tmod b < 0 ↔ b < 0)) : a.fdiv b = a.tdiv b ∧ a.fmod b = a.tmod b := by
 have q1 := Int.emod_nonneg a hb
 have q2 := Int.emod_lt a hb
 have hd : b ∣ a ↔ a % b = 0 := Int.dvd_iff_emod_eq_zero
 rw [Int.fdiv_eq_ediv, Int.fmod_eq_emod, Int.tdiv_eq_ediv]
 rw [Int.tmod_eq_emod] at h ⊢
 simp only [hd] at h ⊢
 rcases Int.lt_or_gt_of_ne hb with hh | hh
 ·rw [Int.sign_eq_neg_one_of_neg hh]
  split at h <;> split <;> simp_all <;> omega
 ·rw [Int.sign_eq_one_of_pos hh]
  split at h <;> split <;> simp_all <;> omega

theorem tdiv_in {a b : Int} (ha : In64 a) (hb : b ≠ 0) (hn : ¬(b = -1 ∧ a = -9223372036854775808)) : In64 (a.tdiv b) := by
 have h : (a.tdiv b).natAbs = a.natAbs / b.natAbs := Int.natAbs_tdiv a b
 obtain ⟨h1, h2⟩ := ha
 by_cases hb1 : b = 1
 ·subst hb1; rw [Int.tdiv_one]; exact ⟨h1, h2⟩
 ·by_cases hb2 : b = -1
  ·have ha' : a ≠ -9223372036854775808 := fun e => hn ⟨hb2, e⟩
   have : a.natAbs / b.natAbs ≤ a.natAbs := Nat.div_le_self _ _
   unfold In64; omega
  ·have h3 : a.natAbs / b.natAbs ≤ a.natAbs / 2 := Nat.div_le_div_left (by omega) (by omega)
   unfold In64; omega

theorem tdiv_in1 {a b : Int} (ha : In64 a) (hb : b ≠ 0) (h1 : a.tmod b ≠ 0) : In64 (a.tdiv b - 1) := by
 have h : (a.tdiv b).natAbs = a.natAbs / b.natAbs := Int.natAbs_tdiv a b
 obtain ⟨h2, h3⟩ := ha
 by_cases hb1 : b = 1
 ·subst hb1; simp at h1
 ·by_cases hb2 : b = -1
  ·subst hb2; simp at h1
  ·have h3 : a.natAbs / b.natAbs ≤ a.natAbs / 2 := Nat.div_le_div_left (by omega) (by omega)
   unfold In64; omega

theorem wrap_in {a : Int} (h : In64 a) : IntKind.i64.wrap a = a := by rw [Z3w]; unfold In64 at h; omega

theorem fmod_in {a b : Int} (hb : In64 b) (hb0 : b ≠ 0) : In64 (a.fmod b) := by
 have q1 := Int.emod_nonneg a hb0
 have q2 := Int.emod_lt a hb0
 rw [Int.fmod_eq_emod]
 unfold In64 at *
 split <;> omega

theorem floor_leaf1 {a b : Int} (ha : In64 a) (hb : In64 b) (h0 : b ≠ 0) (hn : ¬(b = -1 ∧ a = -9223372036854775808)) (h1 : a.tmod b ≠ 0) (h2 : ¬(a.tmod b < 0 ↔ b < 0)) :
  (IntKind.i64.wrap (IntKind.i64.wrap (a.tdiv b) - 1), IntKind.i64.wrap (a.tmod b + b), (0 : Int)) = Z6S a b := by
 obtain ⟨e1, e2⟩ := floor_up h0 h1 h2
 rw [Z6S, if_neg h0, if_neg hn, e1, e2, wrap_in (tdiv_in ha h0 hn), wrap_in (tdiv_in1 ha h0 h1), wrap_in (by rw [← e2]; exact fmod_in hb h0)]

theorem floor_leaf2 {a b : Int} (ha : In64 a) (hb : In64 b) (h0 : b ≠ 0) (hn : ¬(b = -1 ∧ a = -9223372036854775808)) (h : a.tmod b = 0 ∨ (a.tmod b < 0 ↔ b < 0)) :
  (IntKind.i64.wrap (a.tdiv b), a.tmod b, (0 : Int)) = Z6S a b := by
 obtain ⟨e1, e2⟩ := floor_same h0 h
 rw [Z6S, if_neg h0, if_neg hn, e1, e2, wrap_in (tdiv_in ha h0 hn)]


theorem Z60 {a b : Int} (ha : In64 a) (hb : In64 b) : Z0y a b = some (Z6S a b) := by
 unfold Z0y
 by_cases h0 : b = 0
 ·subst h0; rfl
 rw [beq_f h0, cond_false]
 by_cases hn : b = -1 ∧ a = -9223372036854775808
 ·obtain ⟨rfl, rfl⟩ := hn
  rfl
 have : (b == -1 && a == -9223372036854775808) = false := by
  simp only [Bool.and_eq_false_iff, beq_eq_false_iff_ne]
  by_cases h : b = -1
  ·exact .inr fun e => hn ⟨h, e⟩
  ·exact .inl h
 rw [this, cond_false, nz?_ok h0]
 simp only [Option.bind_some, pickB, Bool.and_eq_true, bne_iff_ne, ne_eq, decide_eq_decide]
 split
 ·rename_i h
  simp only [Option.bind_some]
  exact congrArg some (floor_leaf1 ha hb h0 hn h.1 h.2)
 ·rename_i h
  simp only [Option.bind_some]
  refine congrArg some (floor_leaf2 ha hb h0 hn ?_)
  by_cases h1 : a.tmod b = 0
  ·exact .inl h1
  ·exact .inr (Classical.byContradiction fun h2 => h ⟨h1, h2⟩)

theorem Z5E {a b : Int} (hb : 0 < b) : a.fdiv b = a / b ∧ a.fmod b = a % b := ⟨Int.fdiv_eq_ediv_of_nonneg a (Int.le_of_lt hb), Int.fmod_eq_emod_of_nonneg a (Int.le_of_lt hb)⟩
theorem floorS_pos {a b : Int} (hb : 0 < b) : Z6S a b = (a / b, a % b, 0) := by
 unfold Z6S
 rw [if_neg (by omega), if_neg (by omega), (Z5E hb).1, (Z5E hb).2]

end Go.Dn
