/- Part 3 of what the row stands on. -/
import Derived.Test.YtliohipholncpaaM2
set_option linter.unusedVariables false
set_option linter.unusedSimpArgs false
namespace Go.Dn
open Go Go.Proofs
set_option maxRecDepth 100000
set_option maxHeartbeats 4000000

theorem spans_Move_fn {l : (List Span)} {by' : Int} {r : (List Span) × Int} (h : Z0J l by' = some r) : Fn CX 57 [(vl Span.cs l), (vi by')] (.tup [(vl Span.cs r.1), (vi r.2)]) := by
 refine Fn.ends Try.func57 rfl rfl rfl rfl rfl rfl ?_
 have H : Hs (⟨0, fun _ => .none⟩ : Heap) [] := Has.nil (Nat.le_refl _)
 generalize (⟨0, fun _ => .none⟩ : Heap) = σ at H ⊢
 unfold Z0J at h
 refine .then (.Z0 2 rfl H fun b1 σ H => (.assign (v := .nils) rfl rfl (.assign (v := (vi 0)) rfl rfl (.nila H fun H => (.then ?_)))))
 refine .Z0 1 rfl H fun b2 σ H => (.assign (v := .nils) rfl rfl (.nila H fun H => (.then (.then (.Z0 3 rfl H fun b3 σ H => ?_)))))
 refine .move (v := (vl Span.cs l)) rfl rfl (.Z0K (c := Span.cs) (xs := l) rfl rfl rfl (.move (v := (vi 0)) rfl rfl (.nila H fun H => (.inBlock ?_))))
 replace H := H.pushNil 43 2 true
 obtain ⟨y1, hj1, h⟩ := bind_some h
 obtain ⟨n1, hj1⟩ := Zb.1 hj1
 refine .mono (Runs.ZO hj1 (fun s2 e σ => ∃ (w3 : PV), Z4 e [(1, (vi by')), (6, w3), (13, (vl Span.cs l)), (14, (vi (l.length : Int))), (15, (vi s2.1))] ∧ Hs σ [.sl w3 43 2 (s2.2.map Span.cs) true]) (fun y1 x e σ => (∃ a1, ∃ (w4 : PV), y1 = (.go a1) ∧ x = .exit 0 ∧ Z4 e [(6, w4)] ∧ Hs σ [.sl w4 43 2 (a1.map Span.cs) true]) ∨ (∃ r', y1 = (.ret r') ∧ x = .ret ∧ Ends CX Try.f57.results.toList (.tup [(vl Span.cs r'.1), (vi r'.2)]) x e σ)) ⟨.nils, ⟨rfl, rfl, rfl, rfl, rfl, trivial⟩, H⟩ ?_) ?_
 ·intro s2 e σ hI z h
  obtain ⟨w3, he, H⟩ := hI
  obtain ⟨e, rfl⟩ := he.ex
  unfold Z0J.s0 at h
  refine .then (.Z0 1 rfl H fun b4 σ H => (.int (m := s2.1) (m' := (l.length : Int)) (r := .bool (decide (s2.1 < (l.length : Int)))) rfl rfl rfl rfl rfl (.nila H fun H => (.then ?_))))
  refine .whether (v := (decide (s2.1 < (l.length : Int)))) rfl ?_ ?_ <;> intro hc1
  ·replace h := Z7 hc1 h
   refine .skip (.then (.inBlock (.then (.Z0 4 rfl H fun b5 σ H => ?_))))
   obtain ⟨x1, q1, h⟩ := bind_some h
   refine .Zy (c := Span.cs) (u := x1) rfl rfl q1 rfl rfl rfl rfl (.Z26 (cs := [(.int .i64 x1.From), (.int .i64 x1.To)]) rfl rfl rfl rfl rfl rfl (.Zk (cs := [(vi 0), (vi 0)]) H (by omega) (by omega) rfl rfl fun σ H => (.ZV (off := 0) (cells' := [(vi x1.From), (vi x1.To)]) H 0 rfl rfl rfl rfl rfl rfl rfl rfl rfl nofun fun σ H => (.nila H fun H => (.then ?_)))))
   refine .Z0 9 rfl H fun b6 σ H => (.Z2 (off := 0) (fo := 0) H 0 rfl rfl rfl rfl rfl nofun rfl (.ZC (off := 0) (v := (vi x1.From)) H 0 rfl rfl rfl rfl rfl nofun rfl (.move (v := (vi by')) rfl rfl (.call (ys := [(vi x1.From), (vi by')]) (r := (.tup [(vi (ZF x1.From by').1), (vi (ZF x1.From by').2)])) rfl (Z8h rfl) rfl (.move (v := (.tup [(vi (ZF x1.From by').1), (vi (ZF x1.From by').2)])) rfl rfl ?_)))))
   refine .extract (v := (vi (ZF x1.From by').1)) rfl rfl rfl (.extract (v := (vi (ZF x1.From by').2)) rfl rfl rfl (.assign (v := (vi (ZF x1.From by').1)) rfl rfl (.assign (v := (vi (ZF x1.From by').2)) rfl rfl (.nila H fun H => (.then ?_)))))
   refine .Z0 9 rfl H fun b7 σ H => (.Z2 (off := 0) (fo := 1) H 0 rfl rfl rfl rfl rfl nofun rfl (.ZC (off := 1) (v := (vi x1.To)) H 0 rfl rfl rfl rfl rfl nofun rfl (.move (v := (vi by')) rfl rfl (.call (ys := [(vi x1.To), (vi by')]) (r := (.tup [(vi (ZF x1.To by').1), (vi (ZF x1.To by').2)])) rfl (Z8h rfl) rfl (.move (v := (.tup [(vi (ZF x1.To by').1), (vi (ZF x1.To by').2)])) rfl rfl ?_)))))
   refine .extract (v := (vi (ZF x1.To by').1)) rfl rfl rfl (.extract (v := (vi (ZF x1.To by').2)) rfl rfl rfl (.assign (v := (vi (ZF x1.To by').1)) rfl rfl (.assign (v := (vi (ZF x1.To by').2)) rfl rfl (.nila H fun H => (.then ?_)))))
   refine .then (.Z0 16 rfl H fun b8 σ H => (.move (v := (vi (ZF x1.From by').2)) rfl rfl (.int (m := (ZF x1.From by').2) (m' := 0) (r := .bool (((ZF x1.From by').2) != 0)) rfl rfl rfl rfl rfl (.move (v := (vb (((ZF x1.From by').2) != 0))) rfl rfl ?_))))
   refine .mid 3 (K1 := fun e σ => Z4 e [(38, (vb ((((ZF x1.From by').2) != 0) || (((ZF x1.To by').2) != 0)))), (1, (vi by')), (6, w3), (9, (vi (ZF x1.From by').1)), (11, (vi (ZF x1.To by').1)), (13, (vl Span.cs l)), (14, (vi (l.length : Int))), (15, (vi s2.1))] ∧ Has σ (b8 + 6) (b8 + 16) [.sl w3 43 2 (s2.2.map Span.cs) true]) rfl ?_ ?_
   ·refine .split rfl rfl ?_ ?_ <;> intro hc2
    ·skip
     refine .pass rfl rfl rfl (.pass rfl rfl rfl (.Zf (v := (vb true)) rfl rfl rfl (.nil ?_)))
     exact ⟨⟨or_T hc2, rfl, rfl, rfl, rfl, rfl, rfl, rfl, trivial⟩, (H.erase 0).weak (by omega) (Nat.le_refl _)⟩
    ·skip
     refine .wanted rfl rfl (.move (v := (vi (ZF x1.To by').2)) rfl rfl (.wanted rfl rfl (.int (m := (ZF x1.To by').2) (m' := 0) (r := .bool (((ZF x1.To by').2) != 0)) rfl rfl rfl rfl rfl (.Zh (v := (vb (((ZF x1.To by').2) != 0))) rfl rfl rfl (.nil ?_)))))
     exact ⟨⟨or_F hc2, rfl, rfl, rfl, rfl, rfl, rfl, rfl, trivial⟩, (H.erase 0).weak (by omega) (Nat.le_refl _)⟩
   ·rintro e σ ⟨he, H⟩
    obtain ⟨e, rfl⟩ := he.ex
    refine .move (v := (vb ((((ZF x1.From by').2) != 0) || (((ZF x1.To by').2) != 0)))) rfl rfl ?_
    refine .mid 4 (K1 := fun e σ => Z4 e [(43, (vb (((((ZF x1.From by').2) != 0) || (((ZF x1.To by').2) != 0)) || (!(Zg ((ZF x1.From by').1)))))), (1, (vi by')), (6, w3), (9, (vi (ZF x1.From by').1)), (11, (vi (ZF x1.To by').1)), (13, (vl Span.cs l)), (14, (vi (l.length : Int))), (15, (vi s2.1))] ∧ Has σ (b8 + 11) (b8 + 16) [.sl w3 43 2 (s2.2.map Span.cs) true]) rfl ?_ ?_
    ·refine .split rfl rfl ?_ ?_ <;> intro hc3
     ·skip
      refine .pass rfl rfl rfl (.pass rfl rfl rfl (.pass rfl rfl rfl (.Zf (v := (vb true)) rfl rfl rfl (.nil ?_))))
      exact ⟨⟨or_T hc3, rfl, rfl, rfl, rfl, rfl, rfl, rfl, trivial⟩, H.weak (by omega) (Nat.le_refl _)⟩
     ·skip
      refine .wanted rfl rfl (.move (v := (vi (ZF x1.From by').1)) rfl rfl (.wanted rfl rfl (.call (ys := [(vi (ZF x1.From by').1)]) (r := (vb (Zg ((ZF x1.From by').1)))) rfl (Z3j rfl) rfl (.wanted rfl rfl (.not (b := (Zg ((ZF x1.From by').1))) rfl rfl ?_)))))
      refine .Zh (v := (vb (!(Zg ((ZF x1.From by').1))))) rfl rfl rfl (.nil ?_)
      exact ⟨⟨or_F hc3, rfl, rfl, rfl, rfl, rfl, rfl, rfl, trivial⟩, H.weak (by omega) (Nat.le_refl _)⟩
    ·rintro e σ ⟨he, H⟩
     obtain ⟨e, rfl⟩ := he.ex
     refine .move (v := (vb (((((ZF x1.From by').2) != 0) || (((ZF x1.To by').2) != 0)) || (!(Zg ((ZF x1.From by').1)))))) rfl rfl ?_
     refine .mid 4 (K1 := fun e σ => Z4 e [(48, (vb ((((((ZF x1.From by').2) != 0) || (((ZF x1.To by').2) != 0)) || (!(Zg ((ZF x1.From by').1)))) || (!(Zg ((ZF x1.To by').1)))))), (1, (vi by')), (6, w3), (9, (vi (ZF x1.From by').1)), (11, (vi (ZF x1.To by').1)), (13, (vl Span.cs l)), (14, (vi (l.length : Int))), (15, (vi s2.1))] ∧ Has σ (b8 + 16) (b8 + 16) [.sl w3 43 2 (s2.2.map Span.cs) true]) rfl ?_ ?_
     ·refine .split rfl rfl ?_ ?_ <;> intro hc4
      ·skip
       refine .pass rfl rfl rfl (.pass rfl rfl rfl (.pass rfl rfl rfl (.Zf (v := (vb true)) rfl rfl rfl (.nil ?_))))
       exact ⟨⟨or_T hc4, rfl, rfl, rfl, rfl, rfl, rfl, rfl, trivial⟩, H.weak (by omega) (Nat.le_refl _)⟩
      ·skip
       refine .wanted rfl rfl (.move (v := (vi (ZF x1.To by').1)) rfl rfl (.wanted rfl rfl (.call (ys := [(vi (ZF x1.To by').1)]) (r := (vb (Zg ((ZF x1.To by').1)))) rfl (Z3j rfl) rfl (.wanted rfl rfl (.not (b := (Zg ((ZF x1.To by').1))) rfl rfl ?_)))))
       refine .Zh (v := (vb (!(Zg ((ZF x1.To by').1))))) rfl rfl rfl (.nil ?_)
       exact ⟨⟨or_F hc4, rfl, rfl, rfl, rfl, rfl, rfl, rfl, trivial⟩, H.weak (by omega) (Nat.le_refl _)⟩
     ·rintro e σ ⟨he, H⟩
      obtain ⟨e, rfl⟩ := he.ex
      refine .nila H fun H => ?_
      refine .whether (v := ((((((ZF x1.From by').2) != 0) || (((ZF x1.To by').2) != 0)) || (!(Zg ((ZF x1.From by').1)))) || (!(Zg ((ZF x1.To by').1))))) rfl ?_ ?_ <;> intro hc5
      ·replace h := Z7 hc5 h
       refine .then (.Z0 2 rfl H fun b9 σ H => (.assign (v := .nils) rfl rfl (.assign (v := (vi 20)) rfl rfl (.nila H fun H => (.ret ?_)))))
       replace h := sj h; subst h
       exact ⟨nofun, (.inr ⟨_, rfl, rfl, (Ends.H (xs := [.nils, (vi 20)]) (.inr rfl) H (.tmp (v := .nils) rfl (.tmp (v := (vi 20)) rfl .nil)) (.two (.cons (.c .n) (.cons (.c (.v _)) .nil))))⟩)⟩
      ·replace h := Z8 hc5 h
       refine .skip (.Z0 7 rfl H fun b10 σ H => (.move (v := w3) rfl rfl (.move (v := (vi (ZF x1.From by').1)) rfl rfl (.move (v := (vi (ZF x1.To by').1)) rfl rfl (.Z0I (cs := [(vi (ZF x1.From by').1), (vi (ZF x1.To by').1)]) rfl rfl ?_)))))
       refine .Z3K (sz := 2) ([(Span.mk ((ZF x1.From by').1) ((ZF x1.To by').1))].map Span.cs) H (by omega) (by omega) rfl rfl rfl rfl rfl rfl rfl rfl rfl fun σ H => ?_
       obtain ⟨x2, q2, h⟩ := bind_some h
       refine .Z6G (c := Span.cs) (v := w3) (w := (.buf (b10 + 4) 1 2)) (xs := s2.2) (ys := [(Span.mk ((ZF x1.From by').1) ((ZF x1.To by').1))]) H (by omega) (by omega) 1 rfl rfl rfl (.s 0 rfl) q2 rfl rfl rfl rfl rfl nofun rfl fun w5 σ H => (.assign (v := w5) rfl rfl (.nila H fun H => (.Z0 2 rfl H fun b11 σ H => (.int (m := s2.1) (m' := 1) (r := .int .i64 (w64 (s2.1 + 1))) rfl rfl rfl rfl rfl (.move (v := (vi (w64 (s2.1 + 1)))) rfl rfl ?_)))))
       refine .nila H fun H => ?_
       replace h := sj h; subst h
       exact ⟨rfl, w5, ⟨rfl, rfl, rfl, rfl, rfl, trivial⟩, (H.erase 0)⟩
  ·replace h := Z8 hc1 h
   refine .exit ?_
   replace h := sj h; subst h
   exact ⟨nofun, (.inl ⟨_, w3, rfl, rfl, ⟨rfl, trivial⟩, H⟩)⟩
 ·rintro x e σ (⟨a2, w6, rfl, rfl, he, H⟩ | ⟨r', rfl, rfl, hE⟩)
  ·skip
   replace h := jgo h
   obtain ⟨e, rfl⟩ := he.ex
   refine .then (.Z0 3 rfl H fun b12 σ H => (.move (v := w6) rfl rfl (.assign (v := w6) rfl rfl (.assign (v := (vi 0)) rfl rfl (.nila H fun H => ?_)))))
   refine .ret ?_
   replace h := sj h; subst h
   exact (Ends.H (xs := [w6, (vi 0)]) (.inr rfl) H (.tmp (v := w6) rfl (.tmp (v := (vi 0)) rfl .nil)) (.two (.cons (.c (.s 0 rfl)) (.cons (.c (.v _)) .nil))))
  ·skip
   replace h := jret h
   replace h := sj h; subst h
   exact hE

theorem Z3D {f : Form} {i : Int} {r : (List Span) × Int} (h : Z0L f i = some r) : Fn CX 31 [(.agg (vs (Form.cs f))), (vi i)] (.tup [(vl Span.cs r.1), (vi r.2)]) := by
 refine Fn.ends Try.func31 rfl rfl rfl rfl rfl rfl ?_
 have H : Hs (⟨0, fun _ => .none⟩ : Heap) [] := Has.nil (Nat.le_refl _)
 generalize (⟨0, fun _ => .none⟩ : Heap) = σ at H ⊢
 unfold Z0L at h
 refine .then (.Z0 3 rfl H fun b1 σ H => (.boxH (cs := (vF f)) H (by omega) (by omega) rfl rfl rfl fun σ H => (.assign (v := .nils) rfl rfl (.assign (v := (vi 0)) rfl rfl (.nila H fun H => ?_)))))
 refine .then (.then (.Z0 3 rfl H fun b2 σ H => (.move (v := (vi i)) rfl rfl (.call (ys := [(vi i)]) (r := (vb (Z02 i))) rfl (Z3x rfl) rfl (.not (b := (Z02 i)) rfl rfl ?_)))))
 refine .nila H fun H => ?_
 refine .whether (v := (!(Z02 i))) rfl ?_ ?_ <;> intro hc1
 ·replace h := Z7 hc1 h
  refine .then (.Z0 2 rfl H fun b3 σ H => (.assign (v := .nils) rfl rfl (.assign (v := (vi 20)) rfl rfl (.nila H fun H => (.ret ?_)))))
  replace h := sj h; subst h
  exact (Ends.H (xs := [.nils, (vi 20)]) (.inr rfl) H (.tmp (v := .nils) rfl (.tmp (v := (vi 20)) rfl .nil)) (.two (.cons (.c .n) (.cons (.c (.v _)) .nil))))
 ·replace h := Z8 hc1 h
  refine .skip (.then (.Z0 10 rfl H fun b4 σ H => (.ZI (off := 0) (cs := (vF f)) H 0 rfl rfl rfl rfl rfl rfl rfl nofun rfl (.move (v := (vi i)) rfl rfl ?_))))
  obtain ⟨x1, q1, h⟩ := bind_some h
  refine .call (ys := [(.agg (vF f)), (vi i)]) (r := (.tup [(vl Span.cs x1.1), (vi x1.2.1), (vi x1.2.2)])) rfl (Z7s q1) rfl (.move (v := (.tup [(vl Span.cs x1.1), (vi x1.2.1), (vi x1.2.2)])) rfl rfl (.extract (v := (vl Span.cs x1.1)) rfl rfl rfl (.extract (v := (vi x1.2.1)) rfl rfl rfl (.extract (v := (vi x1.2.2)) rfl rfl rfl (.assign (v := (vl Span.cs x1.1)) rfl rfl ?_)))))
  refine .assign (v := (vi x1.2.1)) rfl rfl (.assign (v := (vi x1.2.2)) rfl rfl (.nila H fun H => (.then (.then (.Z0 3 rfl H fun b5 σ H => ?_)))))
  refine .move (v := (vl Span.cs x1.1)) rfl rfl (.Z0K (c := Span.cs) (xs := x1.1) rfl rfl rfl (.int (m := (x1.1.length : Int)) (m' := 0) (r := .bool ((x1.1.length : Int) == 0)) rfl rfl rfl rfl rfl (.nila H fun H => ?_)))
  refine .whether (v := ((x1.1.length : Int) == 0)) rfl ?_ ?_ <;> intro hc2
  ·replace h := Z7 hc2 h
   refine .then (.Z0 2 rfl H fun b6 σ H => (.assign (v := .nils) rfl rfl (.assign (v := (vi 0)) rfl rfl (.nila H fun H => (.ret ?_)))))
   replace h := sj h; subst h
   exact (Ends.H (xs := [.nils, (vi 0)]) (.inr rfl) H (.tmp (v := .nils) rfl (.tmp (v := (vi 0)) rfl .nil)) (.two (.cons (.c .n) (.cons (.c (.v _)) .nil))))
  ·replace h := Z8 hc2 h
   refine .skip (.then (.then (.Z0 2 rfl H fun b7 σ H => (.move (v := (vi x1.2.2)) rfl rfl (.int (m := x1.2.2) (m' := 0) (r := .bool (x1.2.2 != 0)) rfl rfl rfl rfl rfl ?_)))))
   refine .nila H fun H => ?_
   refine .whether (v := (x1.2.2 != 0)) rfl ?_ ?_ <;> intro hc3
   ·replace h := Z7 hc3 h
    refine .then (.Z0 2 rfl H fun b8 σ H => (.assign (v := .nils) rfl rfl (.assign (v := (vi 20)) rfl rfl (.nila H fun H => (.ret ?_)))))
    replace h := sj h; subst h
    exact (Ends.H (xs := [.nils, (vi 20)]) (.inr rfl) H (.tmp (v := .nils) rfl (.tmp (v := (vi 20)) rfl .nil)) (.two (.cons (.c .n) (.cons (.c (.v _)) .nil))))
   ·replace h := Z8 hc3 h
    refine .skip (.then (.Z0 7 rfl H fun b9 σ H => (.move (v := (vl Span.cs x1.1)) rfl rfl (.move (v := (vi x1.2.1)) rfl rfl ?_))))
    obtain ⟨x2, q2, h⟩ := bind_some h
    refine .call (ys := [(vl Span.cs x1.1), (vi x1.2.1)]) (r := (.tup [(vl Span.cs x2.1), (vi x2.2)])) rfl (spans_Move_fn q2) rfl (.extract (v := (vl Span.cs x2.1)) rfl rfl rfl (.extract (v := (vi x2.2)) rfl rfl rfl (.assign (v := (vl Span.cs x2.1)) rfl rfl (.assign (v := (vi x2.2)) rfl rfl (.nila H fun H => ?_)))))
    refine .ret ?_
    replace h := sj h; subst h
    exact (Ends.H (xs := [(vl Span.cs x2.1), (vi x2.2)]) (.inr rfl) H (.tmp (v := (vl Span.cs x2.1)) rfl (.tmp (v := (vi x2.2)) rfl .nil)) (.two (.cons (.c (.v _)) (.cons (.c (.v _)) .nil))))

theorem Z3N {s : (List (List Span))} {f : (List Span) → Option Bool} {C : List Res} {cv0 : PV} (hs0 : cv0.still = true) (hp0 : cv0.pure = true → C = []) (hf0 : ∀ z0 y, f z0 = some y → CloH CX cv0 [(vl Span.cs z0)] (vb y) C) {r : Int} (h : ZK s f = some r) : FnH CX 131 [(vl (cL Span.cs) s), cv0] (vi r) C := by
 refine FnH.of Try.func131 rfl rfl rfl rfl (Z4X rfl (Z4X hs0 all_nil)) rfl (fun h => hp0 (Z46 h 1 rfl)) ?_
 intro σ L hC H
 unfold ZK at h
 refine .then (.Z0 1 rfl H fun b1 σ H => (.assign (v := (vi 0)) rfl rfl (.nila H fun H => (.then (.then ?_)))))
 refine .Z0 3 rfl H fun b2 σ H => (.move (v := (vl (cL Span.cs) s)) rfl rfl (.Z0K (c := (cL Span.cs)) (xs := s) rfl rfl rfl (.move (v := (vi 0)) rfl rfl (.nila H fun H => (.inBlock ?_)))))
 obtain ⟨y1, hj1, h⟩ := bind_some h
 obtain ⟨n1, hj1⟩ := Zb.1 hj1
 refine .mono (Runs.ZO hj1 (fun s1 e σ => Z4 e [(0, (vl (cL Span.cs) s)), (1, cv0), (7, (vi (s.length : Int))), (8, (vi s1))] ∧ Hs σ (L)) (fun y1 x e σ => (∃ a1, y1 = (.go a1) ∧ x = .exit 0 ∧ Z4 e [] ∧ Hs σ (L)) ∨ (∃ r', y1 = (.ret r') ∧ x = .ret ∧ EndsH CX Try.f131.results.toList (vi r') L x e σ)) ⟨⟨rfl, rfl, rfl, rfl, trivial⟩, H⟩ ?_) ?_
 ·intro s1 e σ hI z h
  obtain ⟨he, H⟩ := hI
  obtain ⟨e, rfl⟩ := he.ex
  unfold ZK.s0 at h
  refine .then (.Z0 1 rfl H fun b3 σ H => (.int (m := s1) (m' := (s.length : Int)) (r := .bool (decide (s1 < (s.length : Int)))) rfl rfl rfl rfl rfl (.nila H fun H => (.then ?_))))
  refine .whether (v := (decide (s1 < (s.length : Int)))) rfl ?_ ?_ <;> intro hc1
  ·replace h := Z7 hc1 h
   refine .skip (.then (.inBlock (.then (.Z0 2 rfl H fun b4 σ H => (.move (v := (vi s1)) rfl rfl ?_)))))
   refine .assign (v := (vi s1)) rfl rfl (.nila H fun H => (.then (.Z0 6 rfl H fun b5 σ H => (.move (v := cv0) rfl rfl (.move (v := (vl (cL Span.cs) s)) rfl rfl ?_)))))
   refine .move (v := (vi s1)) rfl rfl ?_
   obtain ⟨x1, q1, h⟩ := bind_some h
   refine .Zy (c := (cL Span.cs)) (u := x1) rfl rfl q1 rfl rfl rfl rfl (.Z1p (u := (.sl (x1.map Span.cs))) rfl rfl rfl rfl ?_)
   obtain ⟨x2, q2, h⟩ := bind_some h
   refine .callV (cv := cv0) (ys := [(vl Span.cs x1)]) (r := (vb x2)) H rfl rfl (hf0 x1 _ q2) hC nofun rfl fun σ H => (.nila H fun H => ?_)
   refine .whether (v := x2) rfl ?_ ?_ <;> intro hc2
   ·replace h := Z7 hc2 h
    refine .then (.Z0 2 rfl H fun b6 σ H => (.move (v := (vi s1)) rfl rfl (.assign (v := (vi s1)) rfl rfl (.nila H fun H => (.ret ?_)))))
    replace h := sj h; subst h
    exact ⟨nofun, (.inr ⟨_, rfl, rfl, (EndsH.H (xs := [(vi s1)]) (.inr rfl) H (.tmp (v := (vi s1)) rfl .nil) (.one (.c (.v _))) 0 rfl)⟩)⟩
   ·replace h := Z8 hc2 h
    refine .skip (.Z0 2 rfl H fun b7 σ H => (.int (m := s1) (m' := 1) (r := .int .i64 (w64 (s1 + 1))) rfl rfl rfl rfl rfl (.move (v := (vi (w64 (s1 + 1)))) rfl rfl (.nila H fun H => ?_))))
    replace h := sj h; subst h
    exact ⟨rfl, ⟨rfl, rfl, rfl, rfl, trivial⟩, H⟩
  ·replace h := Z8 hc1 h
   refine .exit ?_
   replace h := sj h; subst h
   exact ⟨nofun, (.inl ⟨_, rfl, rfl, trivial, H⟩)⟩
 ·rintro x e σ (⟨a2, rfl, rfl, he, H⟩ | ⟨r', rfl, rfl, hE⟩)
  ·skip
   replace h := jgo h
   obtain ⟨e, rfl⟩ := he.ex
   refine .then (.Z0 1 rfl H fun b8 σ H => (.assign (v := (vi (-1))) rfl rfl (.nila H fun H => (.ret ?_))))
   replace h := sj h; subst h
   exact (EndsH.H (xs := [(vi (-1))]) (.inr rfl) H (.tmp (v := (vi (-1))) rfl .nil) (.one (.c (.v _))) 0 rfl)
  ·skip
   replace h := jret h
   replace h := sj h; subst h
   exact hE

theorem Z1K {s : (List (List Span))} {f : (List Span) → Option Bool} {C : List Res} {cv0 : PV} (hs0 : cv0.still = true) (hp0 : cv0.pure = true → C = []) (hf0 : ∀ z0 y, f z0 = some y → CloH CX cv0 [(vl Span.cs z0)] (vb y) C) {r : Bool} (h : Zi s f = some r) : FnH CX 116 [(vl (cL Span.cs) s), cv0] (vb r) C := by
 refine FnH.of Try.func116 rfl rfl rfl rfl (Z4X rfl (Z4X hs0 all_nil)) rfl (fun h => hp0 (Z46 h 1 rfl)) ?_
 intro σ L hC H
 unfold Zi at h
 refine .then (.Z0 1 rfl H fun b1 σ H => (.assign (v := (vb false)) rfl rfl (.nila H fun H => (.then (.Z0 5 rfl H fun b2 σ H => ?_)))))
 refine .move (v := (vl (cL Span.cs) s)) rfl rfl (.move (v := cv0) rfl rfl ?_)
 obtain ⟨x1, q1, h⟩ := bind_some h
 refine .Z6u (ys := [(vl (cL Span.cs) s), cv0]) (r := (vi x1)) H rfl (Z3N (C := C) hs0 hp0 hf0 q1) hC nofun rfl fun σ H => (.int (m := x1) (m' := 0) (r := .bool (decide (x1 ≥ 0))) rfl rfl rfl rfl rfl (.assign (v := (vb (decide (x1 ≥ 0)))) rfl rfl (.nila H fun H => (.ret ?_))))
 replace h := sj h; subst h
 exact (EndsH.H (xs := [(vb (decide (x1 ≥ 0)))]) (.inr rfl) H (.tmp (v := (vb (decide (x1 ≥ 0)))) rfl .nil) (.one (.c (.v _))) 0 rfl)

theorem Z9h {l : (List Span)} {r : Bool} (h : Z4h l = r) : Fn CX 134 [(vl Span.cs l)] (vb r) := by
 refine Fn.ends Try.func134 rfl rfl rfl rfl rfl rfl ?_
 have H : Hs (⟨0, fun _ => .none⟩ : Heap) [] := Has.nil (Nat.le_refl _)
 generalize (⟨0, fun _ => .none⟩ : Heap) = σ at H ⊢
 unfold Z4h at h
 refine .then (.Z0 1 rfl H fun b1 σ H => (.assign (v := (vb false)) rfl rfl (.nila H fun H => (.then (.Z0 4 rfl H fun b2 σ H => ?_)))))
 refine .move (v := (vl Span.cs l)) rfl rfl (.Z0K (c := Span.cs) (xs := l) rfl rfl rfl (.int (m := (l.length : Int)) (m' := 0) (r := .bool (decide ((l.length : Int) > 0))) rfl rfl rfl rfl rfl (.assign (v := (vb (decide ((l.length : Int) > 0)))) rfl rfl (.nila H fun H => (.ret ?_)))))
 subst h
 exact (Ends.H (xs := [(vb (decide ((l.length : Int) > 0)))]) (.inr rfl) H (.tmp (v := (vb (decide ((l.length : Int) > 0)))) rfl .nil) (.one (.c (.v _))))

theorem gran_bare_fn {f : Form} {r : Bool} (h : Z3X f = some r) : Fn CX 122 [(.agg (vs (Form.cs f)))] (vb r) := by
 refine Fn.ends Try.func122 rfl rfl rfl rfl rfl rfl ?_
 have H : Hs (⟨0, fun _ => .none⟩ : Heap) [] := Has.nil (Nat.le_refl _)
 generalize (⟨0, fun _ => .none⟩ : Heap) = σ at H ⊢
 unfold Z3X at h
 refine .then (.Z0 2 rfl H fun b1 σ H => (.boxH (cs := (vF f)) H (by omega) (by omega) rfl rfl rfl fun σ H => (.assign (v := (vb false)) rfl rfl (.nila H fun H => (.then ?_)))))
 refine .Z0 5 rfl H fun b2 σ H => (.Z2 (off := 0) (fo := 2) H 0 rfl rfl rfl rfl rfl nofun rfl (.ZC (off := 2) (v := (vl (cL Span.cs) f.Core)) H 0 rfl rfl rfl rfl rfl nofun rfl ?_))
 obtain ⟨x1, q1, h⟩ := bind_some h
 refine .Z6u (ys := [(vl (cL Span.cs) f.Core), (.v (.fn 134))]) (r := (vb x1)) H rfl (Z1K (C := []) rfl (fun _ => rfl) (fun z0 y hz => (CloH.fn (Fn.toH (Z9h (Option.some.inj hz)) _))) q1) .nil nofun rfl fun σ H => (.not (b := x1) rfl rfl (.assign (v := (vb (!x1))) rfl rfl (.nila H fun H => (.ret ?_))))
 replace h := sj h; subst h
 exact (Ends.H (xs := [(vb (!x1))]) (.inr rfl) H (.tmp (v := (vb (!x1))) rfl .nil) (.one (.c (.v _))))

theorem gran_some_fn {f : Form} {i : Int} {r : Bool} (h : Z5I f i = some r) : Fn CX 123 [(.agg (vs (Form.cs f))), (vi i)] (vb r) := by
 refine Fn.ends Try.func123 rfl rfl rfl rfl rfl rfl ?_
 have H : Hs (⟨0, fun _ => .none⟩ : Heap) [] := Has.nil (Nat.le_refl _)
 generalize (⟨0, fun _ => .none⟩ : Heap) = σ at H ⊢
 unfold Z5I at h
 refine .then (.Z0 2 rfl H fun b1 σ H => (.boxH (cs := (vF f)) H (by omega) (by omega) rfl rfl rfl fun σ H => (.assign (v := (vb false)) rfl rfl (.nila H fun H => (.then ?_)))))
 refine .Z0 10 rfl H fun b2 σ H => (.ZI (off := 0) (cs := (vF f)) H 0 rfl rfl rfl rfl rfl rfl rfl nofun rfl (.move (v := (vi i)) rfl rfl ?_))
 obtain ⟨x1, q1, h⟩ := bind_some h
 refine .call (ys := [(.agg (vF f)), (vi i)]) (r := (.tup [(vl Span.cs x1.1), (vi x1.2.1), (vi x1.2.2)])) rfl (Z7s q1) rfl (.move (v := (.tup [(vl Span.cs x1.1), (vi x1.2.1), (vi x1.2.2)])) rfl rfl (.extract (v := (vl Span.cs x1.1)) rfl rfl rfl (.extract (v := (vi x1.2.1)) rfl rfl rfl (.extract (v := (vi x1.2.2)) rfl rfl rfl (.assign (v := (vl Span.cs x1.1)) rfl rfl ?_)))))
 refine .assign (v := (vi x1.2.1)) rfl rfl (.assign (v := (vi x1.2.2)) rfl rfl (.nila H fun H => (.then (.Z0 4 rfl H fun b3 σ H => (.move (v := (vl Span.cs x1.1)) rfl rfl ?_)))))
 refine .Z0K (c := Span.cs) (xs := x1.1) rfl rfl rfl (.int (m := (x1.1.length : Int)) (m' := 0) (r := .bool (decide ((x1.1.length : Int) > 0))) rfl rfl rfl rfl rfl (.assign (v := (vb (decide ((x1.1.length : Int) > 0)))) rfl rfl (.nila H fun H => (.ret ?_))))
 replace h := sj h; subst h
 exact (Ends.H (xs := [(vb (decide ((x1.1.length : Int) > 0)))]) (.inr rfl) H (.tmp (v := (vb (decide ((x1.1.length : Int) > 0)))) rfl .nil) (.one (.c (.v _))))

theorem Z7e {f : Form} {from' : Int} {by' : Int} {r : Int × Bool} (h : Z0E f from' by' = some r) : Fn CX 97 [(.agg (vs (Form.cs f))), (vi from'), (vi by')] (.tup [(vi r.1), (vb r.2)]) := by
 refine Fn.ends Try.func97 rfl rfl rfl rfl rfl rfl ?_
 have H : Hs (⟨0, fun _ => .none⟩ : Heap) [] := Has.nil (Nat.le_refl _)
 generalize (⟨0, fun _ => .none⟩ : Heap) = σ at H ⊢
 unfold Z0E at h
 refine .then (.Z0 3 rfl H fun b1 σ H => (.boxH (cs := (vF f)) H (by omega) (by omega) rfl rfl rfl fun σ H => (.assign (v := (vi 0)) rfl rfl (.assign (v := (vb false)) rfl rfl (.nila H fun H => ?_)))))
 refine .then (.then (.Z0 2 rfl H fun b2 σ H => (.ZI (off := 0) (cs := (vF f)) H 0 rfl rfl rfl rfl rfl rfl rfl nofun rfl ?_)))
 obtain ⟨x1, q1, h⟩ := bind_some h
 refine .call (ys := [(.agg (vF f))]) (r := (vb x1)) rfl (gran_bare_fn q1) rfl (.nila H fun H => ?_)
 refine .whether (v := x1) rfl ?_ ?_ <;> intro hc1
 ·replace h := Z7 hc1 h
  refine .then (.Z0 8 rfl H fun b3 σ H => (.ZI (off := 0) (cs := (vF f)) H 0 rfl rfl rfl rfl rfl rfl rfl nofun rfl (.move (v := (vi from')) rfl rfl ?_)))
  obtain ⟨x2, q2, h⟩ := bind_some h
  refine .call (ys := [(.agg (vF f)), (vi from')]) (r := (.tup [(vi x2.1), (vb x2.2)])) rfl (Z8l q2) rfl (.move (v := (.tup [(vi x2.1), (vb x2.2)])) rfl rfl (.extract (v := (vi x2.1)) rfl rfl rfl (.extract (v := (vb x2.2)) rfl rfl rfl (.assign (v := (vi x2.1)) rfl rfl (.assign (v := (vb x2.2)) rfl rfl ?_)))))
  refine .nila H fun H => (.then ?_)
  obtain ⟨y1, hj1, h⟩ := bind_some h
  refine .mono (Q := fun x e σ => x = .normal ∧ Z4 e [(2, (vi by')), (3, (.ptr (b1 + 0) 4 0)), (8, (vi y1))] ∧ Hs σ [.blk (b1 + 0) 25 (vF f)]) ?_ ?_
  ·replace h := hj1
   refine .then (.Z0 6 rfl H fun b4 σ H => (.move (v := (vi by')) rfl rfl (.int (m := by') (m' := 0) (r := .bool (decide (by' < 0))) rfl rfl rfl rfl rfl (.move (v := (vb (decide (by' < 0)))) rfl rfl ?_))))
   refine .mid 3 (K1 := fun e σ => Z4 e [(24, (vb ((decide (by' < 0)) && (!x2.2)))), (2, (vi by')), (3, (.ptr (b1 + 0) 4 0)), (8, (vi x2.1))] ∧ Has σ (b4 + 6) (b4 + 6) [.blk (b1 + 0) 25 (vF f)]) rfl ?_ ?_
   ·refine .split rfl rfl ?_ ?_ <;> intro hc2
    ·skip
     refine .wanted rfl rfl (.move (v := (vb x2.2)) rfl rfl (.wanted rfl rfl (.not (b := x2.2) rfl rfl (.Zf (v := (vb (!x2.2))) rfl rfl rfl (.nil ?_)))))
     exact ⟨⟨Z15 hc2, rfl, rfl, rfl, trivial⟩, H.weak (by omega) (Nat.le_refl _)⟩
    ·skip
     refine .pass rfl rfl rfl (.pass rfl rfl rfl (.Zh (v := (vb false)) rfl rfl rfl (.nil ?_)))
     exact ⟨⟨Z19 hc2, rfl, rfl, rfl, trivial⟩, H.weak (by omega) (Nat.le_refl _)⟩
   ·rintro e σ ⟨he, H⟩
    obtain ⟨e, rfl⟩ := he.ex
    refine .nila H fun H => ?_
    refine .whether (v := ((decide (by' < 0)) && (!x2.2))) rfl ?_ ?_ <;> intro hc3
    ·replace h := Z7 hc3 h
     refine .Z0 3 rfl H fun b5 σ H => (.move (v := (vi x2.1)) rfl rfl (.int (m := x2.1) (m' := 1) (r := .int .i64 (w64 (x2.1 - 1))) rfl rfl rfl rfl rfl (.assign (v := (vi (w64 (x2.1 - 1)))) rfl rfl (.nila H fun H => ?_))))
     replace h := sj h; subst h
     exact ⟨rfl, ⟨rfl, rfl, rfl, trivial⟩, H⟩
    ·replace h := Z8 hc3 h
     refine .skip ?_
     replace h := sj h; subst h
     exact ⟨rfl, ⟨rfl, rfl, rfl, trivial⟩, H⟩
  ·rintro x e σ ⟨rfl, he, H⟩
   obtain ⟨e, rfl⟩ := he.ex
   refine .then (.inBlock ?_)
   obtain ⟨y2, hj2, h⟩ := bind_some h
   obtain ⟨n1, hj2⟩ := Zb.1 hj2
   refine .mono (Runs.ZO hj2 (fun s1 e σ => Z4 e [(2, (vi by')), (3, (.ptr (b1 + 0) 4 0)), (8, (vi s1))] ∧ Hs σ [.blk (b1 + 0) 25 (vF f)]) (fun y2 x e σ => (∃ a1, y2 = (.go a1) ∧ x = .exit 0 ∧ Z4 e [] ∧ Hs σ []) ∨ (∃ r', y2 = (.ret r') ∧ x = .ret ∧ Ends CX Try.f97.results.toList (.tup [(vi r'.1), (vb r'.2)]) x e σ)) ⟨⟨rfl, rfl, rfl, trivial⟩, H⟩ ?_) ?_
   ·intro s1 e σ hI z h
    obtain ⟨he, H⟩ := hI
    obtain ⟨e, rfl⟩ := he.ex
    unfold Z0E.s0 at h
    refine .then (.then (.Z0 9 rfl H fun b6 σ H => (.move (v := (vi s1)) rfl rfl (.int (m := s1) (m' := 0) (r := .bool (decide (s1 ≥ 0))) rfl rfl rfl rfl rfl (.move (v := (vb (decide (s1 ≥ 0)))) rfl rfl ?_)))))
    refine .mid 6 (K1 := fun e σ => Z4 e [(35, (vb ((decide (s1 ≥ 0)) && (decide (s1 < (f.Odd.length : Int)))))), (2, (vi by')), (3, (.ptr (b1 + 0) 4 0)), (8, (vi s1))] ∧ Has σ (b6 + 9) (b6 + 9) [.blk (b1 + 0) 25 (vF f)]) rfl ?_ ?_
    ·refine .split rfl rfl ?_ ?_ <;> intro hc4
     ·skip
      refine .wanted rfl rfl (.move (v := (vi s1)) rfl rfl (.wanted rfl rfl (.Z2 (off := 0) (fo := 3) H 0 rfl rfl rfl rfl rfl nofun rfl (.wanted rfl rfl (.ZC (off := 3) (v := (vl Granule.cs f.Odd)) H 0 rfl rfl rfl rfl rfl nofun rfl ?_)))))
      refine .wanted rfl rfl (.Z0K (c := Granule.cs) (xs := f.Odd) rfl rfl rfl (.wanted rfl rfl (.int (m := s1) (m' := (f.Odd.length : Int)) (r := .bool (decide (s1 < (f.Odd.length : Int)))) rfl rfl rfl rfl rfl (.Zf (v := (vb (decide (s1 < (f.Odd.length : Int))))) rfl rfl rfl (.nil ?_)))))
      exact ⟨⟨Z15 hc4, rfl, rfl, rfl, trivial⟩, H.weak (by omega) (Nat.le_refl _)⟩
     ·skip
      refine .pass rfl rfl rfl (.pass rfl rfl rfl (.pass rfl rfl rfl (.pass rfl rfl rfl (.pass rfl rfl rfl (.Zh (v := (vb false)) rfl rfl rfl ?_)))))
      refine .nil ?_
      exact ⟨⟨Z19 hc4, rfl, rfl, rfl, trivial⟩, H.weak (by omega) (Nat.le_refl _)⟩
    ·rintro e σ ⟨he, H⟩
     obtain ⟨e, rfl⟩ := he.ex
     refine .nila H fun H => ?_
     refine .whether (v := ((decide (s1 ≥ 0)) && (decide (s1 < (f.Odd.length : Int))))) rfl ?_ ?_ <;> intro hc5
     ·replace h := Z7 hc5 h
      refine .skip (.then (.inBlock (.then (.Z0 8 rfl H fun b7 σ H => (.Z2 (off := 0) (fo := 3) H 0 rfl rfl rfl rfl rfl nofun rfl ?_)))))
      refine .ZC (off := 3) (v := (vl Granule.cs f.Odd)) H 0 rfl rfl rfl rfl rfl nofun rfl (.move (v := (vi s1)) rfl rfl ?_)
      obtain ⟨x3, q3, h⟩ := bind_some h
      refine .Zy (c := Granule.cs) (u := x3) rfl rfl q3 rfl rfl rfl rfl (.Z08 rfl rfl rfl rfl (.Z1p (u := (.sl (x3.Ticks.map Span.cs))) rfl rfl rfl rfl (.Z0K (c := Span.cs) (xs := x3.Ticks) rfl rfl rfl (.int (m := (x3.Ticks.length : Int)) (m' := 0) (r := .bool (decide ((x3.Ticks.length : Int) > 0))) rfl rfl rfl rfl rfl (.nila H fun H => ?_)))))
      refine .whether (v := (decide ((x3.Ticks.length : Int) > 0))) rfl ?_ ?_ <;> intro hc6
      ·replace h := Z7 hc6 h
       refine .then (.Z0 8 rfl H fun b8 σ H => (.Z2 (off := 0) (fo := 3) H 0 rfl rfl rfl rfl rfl nofun rfl (.ZC (off := 3) (v := (vl Granule.cs f.Odd)) H 0 rfl rfl rfl rfl rfl nofun rfl (.move (v := (vi s1)) rfl rfl ?_))))
       obtain ⟨x4, q4, h⟩ := bind_some h
       refine .Zy (c := Granule.cs) (u := x4) rfl rfl q4 rfl rfl rfl rfl (.Z08 rfl rfl rfl rfl (.Z1p (u := (.int .i64 x4.Index)) rfl rfl rfl rfl (.assign (v := (vi x4.Index)) rfl rfl (.assign (v := (vb true)) rfl rfl (.nila H fun H => ?_)))))
       refine .ret ?_
       replace h := sj h; subst h
       exact ⟨nofun, (.inr ⟨_, rfl, rfl, (Ends.H (xs := [(vi x4.Index), (vb true)]) (.inr rfl) H (.tmp (v := (vi x4.Index)) rfl (.tmp (v := (vb true)) rfl .nil)) (.two (.cons (.c (.v _)) (.cons (.c (.v _)) .nil))))⟩)⟩
      ·replace h := Z8 hc6 h
       refine .skip (.Z0 4 rfl H fun b9 σ H => (.move (v := (vi s1)) rfl rfl (.move (v := (vi by')) rfl rfl (.int (m := s1) (m' := by') (r := .int .i64 (w64 (s1 + by'))) rfl rfl rfl rfl rfl (.assign (v := (vi (w64 (s1 + by')))) rfl rfl ?_)))))
       refine .nila H fun H => ?_
       replace h := sj h; subst h
       exact ⟨rfl, ⟨rfl, rfl, rfl, trivial⟩, H⟩
     ·replace h := Z8 hc5 h
      refine .exit ?_
      replace h := sj h; subst h
      exact ⟨nofun, (.inl ⟨_, rfl, rfl, trivial, (H.erase 0)⟩)⟩
   ·rintro x e σ (⟨a2, rfl, rfl, he, H⟩ | ⟨r', rfl, rfl, hE⟩)
    ·skip
     replace h := jgo h
     obtain ⟨e, rfl⟩ := he.ex
     refine .then (.Z0 2 rfl H fun b10 σ H => (.assign (v := (vi 0)) rfl rfl (.assign (v := (vb false)) rfl rfl (.nila H fun H => (.ret ?_)))))
     replace h := sj h; subst h
     exact (Ends.H (xs := [(vi 0), (vb false)]) (.inr rfl) H (.tmp (v := (vi 0)) rfl (.tmp (v := (vb false)) rfl .nil)) (.two (.cons (.c (.v _)) (.cons (.c (.v _)) .nil))))
    ·skip
     replace h := jret h
     replace h := sj h; subst h
     exact hE
 ·replace h := Z8 hc1 h
  refine .skip (.then (.then (.Z0 2 rfl H fun b11 σ H => (.move (v := (vi from')) rfl rfl (.assign (v := (vi from')) rfl rfl ?_)))))
  refine .nila H fun H => (.inBlock ?_)
  obtain ⟨y3, hj3, h⟩ := bind_some h
  obtain ⟨n2, hj3⟩ := Zb.1 hj3
  refine .mono (Runs.ZO hj3 (fun s2 e σ => Z4 e [(2, (vi by')), (3, (.ptr (b1 + 0) 4 0)), (10, (vi s2))] ∧ Hs σ [.blk (b1 + 0) 25 (vF f)]) (fun y3 x e σ => (∃ a3, y3 = (.go a3) ∧ x = .exit 2 ∧ Z4 e [] ∧ Hs σ []) ∨ (∃ r', y3 = (.ret r') ∧ x = .ret ∧ Ends CX Try.f97.results.toList (.tup [(vi r'.1), (vb r'.2)]) x e σ)) ⟨⟨rfl, rfl, rfl, trivial⟩, H⟩ ?_) ?_
  ·intro s2 e σ hI z h
   obtain ⟨he, H⟩ := hI
   obtain ⟨e, rfl⟩ := he.ex
   unfold Z0E.s1 at h
   refine .then (.then (.Z0 2 rfl H fun b12 σ H => (.move (v := (vi s2)) rfl rfl (.call (ys := [(vi s2)]) (r := (vb (Z02 s2))) rfl (Z3x rfl) rfl (.nila H fun H => ?_)))))
   refine .whether (v := (Z02 s2)) rfl ?_ ?_ <;> intro hc7
   ·replace h := Z7 hc7 h
    refine .skip (.then (.inBlock (.then (.Z0 3 rfl H fun b13 σ H => (.ZI (off := 0) (cs := (vF f)) H 0 rfl rfl rfl rfl rfl rfl rfl nofun rfl ?_)))))
    refine .move (v := (vi s2)) rfl rfl ?_
    obtain ⟨x5, q5, h⟩ := bind_some h
    refine .call (ys := [(.agg (vF f)), (vi s2)]) (r := (vb x5)) rfl (gran_some_fn q5) rfl (.nila H fun H => ?_)
    refine .whether (v := x5) rfl ?_ ?_ <;> intro hc8
    ·replace h := Z7 hc8 h
     refine .then (.Z0 3 rfl H fun b14 σ H => (.move (v := (vi s2)) rfl rfl (.assign (v := (vi s2)) rfl rfl (.assign (v := (vb true)) rfl rfl (.nila H fun H => ?_)))))
     refine .ret ?_
     replace h := sj h; subst h
     exact ⟨nofun, (.inr ⟨_, rfl, rfl, (Ends.H (xs := [(vi s2), (vb true)]) (.inr rfl) H (.tmp (v := (vi s2)) rfl (.tmp (v := (vb true)) rfl .nil)) (.two (.cons (.c (.v _)) (.cons (.c (.v _)) .nil))))⟩)⟩
    ·replace h := Z8 hc8 h
     refine .skip (.Z0 4 rfl H fun b15 σ H => (.move (v := (vi s2)) rfl rfl (.move (v := (vi by')) rfl rfl (.int (m := s2) (m' := by') (r := .int .i64 (w64 (s2 + by'))) rfl rfl rfl rfl rfl (.assign (v := (vi (w64 (s2 + by')))) rfl rfl ?_)))))
     refine .nila H fun H => ?_
     replace h := sj h; subst h
     exact ⟨rfl, ⟨rfl, rfl, rfl, trivial⟩, H⟩
   ·replace h := Z8 hc7 h
    refine .exit ?_
    replace h := sj h; subst h
    exact ⟨nofun, (.inl ⟨_, rfl, rfl, trivial, (H.erase 0)⟩)⟩
  ·rintro x e σ (⟨a4, rfl, rfl, he, H⟩ | ⟨r', rfl, rfl, hE⟩)
   ·skip
    replace h := jgo h
    obtain ⟨e, rfl⟩ := he.ex
    refine .then (.Z0 2 rfl H fun b16 σ H => (.assign (v := (vi 0)) rfl rfl (.assign (v := (vb false)) rfl rfl (.nila H fun H => (.ret ?_)))))
    replace h := sj h; subst h
    exact (Ends.H (xs := [(vi 0), (vb false)]) (.inr rfl) H (.tmp (v := (vi 0)) rfl (.tmp (v := (vb false)) rfl .nil)) (.two (.cons (.c (.v _)) (.cons (.c (.v _)) .nil))))
   ·skip
    replace h := jret h
    replace h := sj h; subst h
    exact hE

theorem Z9f {f : Form} {i : Int} {r : Int × Bool} (h : Z1y f i = some r) : Fn CX 71 [(.agg (vs (Form.cs f))), (vi i)] (.tup [(vi r.1), (vb r.2)]) := by
 refine Fn.ends Try.func71 rfl rfl rfl rfl rfl rfl ?_
 have H : Hs (⟨0, fun _ => .none⟩ : Heap) [] := Has.nil (Nat.le_refl _)
 generalize (⟨0, fun _ => .none⟩ : Heap) = σ at H ⊢
 unfold Z1y at h
 refine .then (.Z0 3 rfl H fun b1 σ H => (.boxH (cs := (vF f)) H (by omega) (by omega) rfl rfl rfl fun σ H => (.assign (v := (vi 0)) rfl rfl (.assign (v := (vb false)) rfl rfl (.nila H fun H => ?_)))))
 refine .then (.then (.Z0 2 rfl H fun b2 σ H => (.move (v := (vi i)) rfl rfl (.int (m := i) (m' := (-1099511627776)) (r := .bool (decide (i ≤ (-1099511627776)))) rfl rfl rfl rfl rfl (.nila H fun H => ?_)))))
 refine .whether (v := (decide (i ≤ (-1099511627776)))) rfl ?_ ?_ <;> intro hc1
 ·replace h := Z7 hc1 h
  refine .then (.Z0 2 rfl H fun b3 σ H => (.assign (v := (vi 0)) rfl rfl (.assign (v := (vb false)) rfl rfl (.nila H fun H => (.ret ?_)))))
  replace h := sj h; subst h
  exact (Ends.H (xs := [(vi 0), (vb false)]) (.inr rfl) H (.tmp (v := (vi 0)) rfl (.tmp (v := (vb false)) rfl .nil)) (.two (.cons (.c (.v _)) (.cons (.c (.v _)) .nil))))
 ·replace h := Z8 hc1 h
  refine .skip (.then (.Z0 9 rfl H fun b4 σ H => (.ZI (off := 0) (cs := (vF f)) H 0 rfl rfl rfl rfl rfl rfl rfl nofun rfl (.move (v := (vi i)) rfl rfl (.int (m := i) (m' := 1) (r := .int .i64 (w64 (i - 1))) rfl rfl rfl rfl rfl ?_)))))
  refine .min2 rfl rfl rfl ?_
  obtain ⟨x1, q1, h⟩ := bind_some h
  refine .call (ys := [(.agg (vF f)), (vi (iMin (w64 (i - 1)) 1099511627776)), (vi (-1))]) (r := (.tup [(vi x1.1), (vb x1.2)])) rfl (Z7e q1) rfl (.extract (v := (vi x1.1)) rfl rfl rfl (.extract (v := (vb x1.2)) rfl rfl rfl (.assign (v := (vi x1.1)) rfl rfl (.assign (v := (vb x1.2)) rfl rfl (.nila H fun H => ?_)))))
  refine .ret ?_
  replace h := sj h; subst h
  exact (Ends.H (xs := [(vi x1.1), (vb x1.2)]) (.inr rfl) H (.tmp (v := (vi x1.1)) rfl (.tmp (v := (vb x1.2)) rfl .nil)) (.two (.cons (.c (.v _)) (.cons (.c (.v _)) .nil))))

theorem Z4b {f : Form} {i : Int} {r : Int × Bool} (h : Z1d f i = some r) : Fn CX 72 [(.agg (vs (Form.cs f))), (vi i)] (.tup [(vi r.1), (vb r.2)]) := by
 refine Fn.ends Try.func72 rfl rfl rfl rfl rfl rfl ?_
 have H : Hs (⟨0, fun _ => .none⟩ : Heap) [] := Has.nil (Nat.le_refl _)
 generalize (⟨0, fun _ => .none⟩ : Heap) = σ at H ⊢
 unfold Z1d at h
 refine .then (.Z0 3 rfl H fun b1 σ H => (.boxH (cs := (vF f)) H (by omega) (by omega) rfl rfl rfl fun σ H => (.assign (v := (vi 0)) rfl rfl (.assign (v := (vb false)) rfl rfl (.nila H fun H => ?_)))))
 refine .then (.then (.Z0 2 rfl H fun b2 σ H => (.move (v := (vi i)) rfl rfl (.int (m := i) (m' := 1099511627776) (r := .bool (decide (i ≥ 1099511627776))) rfl rfl rfl rfl rfl (.nila H fun H => ?_)))))
 refine .whether (v := (decide (i ≥ 1099511627776))) rfl ?_ ?_ <;> intro hc1
 ·replace h := Z7 hc1 h
  refine .then (.Z0 2 rfl H fun b3 σ H => (.assign (v := (vi 0)) rfl rfl (.assign (v := (vb false)) rfl rfl (.nila H fun H => (.ret ?_)))))
  replace h := sj h; subst h
  exact (Ends.H (xs := [(vi 0), (vb false)]) (.inr rfl) H (.tmp (v := (vi 0)) rfl (.tmp (v := (vb false)) rfl .nil)) (.two (.cons (.c (.v _)) (.cons (.c (.v _)) .nil))))
 ·replace h := Z8 hc1 h
  refine .skip (.then (.Z0 9 rfl H fun b4 σ H => (.ZI (off := 0) (cs := (vF f)) H 0 rfl rfl rfl rfl rfl rfl rfl nofun rfl (.move (v := (vi i)) rfl rfl (.int (m := i) (m' := 1) (r := .int .i64 (w64 (i + 1))) rfl rfl rfl rfl rfl ?_)))))
  refine .max2 rfl rfl rfl ?_
  obtain ⟨x1, q1, h⟩ := bind_some h
  refine .call (ys := [(.agg (vF f)), (vi (iMax (w64 (i + 1)) (-1099511627776))), (vi 1)]) (r := (.tup [(vi x1.1), (vb x1.2)])) rfl (Z7e q1) rfl (.extract (v := (vi x1.1)) rfl rfl rfl (.extract (v := (vb x1.2)) rfl rfl rfl (.assign (v := (vi x1.1)) rfl rfl (.assign (v := (vb x1.2)) rfl rfl (.nila H fun H => ?_)))))
  refine .ret ?_
  replace h := sj h; subst h
  exact (Ends.H (xs := [(vi x1.1), (vb x1.2)]) (.inr rfl) H (.tmp (v := (vi x1.1)) rfl (.tmp (v := (vb x1.2)) rfl .nil)) (.two (.cons (.c (.v _)) (.cons (.c (.v _)) .nil))))

theorem Z4Z {a : (List Span)} {b : (List Span)} {r : Bool} (h : Z16 a b = some r) : Fn CX 73 [(vl Span.cs a), (vl Span.cs b)] (vb r) := by
 refine Fn.ends Try.func73 rfl rfl rfl rfl rfl rfl ?_
 have H : Hs (⟨0, fun _ => .none⟩ : Heap) [] := Has.nil (Nat.le_refl _)
 generalize (⟨0, fun _ => .none⟩ : Heap) = σ at H ⊢
 unfold Z16 at h
 refine .then (.Z0 1 rfl H fun b1 σ H => (.assign (v := (vb false)) rfl rfl (.nila H fun H => (.then (.Z0w 23 rfl (by kernel_rfl) H fun b2 σ H B2 => ?_)))))
 refine .move (v := (vl Span.cs a)) rfl rfl (.Z0K (c := Span.cs) (xs := a) rfl rfl rfl (.int (m := (a.length : Int)) (m' := 0) (r := .bool ((a.length : Int) == 0)) rfl rfl rfl rfl rfl (.move (v := (vb ((a.length : Int) == 0))) rfl rfl ?_)))
 refine .mid 4 (K1 := fun e σ => Z4 e [(12, (vb (((a.length : Int) == 0) || ((b.length : Int) == 0)))), (0, (vl Span.cs a)), (1, (vl Span.cs b))] ∧ Has σ (b2 + 8) (b2 + 23) []) rfl ?_ ?_
 ·refine .split rfl rfl ?_ ?_ <;> intro hc1
  ·skip
   refine .pass rfl rfl rfl (.pass rfl rfl rfl (.pass rfl rfl rfl (.Zf (v := (vb true)) rfl rfl rfl (.nil ?_))))
   exact ⟨⟨or_T hc1, rfl, rfl, trivial⟩, H.weak (by omega) (Nat.le_refl _)⟩
  ·skip
   refine .wanted rfl rfl (.move (v := (vl Span.cs b)) rfl rfl (.wanted rfl rfl (.Z0K (c := Span.cs) (xs := b) rfl rfl rfl (.wanted rfl rfl (.int (m := (b.length : Int)) (m' := 0) (r := .bool ((b.length : Int) == 0)) rfl rfl rfl rfl rfl ?_)))))
   refine .Zh (v := (vb ((b.length : Int) == 0))) rfl rfl rfl (.nil ?_)
   exact ⟨⟨or_F hc1, rfl, rfl, trivial⟩, H.weak (by omega) (Nat.le_refl _)⟩
 ·rintro e σ ⟨he, H⟩
  obtain ⟨e, rfl⟩ := he.ex
  refine .move (v := (vb (((a.length : Int) == 0) || ((b.length : Int) == 0)))) rfl rfl ?_
  obtain ⟨y1, hj1, h⟩ := bind_some h
  refine .mid 13 (K1 := fun e σ => Z4 e [(26, (vb y1))] ∧ Has σ (b2 + 22) (b2 + 23) []) rfl ?_ ?_
  ·refine .split rfl rfl ?_ ?_ <;> intro hc2
   ·replace h := Z7 hc2 hj1
    refine .pass rfl rfl rfl (.pass rfl rfl rfl (.pass rfl rfl rfl (.pass rfl rfl rfl (.pass rfl rfl rfl (.pass rfl rfl rfl ?_)))))
    refine .pass rfl rfl rfl (.pass rfl rfl rfl (.pass rfl rfl rfl (.pass rfl rfl rfl (.pass rfl rfl rfl (.pass rfl rfl rfl ?_)))))
    refine .Zf (v := (vb true)) rfl rfl rfl (.nil ?_)
    replace h := sj h; subst h
    exact ⟨⟨rfl, trivial⟩, H.weak (by omega) (Nat.le_refl _)⟩
   ·replace h := Z8 hc2 hj1
    refine .wanted rfl rfl (.move (v := (vl Span.cs a)) rfl rfl (.wanted rfl rfl (.move (v := (vl Span.cs a)) rfl rfl (.wanted rfl rfl (.Z0K (c := Span.cs) (xs := a) rfl rfl rfl ?_)))))
    refine .wanted rfl rfl (.int (m := (a.length : Int)) (m' := 1) (r := .int .i64 (w64 ((a.length : Int) - 1))) rfl rfl rfl rfl rfl (.wanted rfl rfl ?_))
    obtain ⟨x1, q1, h⟩ := bind_some h
    refine .Zy (c := Span.cs) (u := x1) rfl rfl q1 rfl rfl rfl rfl (.wanted rfl rfl (.Z08 rfl rfl rfl rfl (.wanted rfl rfl (.Z1p (u := (.int .i64 x1.To)) rfl rfl rfl rfl (.wanted rfl rfl ?_)))))
    refine .move (v := (vl Span.cs b)) rfl rfl (.wanted rfl rfl ?_)
    obtain ⟨x2, q2, h⟩ := bind_some h
    refine .Zy (c := Span.cs) (u := x2) rfl rfl q2 rfl rfl rfl rfl (.wanted rfl rfl (.Z08 rfl rfl rfl rfl (.wanted rfl rfl (.Z1p (u := (.int .i64 x2.From)) rfl rfl rfl rfl (.wanted rfl rfl ?_)))))
    refine .int (m := x1.To) (m' := x2.From) (r := .bool (decide (x1.To < x2.From))) rfl rfl rfl rfl rfl (.Zh (v := (vb (decide (x1.To < x2.From)))) rfl rfl rfl (.nil ?_))
    replace h := sj h; subst h
    exact ⟨⟨rfl, trivial⟩, H.weak (by omega) (Nat.le_refl _)⟩
  ·rintro e σ ⟨he, H⟩
   obtain ⟨e, rfl⟩ := he.ex
   refine .assign (v := (vb y1)) rfl rfl (.nila H fun H => (.ret ?_))
   replace h := sj h; subst h
   exact (Ends.H (xs := [(vb y1)]) (.inr rfl) H (.tmp (v := (vb y1)) rfl .nil) (.one (.c (.v _))))

theorem ZA7 {f : Form} {i : Int} {r : Bool} (h : Z2U f i = some r) : Fn CX 51 [(.agg (vs (Form.cs f))), (vi i)] (vb r) := by
 refine Fn.ends Try.func51 rfl rfl rfl rfl rfl rfl ?_
 have H : Hs (⟨0, fun _ => .none⟩ : Heap) [] := Has.nil (Nat.le_refl _)
 generalize (⟨0, fun _ => .none⟩ : Heap) = σ at H ⊢
 unfold Z2U at h
 refine .then (.Z0 2 rfl H fun b1 σ H => (.boxH (cs := (vF f)) H (by omega) (by omega) rfl rfl rfl fun σ H => (.assign (v := (vb false)) rfl rfl (.nila H fun H => (.then ?_)))))
 refine .Z0 8 rfl H fun b2 σ H => (.ZI (off := 0) (cs := (vF f)) H 0 rfl rfl rfl rfl rfl rfl rfl nofun rfl (.move (v := (vi i)) rfl rfl ?_))
 obtain ⟨x1, q1, h⟩ := bind_some h
 refine .call (ys := [(.agg (vF f)), (vi i)]) (r := (.tup [(vl Span.cs x1.1), (vi x1.2)])) rfl (Z3D q1) rfl (.move (v := (.tup [(vl Span.cs x1.1), (vi x1.2)])) rfl rfl (.extract (v := (vl Span.cs x1.1)) rfl rfl rfl (.extract (v := (vi x1.2)) rfl rfl rfl (.assign (v := (vl Span.cs x1.1)) rfl rfl (.assign (v := (vi x1.2)) rfl rfl ?_)))))
 refine .nila H fun H => (.then (.then (.Z0 2 rfl H fun b3 σ H => (.move (v := (vi x1.2)) rfl rfl (.int (m := x1.2) (m' := 0) (r := .bool (x1.2 != 0)) rfl rfl rfl rfl rfl ?_)))))
 refine .nila H fun H => ?_
 refine .whether (v := (x1.2 != 0)) rfl ?_ ?_ <;> intro hc1
 ·replace h := Z7 hc1 h
  refine .then (.Z0 1 rfl H fun b4 σ H => (.assign (v := (vb false)) rfl rfl (.nila H fun H => (.ret ?_))))
  replace h := sj h; subst h
  exact (Ends.H (xs := [(vb false)]) (.inr rfl) H (.tmp (v := (vb false)) rfl .nil) (.one (.c (.v _))))
 ·replace h := Z8 hc1 h
  refine .skip (.then (.Z0 8 rfl H fun b5 σ H => (.ZI (off := 0) (cs := (vF f)) H 0 rfl rfl rfl rfl rfl rfl rfl nofun rfl (.move (v := (vi i)) rfl rfl ?_))))
  obtain ⟨x2, q2, h⟩ := bind_some h
  refine .call (ys := [(.agg (vF f)), (vi i)]) (r := (.tup [(vi x2.1), (vb x2.2)])) rfl (Z9f q2) rfl (.move (v := (.tup [(vi x2.1), (vb x2.2)])) rfl rfl (.extract (v := (vi x2.1)) rfl rfl rfl (.extract (v := (vb x2.2)) rfl rfl rfl (.assign (v := (vi x2.1)) rfl rfl (.assign (v := (vb x2.2)) rfl rfl ?_)))))
  refine .nila H fun H => (.then (.Z0 8 rfl H fun b6 σ H => (.ZI (off := 0) (cs := (vF f)) H 0 rfl rfl rfl rfl rfl rfl rfl nofun rfl (.move (v := (vi i)) rfl rfl ?_))))
  obtain ⟨x3, q3, h⟩ := bind_some h
  refine .call (ys := [(.agg (vF f)), (vi i)]) (r := (.tup [(vi x3.1), (vb x3.2)])) rfl (Z4b q3) rfl (.move (v := (.tup [(vi x3.1), (vb x3.2)])) rfl rfl (.extract (v := (vi x3.1)) rfl rfl rfl (.extract (v := (vb x3.2)) rfl rfl rfl (.assign (v := (vi x3.1)) rfl rfl (.assign (v := (vb x3.2)) rfl rfl ?_)))))
  refine .nila H fun H => (.then (.Z0 2 rfl H fun b7 σ H => (.assign (v := .nils) rfl rfl (.assign (v := .nils) rfl rfl (.nila H fun H => ?_)))))
  refine .then ?_
  obtain ⟨y1, hj1, h⟩ := bind_some h
  refine .mono (Q := fun x e σ => (∃ a1, ∃ (w1 : PV), RO w1 (a1.map Span.cs) ∧ y1 = (.go a1) ∧ x = .normal ∧ Z4 e [(2, (.ptr (b1 + 0) 4 0)), (5, (vl Span.cs x1.1)), (9, (vi x3.1)), (10, (vb x3.2)), (11, w1), (12, .nils)] ∧ Hs σ [.blk (b1 + 0) 25 (vF f)]) ∨ (∃ r', y1 = (.ret r') ∧ x = .ret ∧ Ends CX Try.f51.results.toList (vb r') x e σ)) ?_ ?_
  ·replace h := hj1
   refine .then (.Z0 1 rfl H fun b8 σ H => (.move (v := (vb x2.2)) rfl rfl (.nila H fun H => ?_)))
   refine .whether (v := x2.2) rfl ?_ ?_ <;> intro hc2
   ·replace h := Z7 hc2 h
    refine .then (.Z0 8 rfl H fun b9 σ H => (.ZI (off := 0) (cs := (vF f)) H 0 rfl rfl rfl rfl rfl rfl rfl nofun rfl (.move (v := (vi x2.1)) rfl rfl ?_)))
    obtain ⟨x4, q4, h⟩ := bind_some h
    refine .call (ys := [(.agg (vF f)), (vi x2.1)]) (r := (.tup [(vl Span.cs x4.1), (vi x4.2)])) rfl (Z3D q4) rfl (.move (v := (.tup [(vl Span.cs x4.1), (vi x4.2)])) rfl rfl (.extract (v := (vl Span.cs x4.1)) rfl rfl rfl (.extract (v := (vi x4.2)) rfl rfl rfl (.assign (v := (vl Span.cs x4.1)) rfl rfl (.assign (v := (vi x4.2)) rfl rfl ?_)))))
    refine .nila H fun H => (.then (.Z0 2 rfl H fun b10 σ H => (.move (v := (vi x4.2)) rfl rfl (.int (m := x4.2) (m' := 0) (r := .bool (x4.2 != 0)) rfl rfl rfl rfl rfl (.nila H fun H => ?_)))))
    refine .whether (v := (x4.2 != 0)) rfl ?_ ?_ <;> intro hc3
    ·replace h := Z7 hc3 h
     refine .then (.Z0 1 rfl H fun b11 σ H => (.assign (v := (vb false)) rfl rfl (.nila H fun H => (.ret ?_))))
     replace h := sj h; subst h
     exact (.inr ⟨_, rfl, rfl, (Ends.H (xs := [(vb false)]) (.inr rfl) H (.tmp (v := (vb false)) rfl .nil) (.one (.c (.v _))))⟩)
    ·replace h := Z8 hc3 h
     refine .skip ?_
     replace h := sj h; subst h
     exact (.inl ⟨_, (vl Span.cs x4.1), .inr rfl, rfl, rfl, ⟨rfl, rfl, rfl, rfl, rfl, rfl, trivial⟩, H⟩)
   ·replace h := Z8 hc2 h
    refine .skip ?_
    replace h := sj h; subst h
    exact (.inl ⟨_, .nils, .inl ⟨rfl, rfl⟩, rfl, rfl, ⟨rfl, rfl, rfl, rfl, rfl, rfl, trivial⟩, H⟩)
  ·rintro x e σ (⟨a2, w2, hw2, rfl, rfl, he, H⟩ | ⟨r', rfl, rfl, hE⟩)
   ·skip
    replace h := jgo h
    obtain ⟨e, rfl⟩ := he.ex
    refine .then ?_
    obtain ⟨y2, hj2, h⟩ := bind_some h
    refine .mono (Q := fun x e σ => (∃ a3, ∃ (w3 : PV), RO w3 (a3.map Span.cs) ∧ y2 = (.go a3) ∧ x = .normal ∧ Z4 e [(5, (vl Span.cs x1.1)), (11, w2), (12, w3)] ∧ Hs σ []) ∨ (∃ r', y2 = (.ret r') ∧ x = .ret ∧ Ends CX Try.f51.results.toList (vb r') x e σ)) ?_ ?_
    ·replace h := hj2
     refine .then (.Z0 1 rfl H fun b12 σ H => (.move (v := (vb x3.2)) rfl rfl (.nila H fun H => ?_)))
     refine .whether (v := x3.2) rfl ?_ ?_ <;> intro hc4
     ·replace h := Z7 hc4 h
      refine .then (.Z0 8 rfl H fun b13 σ H => (.ZI (off := 0) (cs := (vF f)) H 0 rfl rfl rfl rfl rfl rfl rfl nofun rfl (.move (v := (vi x3.1)) rfl rfl ?_)))
      obtain ⟨x5, q5, h⟩ := bind_some h
      refine .call (ys := [(.agg (vF f)), (vi x3.1)]) (r := (.tup [(vl Span.cs x5.1), (vi x5.2)])) rfl (Z3D q5) rfl (.move (v := (.tup [(vl Span.cs x5.1), (vi x5.2)])) rfl rfl (.extract (v := (vl Span.cs x5.1)) rfl rfl rfl (.extract (v := (vi x5.2)) rfl rfl rfl (.assign (v := (vl Span.cs x5.1)) rfl rfl (.assign (v := (vi x5.2)) rfl rfl ?_)))))
      refine .nila H fun H => (.then (.Z0 2 rfl H fun b14 σ H => (.move (v := (vi x5.2)) rfl rfl (.int (m := x5.2) (m' := 0) (r := .bool (x5.2 != 0)) rfl rfl rfl rfl rfl (.nila H fun H => ?_)))))
      refine .whether (v := (x5.2 != 0)) rfl ?_ ?_ <;> intro hc5
      ·replace h := Z7 hc5 h
       refine .then (.Z0 1 rfl H fun b15 σ H => (.assign (v := (vb false)) rfl rfl (.nila H fun H => (.ret ?_))))
       replace h := sj h; subst h
       exact (.inr ⟨_, rfl, rfl, (Ends.H (xs := [(vb false)]) (.inr rfl) H (.tmp (v := (vb false)) rfl .nil) (.one (.c (.v _))))⟩)
      ·replace h := Z8 hc5 h
       refine .skip ?_
       replace h := sj h; subst h
       exact (.inl ⟨_, (vl Span.cs x5.1), .inr rfl, rfl, rfl, ⟨rfl, rfl, rfl, trivial⟩, (H.erase 0)⟩)
     ·replace h := Z8 hc4 h
      refine .skip ?_
      replace h := sj h; subst h
      exact (.inl ⟨_, .nils, .inl ⟨rfl, rfl⟩, rfl, rfl, ⟨rfl, rfl, rfl, trivial⟩, (H.erase 0)⟩)
    ·rintro x e σ (⟨a4, w4, hw4, rfl, rfl, he, H⟩ | ⟨r', rfl, rfl, hE⟩)
     ·skip
      replace h := jgo h
      obtain ⟨e, rfl⟩ := he.ex
      refine .then (.Z0 14 rfl H fun b16 σ H => (.move (v := w2) rfl rfl (.move (v := (vl Span.cs x1.1)) rfl rfl ?_)))
      obtain ⟨x6, q6, h⟩ := bind_some h
      refine .Z5F (xs := [w2, (vl Span.cs x1.1)]) (ys := [(vl Span.cs a2), (vl Span.cs x1.1)]) H rfl (.cons (.c (.ro hw2)) (.cons (.c (.v _)) .nil)) (Z4Z q6) rfl rfl nofun rfl fun σ H => (.move (v := (vb x6)) rfl rfl ?_)
      obtain ⟨y3, hj3, h⟩ := bind_some h
      refine .mid 4 (K1 := fun e σ => Z4 e [(58, (vb y3)), (11, w2), (12, w4)] ∧ Has σ (b16 + 8) (b16 + 14) []) rfl ?_ ?_
      ·refine .split rfl rfl ?_ ?_ <;> intro hc6
       ·replace h := Z7 hc6 hj3
        refine .wanted rfl rfl (.move (v := (vl Span.cs x1.1)) rfl rfl (.wanted rfl rfl (.move (v := w4) rfl rfl (.wanted rfl rfl ?_))))
        obtain ⟨x7, q7, h⟩ := bind_some h
        refine .Z5F (xs := [(vl Span.cs x1.1), w4]) (ys := [(vl Span.cs x1.1), (vl Span.cs a4)]) H rfl (.cons (.c (.v _)) (.cons (.c (.ro hw4)) .nil)) (Z4Z q7) rfl rfl nofun rfl fun σ H => (.Zf (v := (vb x7)) rfl rfl rfl (.nil ?_))
        replace h := sj h; subst h
        exact ⟨⟨rfl, rfl, rfl, trivial⟩, H.weak (by omega) (Nat.le_refl _)⟩
       ·replace h := Z8 hc6 hj3
        refine .pass rfl rfl rfl (.pass rfl rfl rfl (.pass rfl rfl rfl (.Zh (v := (vb false)) rfl rfl rfl (.nil ?_))))
        replace h := sj h; subst h
        exact ⟨⟨rfl, rfl, rfl, trivial⟩, H.weak (by omega) (Nat.le_refl _)⟩
      ·rintro e σ ⟨he, H⟩
       obtain ⟨e, rfl⟩ := he.ex
       refine .move (v := (vb y3)) rfl rfl ?_
       obtain ⟨y4, hj4, h⟩ := bind_some h
       refine .mid 4 (K1 := fun e σ => Z4 e [(63, (vb y4))] ∧ Has σ (b16 + 13) (b16 + 14) []) rfl ?_ ?_
       ·refine .split rfl rfl ?_ ?_ <;> intro hc7
        ·replace h := Z7 hc7 hj4
         refine .wanted rfl rfl (.move (v := w2) rfl rfl (.wanted rfl rfl (.move (v := w4) rfl rfl (.wanted rfl rfl ?_))))
         obtain ⟨x8, q8, h⟩ := bind_some h
         refine .Z5F (xs := [w2, w4]) (ys := [(vl Span.cs a2), (vl Span.cs a4)]) H rfl (.cons (.c (.ro hw2)) (.cons (.c (.ro hw4)) .nil)) (Z4Z q8) rfl rfl nofun rfl fun σ H => (.Zf (v := (vb x8)) rfl rfl rfl (.nil ?_))
         replace h := sj h; subst h
         exact ⟨⟨rfl, trivial⟩, H.weak (by omega) (Nat.le_refl _)⟩
        ·replace h := Z8 hc7 hj4
         refine .pass rfl rfl rfl (.pass rfl rfl rfl (.pass rfl rfl rfl (.Zh (v := (vb false)) rfl rfl rfl (.nil ?_))))
         replace h := sj h; subst h
         exact ⟨⟨rfl, trivial⟩, H.weak (by omega) (Nat.le_refl _)⟩
       ·rintro e σ ⟨he, H⟩
        obtain ⟨e, rfl⟩ := he.ex
        refine .assign (v := (vb y4)) rfl rfl (.nila H fun H => (.ret ?_))
        replace h := sj h; subst h
        exact (Ends.H (xs := [(vb y4)]) (.inr rfl) H (.tmp (v := (vb y4)) rfl .nil) (.one (.c (.v _))))
     ·skip
      replace h := jret h
      replace h := sj h; subst h
      exact hE
   ·skip
    replace h := jret h
    replace h := sj h; subst h
    exact hE

theorem gran_Right_fn {f : Form} {r : Int} (h : Z0a f = some r) : Fn CX 21 [(.agg (vs (Form.cs f)))] (vi r) := by
 refine Fn.ends Try.func21 rfl rfl rfl rfl rfl rfl ?_
 have H : Hs (⟨0, fun _ => .none⟩ : Heap) [] := Has.nil (Nat.le_refl _)
 generalize (⟨0, fun _ => .none⟩ : Heap) = σ at H ⊢
 unfold Z0a at h
 refine .then (.Z0 2 rfl H fun b1 σ H => (.boxH (cs := (vF f)) H (by omega) (by omega) rfl rfl rfl fun σ H => (.assign (v := (vi 0)) rfl rfl (.nila H fun H => (.then ?_)))))
 refine .then (.Z0 15 rfl H fun b2 σ H => (.Z2 (off := 0) (fo := 2) H 0 rfl rfl rfl rfl rfl nofun rfl (.ZC (off := 2) (v := (vl (cL Span.cs) f.Core)) H 0 rfl rfl rfl rfl rfl nofun rfl (.Z0K (c := (cL Span.cs)) (xs := f.Core) rfl rfl rfl (.int (m := (f.Core.length : Int)) (m' := 6000) (r := .bool (decide ((f.Core.length : Int) > 6000))) rfl rfl rfl rfl rfl ?_)))))
 refine .move (v := (vb (decide ((f.Core.length : Int) > 6000)))) rfl rfl ?_
 refine .mid 5 (K1 := fun e σ => Z4 e [(14, (vb ((decide ((f.Core.length : Int) > 6000)) || (decide ((f.Odd.length : Int) > 6000))))), (1, (.ptr (b1 + 0) 4 0))] ∧ Has σ (b2 + 10) (b2 + 15) [.blk (b1 + 0) 25 (vF f)]) rfl ?_ ?_
 ·refine .split rfl rfl ?_ ?_ <;> intro hc1
  ·skip
   refine .pass rfl rfl rfl (.pass rfl rfl rfl (.pass rfl rfl rfl (.pass rfl rfl rfl (.Zf (v := (vb true)) rfl rfl rfl (.nil ?_)))))
   exact ⟨⟨or_T hc1, rfl, trivial⟩, H.weak (by omega) (Nat.le_refl _)⟩
  ·skip
   refine .wanted rfl rfl (.Z2 (off := 0) (fo := 3) H 0 rfl rfl rfl rfl rfl nofun rfl (.wanted rfl rfl (.ZC (off := 3) (v := (vl Granule.cs f.Odd)) H 0 rfl rfl rfl rfl rfl nofun rfl (.wanted rfl rfl (.Z0K (c := Granule.cs) (xs := f.Odd) rfl rfl rfl ?_)))))
   refine .wanted rfl rfl (.int (m := (f.Odd.length : Int)) (m' := 6000) (r := .bool (decide ((f.Odd.length : Int) > 6000))) rfl rfl rfl rfl rfl (.Zh (v := (vb (decide ((f.Odd.length : Int) > 6000)))) rfl rfl rfl (.nil ?_)))
   exact ⟨⟨or_F hc1, rfl, trivial⟩, H.weak (by omega) (Nat.le_refl _)⟩
 ·rintro e σ ⟨he, H⟩
  obtain ⟨e, rfl⟩ := he.ex
  refine .move (v := (vb ((decide ((f.Core.length : Int) > 6000)) || (decide ((f.Odd.length : Int) > 6000))))) rfl rfl ?_
  obtain ⟨y1, hj1, h⟩ := bind_some h
  refine .mid 4 (K1 := fun e σ => Z4 e [(19, (vb y1)), (1, (.ptr (b1 + 0) 4 0))] ∧ Has σ (b2 + 15) (b2 + 15) [.blk (b1 + 0) 25 (vF f)]) rfl ?_ ?_
  ·refine .split rfl rfl ?_ ?_ <;> intro hc2
   ·replace h := Z7 hc2 hj1
    refine .pass rfl rfl rfl (.pass rfl rfl rfl (.pass rfl rfl rfl (.Zf (v := (vb true)) rfl rfl rfl (.nil ?_))))
    replace h := sj h; subst h
    exact ⟨⟨rfl, rfl, trivial⟩, H.weak (by omega) (Nat.le_refl _)⟩
   ·replace h := Z8 hc2 hj1
    refine .wanted rfl rfl (.ZI (off := 0) (cs := (vF f)) H 0 rfl rfl rfl rfl rfl rfl rfl nofun rfl (.wanted rfl rfl ?_))
    obtain ⟨x1, q1, h⟩ := bind_some h
    refine .call (ys := [(.agg (vF f))]) (r := (vi x1)) rfl (Z7j q1) rfl (.wanted rfl rfl (.int (m := x1) (m' := 60000) (r := .bool (decide (x1 > 60000))) rfl rfl rfl rfl rfl (.Zh (v := (vb (decide (x1 > 60000)))) rfl rfl rfl (.nil ?_))))
    replace h := sj h; subst h
    exact ⟨⟨rfl, rfl, trivial⟩, H.weak (by omega) (Nat.le_refl _)⟩
  ·rintro e σ ⟨he, H⟩
   obtain ⟨e, rfl⟩ := he.ex
   refine .nila H fun H => ?_
   refine .whether (v := y1) rfl ?_ ?_ <;> intro hc3
   ·replace h := Z7 hc3 h
    refine .then (.Z0 1 rfl H fun b3 σ H => (.assign (v := (vi 3)) rfl rfl (.nila H fun H => (.ret ?_))))
    replace h := sj h; subst h
    exact (Ends.H (xs := [(vi 3)]) (.inr rfl) H (.tmp (v := (vi 3)) rfl .nil) (.one (.c (.v _))))
   ·replace h := Z8 hc3 h
    refine .skip (.then (.then (.Z0 8 rfl H fun b4 σ H => (.ZI (off := 0) (cs := (vF f)) H 0 rfl rfl rfl rfl rfl rfl rfl nofun rfl ?_))))
    obtain ⟨x2, q2, h⟩ := bind_some h
    refine .call (ys := [(.agg (vF f))]) (r := (vb x2)) rfl (gran_shape_fn q2) rfl (.not (b := x2) rfl rfl (.move (v := (vb (!x2))) rfl rfl ?_))
    obtain ⟨y2, hj2, h⟩ := bind_some h
    refine .mid 4 (K1 := fun e σ => Z4 e [(27, (vb y2)), (1, (.ptr (b1 + 0) 4 0))] ∧ Has σ (b4 + 8) (b4 + 8) [.blk (b1 + 0) 25 (vF f)]) rfl ?_ ?_
    ·refine .split rfl rfl ?_ ?_ <;> intro hc4
     ·replace h := Z7 hc4 hj2
      refine .pass rfl rfl rfl (.pass rfl rfl rfl (.pass rfl rfl rfl (.Zf (v := (vb true)) rfl rfl rfl (.nil ?_))))
      replace h := sj h; subst h
      exact ⟨⟨rfl, rfl, trivial⟩, H.weak (by omega) (Nat.le_refl _)⟩
     ·replace h := Z8 hc4 hj2
      refine .wanted rfl rfl (.ZI (off := 0) (cs := (vF f)) H 0 rfl rfl rfl rfl rfl rfl rfl nofun rfl (.wanted rfl rfl ?_))
      obtain ⟨x3, q3, h⟩ := bind_some h
      refine .call (ys := [(.agg (vF f))]) (r := (vb x3)) rfl (gran_turns_fn q3) rfl (.wanted rfl rfl (.not (b := x3) rfl rfl (.Zh (v := (vb (!x3))) rfl rfl rfl (.nil ?_))))
      replace h := sj h; subst h
      exact ⟨⟨rfl, rfl, trivial⟩, H.weak (by omega) (Nat.le_refl _)⟩
    ·rintro e σ ⟨he, H⟩
     obtain ⟨e, rfl⟩ := he.ex
     refine .nila H fun H => ?_
     refine .whether (v := y2) rfl ?_ ?_ <;> intro hc5
     ·replace h := Z7 hc5 h
      refine .then (.Z0 1 rfl H fun b5 σ H => (.assign (v := (vi 50)) rfl rfl (.nila H fun H => (.ret ?_))))
      replace h := sj h; subst h
      exact (Ends.H (xs := [(vi 50)]) (.inr rfl) H (.tmp (v := (vi 50)) rfl .nil) (.one (.c (.v _))))
     ·replace h := Z8 hc5 h
      refine .skip (.then (.then (.Z0 4 rfl H fun b6 σ H => (.Z2 (off := 0) (fo := 3) H 0 rfl rfl rfl rfl rfl nofun rfl (.ZC (off := 3) (v := (vl Granule.cs f.Odd)) H 0 rfl rfl rfl rfl rfl nofun rfl ?_)))))
      refine .Z0K (c := Granule.cs) (xs := f.Odd) rfl rfl rfl (.move (v := (vi 0)) rfl rfl (.nila H fun H => (.inBlock ?_)))
      obtain ⟨y3, hj3, h⟩ := bind_some h
      obtain ⟨n1, hj3⟩ := Zb.1 hj3
      refine .mono (Runs.ZO hj3 (fun s1 e σ => Z4 e [(1, (.ptr (b1 + 0) 4 0)), (29, (vl Granule.cs f.Odd)), (30, (vi (f.Odd.length : Int))), (31, (vi s1))] ∧ Hs σ [.blk (b1 + 0) 25 (vF f)]) (fun y3 x e σ => (∃ a1, y3 = (.go a1) ∧ x = .exit 0 ∧ Z4 e [] ∧ Hs σ []) ∨ (∃ r', y3 = (.ret r') ∧ x = .ret ∧ Ends CX Try.f21.results.toList (vi r') x e σ)) ⟨⟨rfl, rfl, rfl, rfl, trivial⟩, H⟩ ?_) ?_
      ·intro s1 e σ hI z h
       obtain ⟨he, H⟩ := hI
       obtain ⟨e, rfl⟩ := he.ex
       unfold Z0a.s0 at h
       refine .then (.Z0 1 rfl H fun b7 σ H => (.int (m := s1) (m' := (f.Odd.length : Int)) (r := .bool (decide (s1 < (f.Odd.length : Int)))) rfl rfl rfl rfl rfl (.nila H fun H => (.then ?_))))
       refine .whether (v := (decide (s1 < (f.Odd.length : Int)))) rfl ?_ ?_ <;> intro hc6
       ·replace h := Z7 hc6 h
        refine .skip (.then (.inBlock (.then (.Z0 4 rfl H fun b8 σ H => ?_))))
        obtain ⟨x4, q4, h⟩ := bind_some h
        refine .Zy (c := Granule.cs) (u := x4) rfl rfl q4 rfl rfl rfl rfl (.Z26 (cs := [(.int .i64 x4.Index), (.sl (x4.Ticks.map Span.cs))]) rfl rfl rfl rfl rfl rfl (.Zk (cs := [(vi 0), .nils]) H (by omega) (by omega) rfl rfl fun σ H => (.ZV (off := 0) (cells' := [(vi x4.Index), (vl Span.cs x4.Ticks)]) H 0 rfl rfl rfl rfl rfl rfl rfl rfl rfl nofun fun σ H => (.nila H fun H => (.then ?_)))))
        refine .Z0 5 rfl H fun b9 σ H => (.ZI (off := 0) (cs := (vF f)) H 1 rfl rfl rfl rfl rfl rfl rfl nofun rfl (.Z2 (off := 0) (fo := 0) H 0 rfl rfl rfl rfl rfl nofun rfl (.ZC (off := 0) (v := (vi x4.Index)) H 0 rfl rfl rfl rfl rfl nofun rfl ?_)))
        obtain ⟨x5, q5, h⟩ := bind_some h
        refine .call (ys := [(.agg (vF f)), (vi x4.Index)]) (r := (vb x5)) rfl (ZA7 q5) rfl (.not (b := x5) rfl rfl (.nila H fun H => ?_))
        refine .whether (v := (!x5)) rfl ?_ ?_ <;> intro hc7
        ·replace h := Z7 hc7 h
         refine .then (.Z0 1 rfl H fun b10 σ H => (.assign (v := (vi 50)) rfl rfl (.nila H fun H => (.ret ?_))))
         replace h := sj h; subst h
         exact ⟨nofun, (.inr ⟨_, rfl, rfl, (Ends.H (xs := [(vi 50)]) (.inr rfl) H (.tmp (v := (vi 50)) rfl .nil) (.one (.c (.v _))))⟩)⟩
        ·replace h := Z8 hc7 h
         refine .skip (.Z0 2 rfl H fun b11 σ H => (.int (m := s1) (m' := 1) (r := .int .i64 (w64 (s1 + 1))) rfl rfl rfl rfl rfl (.move (v := (vi (w64 (s1 + 1)))) rfl rfl (.nila H fun H => ?_))))
         replace h := sj h; subst h
         exact ⟨rfl, ⟨rfl, rfl, rfl, rfl, trivial⟩, (H.erase 0)⟩
       ·replace h := Z8 hc6 h
        refine .exit ?_
        replace h := sj h; subst h
        exact ⟨nofun, (.inl ⟨_, rfl, rfl, trivial, (H.erase 0)⟩)⟩
      ·rintro x e σ (⟨a2, rfl, rfl, he, H⟩ | ⟨r', rfl, rfl, hE⟩)
       ·skip
        replace h := jgo h
        obtain ⟨e, rfl⟩ := he.ex
        refine .then (.Z0 1 rfl H fun b12 σ H => (.assign (v := (vi 0)) rfl rfl (.nila H fun H => (.ret ?_))))
        replace h := sj h; subst h
        exact (Ends.H (xs := [(vi 0)]) (.inr rfl) H (.tmp (v := (vi 0)) rfl .nil) (.one (.c (.v _))))
       ·skip
        replace h := jret h
        replace h := sj h; subst h
        exact hE

theorem Z6e {f : Form} {r : Bool} (h : Z14 f = some r) : Fn CX 19 [(.agg (vs (Form.cs f)))] (vb r) := by
 refine Fn.ends Try.func19 rfl rfl rfl rfl rfl rfl ?_
 have H : Hs (⟨0, fun _ => .none⟩ : Heap) [] := Has.nil (Nat.le_refl _)
 generalize (⟨0, fun _ => .none⟩ : Heap) = σ at H ⊢
 unfold Z14 at h
 refine .then (.Z0 2 rfl H fun b1 σ H => (.boxH (cs := (vF f)) H (by omega) (by omega) rfl rfl rfl fun σ H => (.assign (v := (vb false)) rfl rfl (.nila H fun H => (.then ?_)))))
 refine .Z0 8 rfl H fun b2 σ H => (.ZI (off := 0) (cs := (vF f)) H 0 rfl rfl rfl rfl rfl rfl rfl nofun rfl ?_)
 obtain ⟨x1, q1, h⟩ := bind_some h
 refine .call (ys := [(.agg (vF f))]) (r := (vb x1)) rfl (Z6f q1) rfl (.move (v := (vb x1)) rfl rfl ?_)
 obtain ⟨y1, hj1, h⟩ := bind_some h
 refine .mid 4 (K1 := fun e σ => Z4 e [(9, (vb y1))] ∧ Has σ (b2 + 7) (b2 + 8) []) rfl ?_ ?_
 ·refine .split rfl rfl ?_ ?_ <;> intro hc1
  ·replace h := Z7 hc1 hj1
   refine .wanted rfl rfl (.ZI (off := 0) (cs := (vF f)) H 0 rfl rfl rfl rfl rfl rfl rfl nofun rfl (.wanted rfl rfl ?_))
   obtain ⟨x2, q2, h⟩ := bind_some h
   refine .call (ys := [(.agg (vF f))]) (r := (vi x2)) rfl (gran_Right_fn q2) rfl (.wanted rfl rfl (.int (m := x2) (m' := 0) (r := .bool (x2 == 0)) rfl rfl rfl rfl rfl (.Zf (v := (vb (x2 == 0))) rfl rfl rfl (.nil ?_))))
   replace h := sj h; subst h
   exact ⟨⟨rfl, trivial⟩, (H.erase 0).weak (by omega) (Nat.le_refl _)⟩
  ·replace h := Z8 hc1 hj1
   refine .pass rfl rfl rfl (.pass rfl rfl rfl (.pass rfl rfl rfl (.Zh (v := (vb false)) rfl rfl rfl (.nil ?_))))
   replace h := sj h; subst h
   exact ⟨⟨rfl, trivial⟩, (H.erase 0).weak (by omega) (Nat.le_refl _)⟩
 ·rintro e σ ⟨he, H⟩
  obtain ⟨e, rfl⟩ := he.ex
  refine .assign (v := (vb y1)) rfl rfl (.nila H fun H => (.ret ?_))
  replace h := sj h; subst h
  exact (Ends.H (xs := [(vb y1)]) (.inr rfl) H (.tmp (v := (vb y1)) rfl .nil) (.one (.c (.v _))))

theorem Z6j {r : Form} (h : ZU = r) : Fn CX 41 [] (.agg (vs (Form.cs r))) := by
 refine Fn.ends Try.func41 rfl rfl rfl rfl rfl rfl ?_
 have H : Hs (⟨0, fun _ => .none⟩ : Heap) [] := Has.nil (Nat.le_refl _)
 generalize (⟨0, fun _ => .none⟩ : Heap) = σ at H ⊢
 unfold ZU at h
 refine .then (.Z0 1 rfl H fun b1 σ H => (.Zk (cs := [(vi 0), (vi 0), .nils, .nils]) H (by omega) (by omega) rfl rfl fun σ H => (.nila H fun H => (.then (.Z0 5 rfl H fun b2 σ H => ?_)))))
 refine .Z0I (cs := [(vi 0), (vi 4)]) rfl rfl (.Z3K (sz := 2) ([(Span.mk 0 4)].map Span.cs) H (by omega) (by omega) rfl rfl rfl rfl rfl rfl rfl rfl rfl fun σ H => (.buildSF (sz := 1) ([[(Span.mk 0 4)]].map (cL Span.cs)) H (by omega) (by omega) rfl rfl (.exp (.c (.s 0 rfl)) .nil) rfl rfl rfl rfl rfl rfl rfl nofun fun σ H => (.Z0I (cs := [(vi 7), (vi 1), (.buf (b2 + 2) 1 1), .nils]) rfl rfl (.ZV (off := 0) (cells' := [(vi 7), (vi 1), (.buf (b2 + 2) 1 1), .nils]) H 2 rfl rfl rfl rfl rfl rfl rfl rfl rfl nofun fun σ H => (.nila H fun H => ?_)))))
 refine .ret ?_
 subst h
 exact (Ends.H (xs := [(.agg [(vi 7), (vi 1), (.buf (b2 + 2) 1 1), .nils])]) (.inr rfl) H (.agg (cs := [(vi 7), (vi 1), (.buf (b2 + 2) 1 1), .nils]) (off := 0) 2 rfl rfl rfl rfl rfl rfl rfl .nil) (.one (.a (.cons (.v _) (.cons (.v _) (.cons (.s 0 rfl) (.cons .n .nil)))))))

theorem Z4Y {n : Int} {f : Int → Option Bool} {C : List Res} {cv0 : PV} (hs0 : cv0.still = true) (hp0 : cv0.pure = true → C = []) (hf0 : ∀ z0 y, f z0 = some y → CloH CX cv0 [(vi z0)] (vb y) C) {r : Int} (h : Z0N n f = some r) : FnH CX 45 [(vi n), cv0] (vi r) C := by
 refine FnH.of Try.func45 rfl rfl rfl rfl (Z4X rfl (Z4X hs0 all_nil)) rfl (fun h => hp0 (Z46 h 1 rfl)) ?_
 intro σ L hC H
 unfold Z0N at h
 refine .then (.Z0 1 rfl H fun b1 σ H => (.assign (v := (vi 0)) rfl rfl (.nila H fun H => (.then (.Z0 3 rfl H fun b2 σ H => ?_)))))
 refine .move (v := (vi n)) rfl rfl (.assign (v := (vi 0)) rfl rfl (.assign (v := (vi n)) rfl rfl (.nila H fun H => (.then (.inBlock ?_)))))
 obtain ⟨y1, hj1, h⟩ := bind_some h
 obtain ⟨n1, hj1⟩ := Zb.1 hj1
 refine .mono (Runs.ZO hj1 (fun s1 e σ => Z4 e [(1, cv0), (5, (vi s1.1)), (6, (vi s1.2))] ∧ Hs σ (L)) (fun y1 x e σ => x = .exit 0 ∧ Z4 e [(5, (vi y1))] ∧ Hs σ (L)) ⟨⟨rfl, rfl, rfl, trivial⟩, H⟩ ?_) ?_
 ·intro s1 e σ hI z h
  obtain ⟨he, H⟩ := hI
  obtain ⟨e, rfl⟩ := he.ex
  unfold Z0N.s0 at h
  refine .then (.then (.Z0 3 rfl H fun b3 σ H => (.move (v := (vi s1.1)) rfl rfl (.move (v := (vi s1.2)) rfl rfl (.int (m := s1.1) (m' := s1.2) (r := .bool (decide (s1.1 < s1.2))) rfl rfl rfl rfl rfl ?_)))))
  refine .nila H fun H => ?_
  refine .whether (v := (decide (s1.1 < s1.2))) rfl ?_ ?_ <;> intro hc1
  ·replace h := Z7 hc1 h
   refine .skip (.inBlock ?_)
   obtain ⟨y2, hj2, h⟩ := bind_some h
   refine .mono (Q := fun x e σ => x = .normal ∧ Z4 e [(1, cv0), (5, (vi y2.1)), (6, (vi y2.2))] ∧ Hs σ (L)) ?_ ?_
   ·replace h := hj2
    refine .then (.Z0 7 rfl H fun b4 σ H => (.move (v := (vi s1.1)) rfl rfl (.move (v := (vi s1.2)) rfl rfl (.int (m := s1.1) (m' := s1.2) (r := .int .i64 (w64 (s1.1 + s1.2))) rfl rfl rfl rfl rfl (.conv (m := (w64 (s1.1 + s1.2))) rfl rfl rfl rfl ?_)))))
    refine .shr (m := (IntKind.u64.wrap (w64 (s1.1 + s1.2)))) (m' := 1) rfl rfl (by decide) rfl (.conv (m := ((IntKind.u64.wrap (w64 (s1.1 + s1.2))).fdiv (2 ^ 1))) rfl rfl rfl rfl (.assign (v := (vi (w64 ((IntKind.u64.wrap (w64 (s1.1 + s1.2))).fdiv (2 ^ 1))))) rfl rfl (.nila H fun H => (.then (.Z0 4 rfl H fun b5 σ H => ?_)))))
    refine .move (v := cv0) rfl rfl (.move (v := (vi (w64 ((IntKind.u64.wrap (w64 (s1.1 + s1.2))).fdiv (2 ^ 1))))) rfl rfl ?_)
    obtain ⟨x1, q1, h⟩ := bind_some h
    refine .callV (cv := cv0) (ys := [(vi (w64 ((IntKind.u64.wrap (w64 (s1.1 + s1.2))).fdiv (2 ^ 1))))]) (r := (vb x1)) H rfl rfl (hf0 (w64 ((IntKind.u64.wrap (w64 (s1.1 + s1.2))).fdiv (2 ^ 1))) _ q1) hC nofun rfl fun σ H => (.not (b := x1) rfl rfl (.nila H fun H => ?_))
    refine .whether (v := (!x1)) rfl ?_ ?_ <;> intro hc2
    ·replace h := Z7 hc2 h
     refine .Z0 3 rfl H fun b6 σ H => (.move (v := (vi (w64 ((IntKind.u64.wrap (w64 (s1.1 + s1.2))).fdiv (2 ^ 1))))) rfl rfl (.int (m := (w64 ((IntKind.u64.wrap (w64 (s1.1 + s1.2))).fdiv (2 ^ 1)))) (m' := 1) (r := .int .i64 (w64 ((w64 ((IntKind.u64.wrap (w64 (s1.1 + s1.2))).fdiv (2 ^ 1))) + 1))) rfl rfl rfl rfl rfl (.assign (v := (vi (w64 ((w64 ((IntKind.u64.wrap (w64 (s1.1 + s1.2))).fdiv (2 ^ 1))) + 1)))) rfl rfl (.nila H fun H => ?_))))
     replace h := sj h; subst h
     exact ⟨rfl, ⟨rfl, rfl, rfl, trivial⟩, H⟩
    ·replace h := Z8 hc2 h
     refine .Z0 2 rfl H fun b7 σ H => (.move (v := (vi (w64 ((IntKind.u64.wrap (w64 (s1.1 + s1.2))).fdiv (2 ^ 1))))) rfl rfl (.assign (v := (vi (w64 ((IntKind.u64.wrap (w64 (s1.1 + s1.2))).fdiv (2 ^ 1))))) rfl rfl (.nila H fun H => ?_)))
     replace h := sj h; subst h
     exact ⟨rfl, ⟨rfl, rfl, rfl, trivial⟩, H⟩
   ·rintro x e σ ⟨rfl, he, H⟩
    obtain ⟨e, rfl⟩ := he.ex
    replace h := sj h; subst h
    exact ⟨rfl, ⟨rfl, rfl, rfl, trivial⟩, H⟩
  ·replace h := Z8 hc1 h
   refine .exit ?_
   replace h := sj h; subst h
   exact ⟨nofun, ⟨rfl, ⟨rfl, trivial⟩, H⟩⟩
 ·rintro x e σ ⟨rfl, he, H⟩
  obtain ⟨e, rfl⟩ := he.ex
  refine .then (.Z0 2 rfl H fun b8 σ H => (.move (v := (vi y1)) rfl rfl (.assign (v := (vi y1)) rfl rfl (.nila H fun H => (.ret ?_)))))
  replace h := sj h; subst h
  exact (EndsH.H (xs := [(vi y1)]) (.inr rfl) H (.tmp (v := (vi y1)) rfl .nil) (.one (.c (.v _))) 0 rfl)

theorem Z9H {k : Int} {r : Bool} (h : Z1I k = r) : Fn CX 58 [(vi k)] (vb r) := by
 refine Fn.ends Try.func58 rfl rfl rfl rfl rfl rfl ?_
 have H : Hs (⟨0, fun _ => .none⟩ : Heap) [] := Has.nil (Nat.le_refl _)
 generalize (⟨0, fun _ => .none⟩ : Heap) = σ at H ⊢
 unfold Z1I at h
 refine .then (.Z0 1 rfl H fun b1 σ H => (.assign (v := (vb false)) rfl rfl (.nila H fun H => (.then (.Z0 7 rfl H fun b2 σ H => ?_)))))
 refine .move (v := (vi k)) rfl rfl (.int (m := k) (m' := (-1099511627776)) (r := .bool (decide (k ≥ (-1099511627776)))) rfl rfl rfl rfl rfl (.move (v := (vb (decide (k ≥ (-1099511627776))))) rfl rfl ?_))
 refine .mid 3 (K1 := fun e σ => Z4 e [(8, (vb ((decide (k ≥ (-1099511627776))) && (decide (k ≤ 1099511627776)))))] ∧ Has σ (b2 + 6) (b2 + 7) []) rfl ?_ ?_
 ·refine .split rfl rfl ?_ ?_ <;> intro hc1
  ·skip
   refine .wanted rfl rfl (.move (v := (vi k)) rfl rfl (.wanted rfl rfl (.int (m := k) (m' := 1099511627776) (r := .bool (decide (k ≤ 1099511627776))) rfl rfl rfl rfl rfl (.Zf (v := (vb (decide (k ≤ 1099511627776)))) rfl rfl rfl (.nil ?_)))))
   exact ⟨⟨Z15 hc1, trivial⟩, H.weak (by omega) (Nat.le_refl _)⟩
  ·skip
   refine .pass rfl rfl rfl (.pass rfl rfl rfl (.Zh (v := (vb false)) rfl rfl rfl (.nil ?_)))
   exact ⟨⟨Z19 hc1, trivial⟩, H.weak (by omega) (Nat.le_refl _)⟩
 ·rintro e σ ⟨he, H⟩
  obtain ⟨e, rfl⟩ := he.ex
  refine .assign (v := (vb ((decide (k ≥ (-1099511627776))) && (decide (k ≤ 1099511627776))))) rfl rfl (.nila H fun H => (.ret ?_))
  subst h
  exact (Ends.H (xs := [(vb ((decide (k ≥ (-1099511627776))) && (decide (k ≤ 1099511627776))))]) (.inr rfl) H (.tmp (v := (vb ((decide (k ≥ (-1099511627776))) && (decide (k ≤ 1099511627776))))) rfl .nil) (.one (.c (.v _))))

theorem Z9B {l : (List Span)} {r : Bool} (h : Z45 l = r) : Fn CX 117 [(vl Span.cs l)] (vb r) := by
 refine Fn.ends Try.func117 rfl rfl rfl rfl rfl rfl ?_
 have H : Hs (⟨0, fun _ => .none⟩ : Heap) [] := Has.nil (Nat.le_refl _)
 generalize (⟨0, fun _ => .none⟩ : Heap) = σ at H ⊢
 unfold Z45 at h
 refine .then (.Z0 1 rfl H fun b1 σ H => (.assign (v := (vb false)) rfl rfl (.nila H fun H => (.then (.Z0 4 rfl H fun b2 σ H => ?_)))))
 refine .move (v := (vl Span.cs l)) rfl rfl (.Z0K (c := Span.cs) (xs := l) rfl rfl rfl (.int (m := (l.length : Int)) (m' := 0) (r := .bool (decide ((l.length : Int) > 0))) rfl rfl rfl rfl rfl (.assign (v := (vb (decide ((l.length : Int) > 0)))) rfl rfl (.nila H fun H => (.ret ?_)))))
 subst h
 exact (Ends.H (xs := [(vb (decide ((l.length : Int) > 0)))]) (.inr rfl) H (.tmp (v := (vb (decide ((l.length : Int) > 0)))) rfl .nil) (.one (.c (.v _))))

theorem canon_bare_fn {f : Form} {r : Bool} (h : Z34 f = some r) : Fn CX 91 [(.agg (vs (Form.cs f)))] (vb r) := by
 refine Fn.ends Try.func91 rfl rfl rfl rfl rfl rfl ?_
 have H : Hs (⟨0, fun _ => .none⟩ : Heap) [] := Has.nil (Nat.le_refl _)
 generalize (⟨0, fun _ => .none⟩ : Heap) = σ at H ⊢
 unfold Z34 at h
 refine .then (.Z0 2 rfl H fun b1 σ H => (.boxH (cs := (vF f)) H (by omega) (by omega) rfl rfl rfl fun σ H => (.assign (v := (vb false)) rfl rfl (.nila H fun H => (.then ?_)))))
 refine .Z0 5 rfl H fun b2 σ H => (.Z2 (off := 0) (fo := 2) H 0 rfl rfl rfl rfl rfl nofun rfl (.ZC (off := 2) (v := (vl (cL Span.cs) f.Core)) H 0 rfl rfl rfl rfl rfl nofun rfl ?_))
 obtain ⟨x1, q1, h⟩ := bind_some h
 refine .Z6u (ys := [(vl (cL Span.cs) f.Core), (.v (.fn 117))]) (r := (vb x1)) H rfl (Z1K (C := []) rfl (fun _ => rfl) (fun z0 y hz => (CloH.fn (Fn.toH (Z9B (Option.some.inj hz)) _))) q1) .nil nofun rfl fun σ H => (.not (b := x1) rfl rfl (.assign (v := (vb (!x1))) rfl rfl (.nila H fun H => (.ret ?_))))
 replace h := sj h; subst h
 exact (Ends.H (xs := [(vb (!x1))]) (.inr rfl) H (.tmp (v := (vb (!x1))) rfl .nil) (.one (.c (.v _))))

theorem Z7w {n : Int} {σ : Heap} {lo hi : Nat} {L : List Res} (H : Has σ lo hi L) : ∃ r σ', Z0Z CX (.fn 92) [(vi n)] σ = some (r, σ') ∧ ∃ i0' : Nat, r = (.clo 118 [] [(.ptr i0' 1 0)]) ∧ Hs σ' (.blk i0' 3 [(vi n)] :: L) := by
 refine callO_of (Post := fun r σ' => ∃ i0' : Nat, r = (.clo 118 [] [(.ptr i0' 1 0)]) ∧ Hs σ' (.blk i0' 3 [(vi n)] :: L)) Try.func92 rfl rfl rfl rfl rfl rfl ?_
 replace H := H.all
 refine .then (.Z0 2 rfl H fun b1 σ H => (.boxH (cs := [(vi n)]) H (by omega) (by omega) rfl rfl rfl fun σ H => (.assign (v := (.v .nilf)) rfl rfl (.nila H fun H => (.then ?_)))))
 refine .Z0 2 rfl H fun b2 σ H => (.Z7d (fs := []) (cs := [(.ptr (b1 + 0) 1 0)]) rfl rfl rfl rfl (.assign (v := (.clo 118 [] [(.ptr (b1 + 0) 1 0)])) rfl rfl (.nila H fun H => (.ret ?_))))
 exact ⟨.inr rfl, [(.clo 118 [] [(.ptr (b1 + 0) 1 0)])], Z4r H (.tmp (v := (.clo 118 [] [(.ptr (b1 + 0) 1 0)])) rfl .nil), (b1 + 0), rfl, H.all⟩

theorem Z6i {p1' : Int} {S : Type} {C : S → List Res → Prop} {yield : S → Int → Option (S × Bool)} {yid : Nat} {id0' : Nat} (hy : YldH CX yid C (fun z => [(vi z)]) yield) (hcap : ∀ s L, C s L → Sub [.blk id0' 3 [(vi p1')]] L) {st' r : S} (h : Zw p1' yield st' = some r) : ItF CX 118 [(.yld yid), (.ptr id0' 1 0)] C st' r := by
 refine ItF.of Try.func118 rfl rfl rfl rfl rfl rfl rfl rfl ?_
 intro σ L hC H
 have hc0 := hcap _ _ hC
 obtain ⟨k0', hk0', hc0⟩ := hc0.inv
 unfold Zw at h
 refine .then (.Z0 1 rfl H fun b1 σ H => (.assign (v := (vi 1)) rfl rfl (.nila H fun H => (.inBlock ?_))))
 obtain ⟨y1, hj1, h⟩ := bind_some h
 obtain ⟨n1, hj1⟩ := Zb.1 hj1
 refine .mono (Runs.ZO hj1 (fun s1 e σ => ∃ (L : List Res), C s1.2 L ∧ Z4 e [(0, (.yld yid)), (1, (.ptr id0' 1 0)), (3, (vi s1.1))] ∧ Hs σ (L)) (fun y1 x e σ => (∃ a1, ∃ (L : List Res), C a1 L ∧ y1 = (.go a1) ∧ x = .exit 0 ∧ Z4 e [] ∧ Hs σ (L)) ∨ (∃ r', y1 = (.ret r') ∧ x = .ret ∧ EndsI C r' x e σ)) ⟨_, hC, ⟨rfl, rfl, rfl, trivial⟩, H⟩ ?_) ?_
 ·intro s1 e σ hI z h
  obtain ⟨L, hC, he, H⟩ := hI
  obtain ⟨e, rfl⟩ := he.ex
  have hc0 := hcap _ _ hC
  obtain ⟨k0', hk0', hc0⟩ := hc0.inv
  unfold Zw.s0 at h
  refine .then (.then (.Z0 3 rfl H fun b2 σ H => (.move (v := (vi s1.1)) rfl rfl (.ZC (off := 0) (v := (vi p1')) H k0' hk0' rfl rfl rfl rfl nofun rfl (.int (m := s1.1) (m' := p1') (r := .bool (decide (s1.1 ≤ p1'))) rfl rfl rfl rfl rfl ?_)))))
  refine .nila H fun H => ?_
  refine .whether (v := (decide (s1.1 ≤ p1'))) rfl ?_ ?_ <;> intro hc1
  ·replace h := Z7 hc1 h
   refine .skip (.then (.inBlock (.then (.Z0 10 rfl H fun b3 σ H => (.ZC (off := 0) (v := (vi p1')) H k0' hk0' rfl rfl rfl rfl nofun rfl ?_)))))
   refine .move (v := (vi s1.1)) rfl rfl ?_
   obtain ⟨u1, q1, h⟩ := bind_some h
   refine .rem (m := p1') (m' := s1.1) rfl rfl (nz_ne q1) rfl (.int (m := (p1'.tmod s1.1)) (m' := 0) (r := .bool ((p1'.tmod s1.1) == 0)) rfl rfl rfl rfl rfl (.move (v := (vb ((p1'.tmod s1.1) == 0))) rfl rfl ?_))
   obtain ⟨y2, hj2, h⟩ := bind_some h
   refine .mid 5 (K1 := fun e σ => ∃ L, C y2.2 L ∧ Z4 e [(18, (vb y2.1)), (0, (.yld yid)), (1, (.ptr id0' 1 0)), (3, (vi s1.1))] ∧ Hs σ (L)) rfl ?_ ?_
   ·refine .split rfl rfl ?_ ?_ <;> intro hc2
    ·replace h := Z7 hc2 hj2
     refine .wanted rfl rfl (.move (v := (.yld yid)) rfl rfl (.wanted rfl rfl (.move (v := (vi s1.1)) rfl rfl (.wanted rfl rfl ?_))))
     obtain ⟨x1, q2, h⟩ := bind_some h
     refine .callY (z := s1.1) (s' := x1.1) (b := x1.2) [] H hC rfl rfl hy q2 rfl rfl fun σ L hC H => ?_
     have hc0 := hcap _ _ hC
     obtain ⟨k0', hk0', hc0⟩ := hc0.inv
     refine .wanted rfl rfl (.not (b := x1.2) rfl rfl (.Zf (v := (vb (!x1.2))) rfl rfl rfl (.nil ?_)))
     replace h := sj h; subst h
     exact ⟨_, hC, ⟨rfl, rfl, rfl, rfl, trivial⟩, H.all⟩
    ·replace h := Z8 hc2 hj2
     refine .pass rfl rfl rfl (.pass rfl rfl rfl (.pass rfl rfl rfl (.pass rfl rfl rfl (.Zh (v := (vb false)) rfl rfl rfl (.nil ?_)))))
     replace h := sj h; subst h
     exact ⟨_, hC, ⟨rfl, rfl, rfl, rfl, trivial⟩, H.all⟩
   ·rintro e σ ⟨L, hC, he, H⟩
    obtain ⟨e, rfl⟩ := he.ex
    have hc0 := hcap _ _ hC
    obtain ⟨k0', hk0', hc0⟩ := hc0.inv
    refine .nila H fun H => ?_
    refine .whether (v := y2.1) rfl ?_ ?_ <;> intro hc3
    ·replace h := Z7 hc3 h
     refine .ret ?_
     replace h := sj h; subst h
     exact ⟨nofun, (.inr ⟨_, rfl, rfl, (EndsI.H (.inr rfl) H 0 rfl hC)⟩)⟩
    ·replace h := Z8 hc3 h
     refine .skip (.Z0 3 rfl H fun b4 σ H => (.move (v := (vi s1.1)) rfl rfl (.int (m := s1.1) (m' := 1) (r := .int .i64 (w64 (s1.1 + 1))) rfl rfl rfl rfl rfl (.assign (v := (vi (w64 (s1.1 + 1)))) rfl rfl (.nila H fun H => ?_)))))
     replace h := sj h; subst h
     exact ⟨rfl, _, hC, ⟨rfl, rfl, rfl, trivial⟩, H⟩
  ·replace h := Z8 hc1 h
   refine .exit ?_
   replace h := sj h; subst h
   exact ⟨nofun, (.inl ⟨_, _, hC, rfl, rfl, trivial, H⟩)⟩
 ·rintro x e σ (⟨a2, L, hC, rfl, rfl, he, H⟩ | ⟨r', rfl, rfl, hE⟩)
  ·skip
   replace h := jgo h
   obtain ⟨e, rfl⟩ := he.ex
   have hc0 := hcap _ _ hC
   obtain ⟨k0', hk0', hc0⟩ := hc0.inv
   replace h := sj h; subst h
   exact (EndsI.H (.inl rfl) H 0 rfl hC)
  ·skip
   replace h := jret h
   replace h := sj h; subst h
   exact hE

theorem Z2D {s1' : (List Span)} {s2' : (List Span)} {eq : Span → Span → Option Bool} {C : List Res} {cv0 : PV} (hs0 : cv0.still = true) (hp0 : cv0.pure = true → C = []) (hf0 : ∀ z0 z1 y, eq z0 z1 = some y → CloH CX cv0 [(.agg (vs (Span.cs z0))), (.agg (vs (Span.cs z1)))] (vb y) C) {r : Bool} (h : ZE s1' s2' eq = some r) : FnH CX 132 [(vl Span.cs s1'), (vl Span.cs s2'), cv0] (vb r) C := by
 refine FnH.of Try.func132 rfl rfl rfl rfl (Z4X rfl (Z4X rfl (Z4X hs0 all_nil))) rfl (fun h => hp0 (Z46 h 2 rfl)) ?_
 intro σ L hC H
 unfold ZE at h
 refine .then (.Z0 1 rfl H fun b1 σ H => (.assign (v := (vb false)) rfl rfl (.nila H fun H => (.then (.then ?_)))))
 refine .Z0 5 rfl H fun b2 σ H => (.move (v := (vl Span.cs s1')) rfl rfl (.Z0K (c := Span.cs) (xs := s1') rfl rfl rfl (.move (v := (vl Span.cs s2')) rfl rfl (.Z0K (c := Span.cs) (xs := s2') rfl rfl rfl (.int (m := (s1'.length : Int)) (m' := (s2'.length : Int)) (r := .bool ((s1'.length : Int) != (s2'.length : Int))) rfl rfl rfl rfl rfl ?_)))))
 refine .nila H fun H => ?_
 refine .whether (v := ((s1'.length : Int) != (s2'.length : Int))) rfl ?_ ?_ <;> intro hc1
 ·replace h := Z7 hc1 h
  refine .then (.Z0 1 rfl H fun b3 σ H => (.assign (v := (vb false)) rfl rfl (.nila H fun H => (.ret ?_))))
  replace h := sj h; subst h
  exact (EndsH.H (xs := [(vb false)]) (.inr rfl) H (.tmp (v := (vb false)) rfl .nil) (.one (.c (.v _))) 0 rfl)
 ·replace h := Z8 hc1 h
  refine .skip (.then (.then (.Z0 3 rfl H fun b4 σ H => (.move (v := (vl Span.cs s1')) rfl rfl (.Z0K (c := Span.cs) (xs := s1') rfl rfl rfl ?_)))))
  refine .move (v := (vi 0)) rfl rfl (.nila H fun H => (.inBlock ?_))
  obtain ⟨y1, hj1, h⟩ := bind_some h
  obtain ⟨n1, hj1⟩ := Zb.1 hj1
  refine .mono (Runs.ZO hj1 (fun s1 e σ => Z4 e [(1, (vl Span.cs s2')), (2, cv0), (15, (vl Span.cs s1')), (16, (vi (s1'.length : Int))), (17, (vi s1))] ∧ Hs σ (L)) (fun y1 x e σ => (∃ a1, y1 = (.go a1) ∧ x = .exit 0 ∧ Z4 e [] ∧ Hs σ (L)) ∨ (∃ r', y1 = (.ret r') ∧ x = .ret ∧ EndsH CX Try.f132.results.toList (vb r') L x e σ)) ⟨⟨rfl, rfl, rfl, rfl, rfl, trivial⟩, H⟩ ?_) ?_
  ·intro s1 e σ hI z h
   obtain ⟨he, H⟩ := hI
   obtain ⟨e, rfl⟩ := he.ex
   unfold ZE.s0 at h
   refine .then (.Z0 1 rfl H fun b5 σ H => (.int (m := s1) (m' := (s1'.length : Int)) (r := .bool (decide (s1 < (s1'.length : Int)))) rfl rfl rfl rfl rfl (.nila H fun H => (.then ?_))))
   refine .whether (v := (decide (s1 < (s1'.length : Int)))) rfl ?_ ?_ <;> intro hc2
   ·replace h := Z7 hc2 h
    refine .skip (.then (.inBlock (.then (.Z0 6 rfl H fun b6 σ H => (.move (v := (vi s1)) rfl rfl ?_)))))
    obtain ⟨x1, q1, h⟩ := bind_some h
    refine .Zy (c := Span.cs) (u := x1) rfl rfl q1 rfl rfl rfl rfl (.Z26 (cs := [(.int .i64 x1.From), (.int .i64 x1.To)]) rfl rfl rfl rfl rfl rfl (.Zk (cs := [(vi 0), (vi 0)]) H (by omega) (by omega) rfl rfl fun σ H => (.assign (v := (vi s1)) rfl rfl (.ZV (off := 0) (cells' := [(vi x1.From), (vi x1.To)]) H 0 rfl rfl rfl rfl rfl rfl rfl rfl rfl nofun fun σ H => (.nila H fun H => ?_)))))
    refine .then (.Z0 6 rfl H fun b7 σ H => (.move (v := (vl Span.cs s2')) rfl rfl (.move (v := (vi s1)) rfl rfl ?_)))
    obtain ⟨x2, q2, h⟩ := bind_some h
    refine .Zy (c := Span.cs) (u := x2) rfl rfl q2 rfl rfl rfl rfl (.Z26 (cs := [(.int .i64 x2.From), (.int .i64 x2.To)]) rfl rfl rfl rfl rfl rfl (.Zk (cs := [(vi 0), (vi 0)]) H (by omega) (by omega) rfl rfl fun σ H => (.ZV (off := 0) (cells' := [(vi x2.From), (vi x2.To)]) H 0 rfl rfl rfl rfl rfl rfl rfl rfl rfl nofun fun σ H => (.nila H fun H => (.then ?_)))))
    refine .Z0 5 rfl H fun b8 σ H => (.move (v := cv0) rfl rfl (.ZI (off := 0) (cs := [(vi x1.From), (vi x1.To)]) H 1 rfl rfl rfl rfl rfl rfl rfl nofun rfl (.ZI (off := 0) (cs := [(vi x2.From), (vi x2.To)]) H 0 rfl rfl rfl rfl rfl rfl rfl nofun rfl ?_)))
    obtain ⟨x3, q3, h⟩ := bind_some h
    refine .callV (cv := cv0) (ys := [(.agg (vs (Span.cs x1))), (.agg (vs (Span.cs x2)))]) (r := (vb x3)) H rfl rfl (hf0 x1 x2 _ q3) hC.push.push nofun rfl fun σ H => (.not (b := x3) rfl rfl (.nila H fun H => ?_))
    refine .whether (v := (!x3)) rfl ?_ ?_ <;> intro hc3
    ·replace h := Z7 hc3 h
     refine .then (.Z0 1 rfl H fun b9 σ H => (.assign (v := (vb false)) rfl rfl (.nila H fun H => (.ret ?_))))
     replace h := sj h; subst h
     exact ⟨nofun, (.inr ⟨_, rfl, rfl, (EndsH.H (xs := [(vb false)]) (.inr rfl) H (.tmp (v := (vb false)) rfl .nil) (.one (.c (.v _))) 2 rfl)⟩)⟩
    ·replace h := Z8 hc3 h
     refine .skip (.Z0 2 rfl H fun b10 σ H => (.int (m := s1) (m' := 1) (r := .int .i64 (w64 (s1 + 1))) rfl rfl rfl rfl rfl (.move (v := (vi (w64 (s1 + 1)))) rfl rfl (.nila H fun H => ?_))))
     replace h := sj h; subst h
     exact ⟨rfl, ⟨rfl, rfl, rfl, rfl, rfl, trivial⟩, ((H.erase 1).erase 0)⟩
   ·replace h := Z8 hc2 h
    refine .exit ?_
    replace h := sj h; subst h
    exact ⟨nofun, (.inl ⟨_, rfl, rfl, trivial, H⟩)⟩
  ·rintro x e σ (⟨a2, rfl, rfl, he, H⟩ | ⟨r', rfl, rfl, hE⟩)
   ·skip
    replace h := jgo h
    obtain ⟨e, rfl⟩ := he.ex
    refine .then (.Z0 1 rfl H fun b11 σ H => (.assign (v := (vb true)) rfl rfl (.nila H fun H => (.ret ?_))))
    replace h := sj h; subst h
    exact (EndsH.H (xs := [(vb true)]) (.inr rfl) H (.tmp (v := (vb true)) rfl .nil) (.one (.c (.v _))) 0 rfl)
   ·skip
    replace h := jret h
    replace h := sj h; subst h
    exact hE

theorem Z7O {x' : Span} {y : Span} {p2' : Int} {id0' : Nat} {r : Bool} (h : Z1D x' y p2' = r) : FnH CX 133 [(.agg (vs (Span.cs x'))), (.agg (vs (Span.cs y))), (.ptr id0' 1 0)] (vb r) [.blk id0' 3 [(vi p2')]] := by
 refine FnH.of Try.func133 rfl rfl rfl rfl rfl rfl (fun h => by have := Z46 h 2 rfl; cases this) ?_
 intro σ L hC H
 have hC0 := hC
 obtain ⟨k0', hk0', hC⟩ := hC.inv
 unfold Z1D at h
 refine .then (.Z0 3 rfl H fun b1 σ H => (.boxH (cs := [(vi x'.From), (vi x'.To)]) H (by omega) (by omega) rfl rfl rfl fun σ H => (.boxH (cs := [(vi y.From), (vi y.To)]) H (by omega) (by omega) rfl rfl rfl fun σ H => (.assign (v := (vb false)) rfl rfl (.nila H fun H => ?_)))))
 refine .then (.Z0 17 rfl H fun b2 σ H => (.Z2 (off := 0) (fo := 0) H 0 rfl rfl rfl rfl rfl nofun rfl (.ZC (off := 0) (v := (vi y.From)) H 0 rfl rfl rfl rfl rfl nofun rfl (.Z2 (off := 0) (fo := 0) H 1 rfl rfl rfl rfl rfl nofun rfl (.ZC (off := 0) (v := (vi x'.From)) H 1 rfl rfl rfl rfl rfl nofun rfl ?_)))))
 refine .int (m := y.From) (m' := x'.From) (r := .int .i64 (w64 (y.From - x'.From))) rfl rfl rfl rfl rfl (.ZC (off := 0) (v := (vi p2')) H (k0' + 2) hk0' rfl rfl rfl rfl nofun rfl (.int (m := (w64 (y.From - x'.From))) (m' := p2') (r := .bool ((w64 (y.From - x'.From)) == p2')) rfl rfl rfl rfl rfl (.move (v := (vb ((w64 (y.From - x'.From)) == p2'))) rfl rfl ?_)))
 refine .mid 8 (K1 := fun e σ => Z4 e [(21, (vb (((w64 (y.From - x'.From)) == p2') && ((w64 (y.To - x'.To)) == p2'))))] ∧ Has σ (b2 + 16) (b2 + 17) (L)) rfl ?_ ?_
 ·refine .split rfl rfl ?_ ?_ <;> intro hc1
  ·skip
   refine .wanted rfl rfl (.Z2 (off := 0) (fo := 1) H 0 rfl rfl rfl rfl rfl nofun rfl (.wanted rfl rfl (.ZC (off := 1) (v := (vi y.To)) H 0 rfl rfl rfl rfl rfl nofun rfl (.wanted rfl rfl (.Z2 (off := 0) (fo := 1) H 1 rfl rfl rfl rfl rfl nofun rfl ?_)))))
   refine .wanted rfl rfl (.ZC (off := 1) (v := (vi x'.To)) H 1 rfl rfl rfl rfl rfl nofun rfl (.wanted rfl rfl (.int (m := y.To) (m' := x'.To) (r := .int .i64 (w64 (y.To - x'.To))) rfl rfl rfl rfl rfl (.wanted rfl rfl (.ZC (off := 0) (v := (vi p2')) H (k0' + 2) hk0' rfl rfl rfl rfl nofun rfl ?_)))))
   refine .wanted rfl rfl (.int (m := (w64 (y.To - x'.To))) (m' := p2') (r := .bool ((w64 (y.To - x'.To)) == p2')) rfl rfl rfl rfl rfl (.Zf (v := (vb ((w64 (y.To - x'.To)) == p2'))) rfl rfl rfl (.nil ?_)))
   exact ⟨⟨Z15 hc1, trivial⟩, ((H.erase 1).erase 0).weak (by omega) (Nat.le_refl _)⟩
  ·skip
   refine .pass rfl rfl rfl (.pass rfl rfl rfl (.pass rfl rfl rfl (.pass rfl rfl rfl (.pass rfl rfl rfl (.pass rfl rfl rfl ?_)))))
   refine .pass rfl rfl rfl (.Zh (v := (vb false)) rfl rfl rfl (.nil ?_))
   exact ⟨⟨Z19 hc1, trivial⟩, ((H.erase 1).erase 0).weak (by omega) (Nat.le_refl _)⟩
 ·rintro e σ ⟨he, H⟩
  obtain ⟨e, rfl⟩ := he.ex
  refine .assign (v := (vb (((w64 (y.From - x'.From)) == p2') && ((w64 (y.To - x'.To)) == p2')))) rfl rfl (.nila H fun H => (.ret ?_))
  subst h
  exact (EndsH.H (xs := [(vb (((w64 (y.From - x'.From)) == p2') && ((w64 (y.To - x'.To)) == p2')))]) (.inr rfl) H (.tmp (v := (vb (((w64 (y.From - x'.From)) == p2') && ((w64 (y.To - x'.To)) == p2')))) rfl .nil) (.one (.c (.v _))) 0 rfl)

theorem Z8B {a : (List Span)} {b : (List Span)} {by' : Int} {r : Bool} (h : Z1l a b by' = some r) : Fn CX 119 [(vl Span.cs a), (vl Span.cs b), (vi by')] (vb r) := by
 refine Fn.ends Try.func119 rfl rfl rfl rfl rfl rfl ?_
 have H : Hs (⟨0, fun _ => .none⟩ : Heap) [] := Has.nil (Nat.le_refl _)
 generalize (⟨0, fun _ => .none⟩ : Heap) = σ at H ⊢
 unfold Z1l at h
 refine .then (.Z0 2 rfl H fun b1 σ H => (.boxH (cs := [(vi by')]) H (by omega) (by omega) rfl rfl rfl fun σ H => (.assign (v := (vb false)) rfl rfl (.nila H fun H => (.then ?_)))))
 refine .Z0 5 rfl H fun b2 σ H => (.move (v := (vl Span.cs a)) rfl rfl (.move (v := (vl Span.cs b)) rfl rfl (.Z7d (fs := []) (cs := [(.ptr (b1 + 0) 1 0)]) rfl rfl rfl rfl ?_)))
 obtain ⟨x1, q1, h⟩ := bind_some h
 refine .Z6u (ys := [(vl Span.cs a), (vl Span.cs b), (.clo 133 [] [(.ptr (b1 + 0) 1 0)])]) (r := (vb x1)) H rfl (Z2D (C := [.blk (b1 + 0) 3 [(vi by')]]) rfl (fun h => by simp [PV.pure] at h) (fun z0 z1 y hz => (CloH.clo (Z7O (Option.some.inj hz)))) q1) (.cons 0 rfl .nil) nofun rfl fun σ H => (.assign (v := (vb x1)) rfl rfl (.nila H fun H => (.ret ?_)))
 replace h := sj h; subst h
 exact (Ends.H (xs := [(vb x1)]) (.inr rfl) H (.tmp (v := (vb x1)) rfl .nil) (.one (.c (.v _))))

theorem canon_turn_fn {f : Form} {d : Int} {by' : Int} {r : Bool} (h : Z0l f d by' = some r) : Fn CX 93 [(.agg (vs (Form.cs f))), (vi d), (vi by')] (vb r) := by
 refine Fn.ends Try.func93 rfl rfl rfl rfl rfl rfl ?_
 have H : Hs (⟨0, fun _ => .none⟩ : Heap) [] := Has.nil (Nat.le_refl _)
 generalize (⟨0, fun _ => .none⟩ : Heap) = σ at H ⊢
 unfold Z0l at h
 refine .then (.Z0 2 rfl H fun b1 σ H => (.boxH (cs := (vF f)) H (by omega) (by omega) rfl rfl rfl fun σ H => (.assign (v := (vb false)) rfl rfl (.nila H fun H => (.then ?_)))))
 refine .then (.Z0 4 rfl H fun b2 σ H => (.Z2 (off := 0) (fo := 2) H 0 rfl rfl rfl rfl rfl nofun rfl (.ZC (off := 2) (v := (vl (cL Span.cs) f.Core)) H 0 rfl rfl rfl rfl rfl nofun rfl (.Z0K (c := (cL Span.cs)) (xs := f.Core) rfl rfl rfl (.move (v := (vi 0)) rfl rfl ?_)))))
 refine .nila H fun H => (.inBlock ?_)
 obtain ⟨y1, hj1, h⟩ := bind_some h
 obtain ⟨n1, hj1⟩ := Zb.1 hj1
 refine .mono (Runs.ZO hj1 (fun s1 e σ => Z4 e [(1, (vi d)), (2, (vi by')), (3, (.ptr (b1 + 0) 4 0)), (12, (vl (cL Span.cs) f.Core)), (13, (vi (f.Core.length : Int))), (14, (vi s1))] ∧ Hs σ [.blk (b1 + 0) 25 (vF f)]) (fun y1 x e σ => (∃ a1, y1 = (.go a1) ∧ x = .exit 0 ∧ Z4 e [] ∧ Hs σ []) ∨ (∃ r', y1 = (.ret r') ∧ x = .ret ∧ Ends CX Try.f93.results.toList (vb r') x e σ)) ⟨⟨rfl, rfl, rfl, rfl, rfl, rfl, trivial⟩, H⟩ ?_) ?_
 ·intro s1 e σ hI z h
  obtain ⟨he, H⟩ := hI
  obtain ⟨e, rfl⟩ := he.ex
  unfold Z0l.s0 at h
  refine .then (.Z0 1 rfl H fun b3 σ H => (.int (m := s1) (m' := (f.Core.length : Int)) (r := .bool (decide (s1 < (f.Core.length : Int)))) rfl rfl rfl rfl rfl (.nila H fun H => (.then ?_))))
  refine .whether (v := (decide (s1 < (f.Core.length : Int)))) rfl ?_ ?_ <;> intro hc1
  ·replace h := Z7 hc1 h
   refine .skip (.then ?_)
   obtain ⟨y2, hj2, h⟩ := bind_some h
   refine .mono (Q := fun x e σ => (∃ a2, y2 = (.go a2) ∧ x = .normal ∧ Z4 e [(1, (vi d)), (2, (vi by')), (3, (.ptr (b1 + 0) 4 0)), (12, (vl (cL Span.cs) f.Core)), (13, (vi (f.Core.length : Int))), (14, (vi s1))] ∧ Hs σ [.blk (b1 + 0) 25 (vF f)]) ∨ (∃ r', y2 = (.ret r') ∧ x = .ret ∧ Ends CX Try.f93.results.toList (vb r') x e σ)) ?_ ?_
   ·replace h := hj2
    refine .inBlock ?_
    obtain ⟨y3, hj3, h⟩ := bind_some h
    refine .mono (Q := fun x e σ => (∃ a3, y3 = (.go a3) ∧ x = .normal ∧ Z4 e [(1, (vi d)), (2, (vi by')), (3, (.ptr (b1 + 0) 4 0)), (12, (vl (cL Span.cs) f.Core)), (13, (vi (f.Core.length : Int))), (14, (vi s1))] ∧ Hs σ [.blk (b1 + 0) 25 (vF f)]) ∨ (∃ r', y3 = (.ret r') ∧ x = .ret ∧ Ends CX Try.f93.results.toList (vb r') x e σ)) ?_ ?_
    ·replace h := hj3
     refine .then (.Z0 5 rfl H fun b4 σ H => (.move (v := (vi s1)) rfl rfl ?_))
     obtain ⟨x1, q1, h⟩ := bind_some h
     refine .Zy (c := (cL Span.cs)) (u := x1) rfl rfl q1 rfl rfl rfl rfl (.Z1p (u := (.sl (x1.map Span.cs))) rfl rfl rfl rfl (.assign (v := (vi s1)) rfl rfl (.assign (v := (vl Span.cs x1)) rfl rfl (.nila H fun H => (.then ?_)))))
     refine .Z0 4 rfl H fun b5 σ H => (.move (v := (vi s1)) rfl rfl (.move (v := (vi d)) rfl rfl (.int (m := s1) (m' := d) (r := .int .i64 (w64 (s1 + d))) rfl rfl rfl rfl rfl (.assign (v := (vi (w64 (s1 + d)))) rfl rfl (.nila H fun H => ?_)))))
     refine .then (.Z0 1 rfl H fun b6 σ H => (.assign (v := (vi 0)) rfl rfl (.nila H fun H => (.then ?_))))
     obtain ⟨y4, hj4, h⟩ := bind_some h
     refine .mono (Q := fun x e σ => x = .normal ∧ Z4 e [(1, (vi d)), (2, (vi by')), (3, (.ptr (b1 + 0) 4 0)), (8, (vl Span.cs x1)), (9, (vi y4.1)), (10, (vi y4.2)), (12, (vl (cL Span.cs) f.Core)), (13, (vi (f.Core.length : Int))), (14, (vi s1))] ∧ Hs σ [.blk (b1 + 0) 25 (vF f)]) ?_ ?_
     ·replace h := hj4
      refine .then (.Z0 4 rfl H fun b7 σ H => (.move (v := (vi (w64 (s1 + d)))) rfl rfl (.Z2 (off := 0) (fo := 1) H 0 rfl rfl rfl rfl rfl nofun rfl (.ZC (off := 1) (v := (vi f.Count)) H 0 rfl rfl rfl rfl rfl nofun rfl (.int (m := (w64 (s1 + d))) (m' := f.Count) (r := .bool (decide ((w64 (s1 + d)) ≥ f.Count))) rfl rfl rfl rfl rfl ?_)))))
      refine .nila H fun H => ?_
      refine .whether (v := (decide ((w64 (s1 + d)) ≥ f.Count))) rfl ?_ ?_ <;> intro hc2
      ·replace h := Z7 hc2 h
       refine .Z0w 8 rfl (by kernel_rfl) H fun b8 σ H B8 => (.move (v := (vi (w64 (s1 + d)))) rfl rfl (.Z2 (off := 0) (fo := 1) H 0 rfl rfl rfl rfl rfl (fun _ => .inl ⟨B8 0 _ rfl _ rfl, nofun, (fun _ => by kernel_rfl)⟩) rfl (.ZC (off := 1) (v := (vi f.Count)) H 0 rfl rfl rfl rfl rfl (fun _ => .inl ⟨B8 0 _ rfl _ rfl, nofun, (fun _ => by kernel_rfl)⟩) rfl (.int (m := (w64 (s1 + d))) (m' := f.Count) (r := .int .i64 (w64 ((w64 (s1 + d)) - f.Count))) rfl rfl rfl rfl rfl (.Z2 (off := 0) (fo := 0) H 0 rfl rfl rfl rfl rfl (fun _ => .inl ⟨B8 0 _ rfl _ rfl, nofun, (fun _ => by kernel_rfl)⟩) rfl ?_)))))
       refine .ZC (off := 0) (v := (vi f.Period)) H 0 rfl rfl rfl rfl rfl (fun _ => .inl ⟨B8 0 _ rfl _ rfl, nofun, (fun _ => by kernel_rfl)⟩) rfl (.assign (v := (vi (w64 ((w64 (s1 + d)) - f.Count)))) rfl rfl (.assign (v := (vi f.Period)) rfl rfl (.nila H fun H => ?_)))
       replace h := sj h; subst h
       exact ⟨rfl, ⟨rfl, rfl, rfl, rfl, rfl, rfl, rfl, rfl, rfl, trivial⟩, H⟩
      ·replace h := Z8 hc2 h
       refine .skip ?_
       replace h := sj h; subst h
       exact ⟨rfl, ⟨rfl, rfl, rfl, rfl, rfl, rfl, rfl, rfl, rfl, trivial⟩, H⟩
     ·rintro x e σ ⟨rfl, he, H⟩
      obtain ⟨e, rfl⟩ := he.ex
      refine .then (.Z0 11 rfl H fun b9 σ H => (.move (v := (vl Span.cs x1)) rfl rfl (.Z2 (off := 0) (fo := 2) H 0 rfl rfl rfl rfl rfl nofun rfl (.ZC (off := 2) (v := (vl (cL Span.cs) f.Core)) H 0 rfl rfl rfl rfl rfl nofun rfl (.move (v := (vi y4.1)) rfl rfl ?_)))))
      obtain ⟨x2, q2, h⟩ := bind_some h
      refine .Zy (c := (cL Span.cs)) (u := x2) rfl rfl q2 rfl rfl rfl rfl (.Z1p (u := (.sl (x2.map Span.cs))) rfl rfl rfl rfl (.move (v := (vi by')) rfl rfl (.move (v := (vi y4.2)) rfl rfl (.int (m := by') (m' := y4.2) (r := .int .i64 (w64 (by' - y4.2))) rfl rfl rfl rfl rfl ?_))))
      obtain ⟨x3, q3, h⟩ := bind_some h
      refine .call (ys := [(vl Span.cs x1), (vl Span.cs x2), (vi (w64 (by' - y4.2)))]) (r := (vb x3)) rfl (Z8B q3) rfl (.not (b := x3) rfl rfl (.nila H fun H => ?_))
      refine .whether (v := (!x3)) rfl ?_ ?_ <;> intro hc3
      ·replace h := Z7 hc3 h
       refine .then (.Z0 1 rfl H fun b10 σ H => (.assign (v := (vb false)) rfl rfl (.nila H fun H => (.ret ?_))))
       replace h := sj h; subst h
       exact (.inr ⟨_, rfl, rfl, (Ends.H (xs := [(vb false)]) (.inr rfl) H (.tmp (v := (vb false)) rfl .nil) (.one (.c (.v _))))⟩)
      ·replace h := Z8 hc3 h
       refine .skip ?_
       replace h := sj h; subst h
       exact (.inl ⟨_, rfl, rfl, ⟨rfl, rfl, rfl, rfl, rfl, rfl, trivial⟩, H⟩)
    ·rintro x e σ (⟨a4, rfl, rfl, he, H⟩ | ⟨r', rfl, rfl, hE⟩)
     ·skip
      replace h := jgo h
      obtain ⟨e, rfl⟩ := he.ex
      replace h := sj h; subst h
      exact (.inl ⟨_, rfl, rfl, ⟨rfl, rfl, rfl, rfl, rfl, rfl, trivial⟩, H⟩)
     ·skip
      replace h := jret h
      replace h := sj h; subst h
      exact (.inr ⟨_, rfl, rfl, hE⟩)
   ·rintro x e σ (⟨a5, rfl, rfl, he, H⟩ | ⟨r', rfl, rfl, hE⟩)
    ·skip
     replace h := jgo h
     obtain ⟨e, rfl⟩ := he.ex
     refine .Z0 2 rfl H fun b11 σ H => (.int (m := s1) (m' := 1) (r := .int .i64 (w64 (s1 + 1))) rfl rfl rfl rfl rfl (.move (v := (vi (w64 (s1 + 1)))) rfl rfl (.nila H fun H => ?_)))
     replace h := sj h; subst h
     exact ⟨rfl, ⟨rfl, rfl, rfl, rfl, rfl, rfl, trivial⟩, H⟩
    ·skip
     replace h := jret h
     replace h := sj h; subst h
     exact ⟨nofun, (.inr ⟨_, rfl, rfl, hE⟩)⟩
  ·replace h := Z8 hc1 h
   refine .exit ?_
   replace h := sj h; subst h
   exact ⟨nofun, (.inl ⟨_, rfl, rfl, trivial, (H.erase 0)⟩)⟩
 ·rintro x e σ (⟨a6, rfl, rfl, he, H⟩ | ⟨r', rfl, rfl, hE⟩)
  ·skip
   replace h := jgo h
   obtain ⟨e, rfl⟩ := he.ex
   refine .then (.Z0 1 rfl H fun b12 σ H => (.assign (v := (vb true)) rfl rfl (.nila H fun H => (.ret ?_))))
   replace h := sj h; subst h
   exact (Ends.H (xs := [(vb true)]) (.inr rfl) H (.tmp (v := (vb true)) rfl .nil) (.one (.c (.v _))))
  ·skip
   replace h := jret h
   replace h := sj h; subst h
   exact hE

end Go.Dn

namespace Go.Dn
open Go Go.Proofs
set_option maxRecDepth 100000
set_option maxHeartbeats 4000000

theorem Z2Y {l : List Span} {r : List Span} (h : clone? 16 l = some r) : Fn CX 67 [(vl Span.cs l)] (vl Span.cs r) := by
 obtain ⟨h1, rfl⟩ := clone_some h
 refine Fn.intr ?_ rfl rfl rfl
 rw [cx_intr67]
 unfold cloneV
 dsimp only
 rw [if_pos ⟨by simp [Span.cs], by simpa using h1⟩]

theorem canon_core_fn {f : Form} {r : Form} (h : Zs f = some r) : Fn CX 65 [(.agg (vs (Form.cs f)))] (.agg (vs (Form.cs r))) := by
 refine Fn.ends Try.func65 rfl rfl rfl rfl rfl rfl ?_
 have H : Hs (⟨0, fun _ => .none⟩ : Heap) [] := Has.nil (Nat.le_refl _)
 generalize (⟨0, fun _ => .none⟩ : Heap) = σ at H ⊢
 unfold Zs at h
 refine .then (.Z0 2 rfl H fun b1 σ H => (.boxH (cs := (vF f)) H (by omega) (by omega) rfl rfl rfl fun σ H => (.Zk (cs := [(vi 0), (vi 0), .nils, .nils]) H (by omega) (by omega) rfl rfl fun σ H => (.nila H fun H => (.scope ?_)))))
 refine .then (.Z0 3 rfl H fun b2 σ H => (.Z0I (cs := [(vi 0), (vi 0), .nils, .nils]) rfl rfl (.Zk (cs := [(vi 0), (vi 0), .nils, .nils]) H (by omega) (by omega) rfl rfl fun σ H => (.ZV (off := 0) (cells' := [(vi 0), (vi 0), .nils, .nils]) H 0 rfl rfl rfl rfl rfl rfl rfl rfl rfl nofun fun σ H => (.nila H fun H => ?_)))))
 refine .then (.then (.Z0 2 rfl H fun b3 σ H => (.ZI (off := 0) (cs := (vF f)) H 2 rfl rfl rfl rfl rfl rfl rfl nofun rfl ?_)))
 obtain ⟨x1, q1, h⟩ := bind_some h
 refine .call (ys := [(.agg (vF f))]) (r := (vb x1)) rfl (canon_bare_fn q1) rfl (.nila H fun H => ?_)
 refine .whether (v := x1) rfl ?_ ?_ <;> intro hc1
 ·replace h := Z7 hc1 h
  refine .then (.Z0 2 rfl H fun b4 σ H => (.ZI (off := 0) (cs := [(vi 0), (vi 0), .nils, .nils]) H 0 rfl rfl rfl rfl rfl rfl rfl nofun rfl (.ZV (off := 0) (cells' := [(vi 0), (vi 0), .nils, .nils]) H 1 rfl rfl rfl rfl rfl rfl rfl rfl rfl nofun fun σ H => (.nila H fun H => (.ret ?_)))))
  replace h := sj h; subst h
  exact (Ends.H (xs := [(.agg [(vi 0), (vi 0), .nils, .nils])]) (.inr rfl) H (.agg (cs := [(vi 0), (vi 0), .nils, .nils]) (off := 0) 1 rfl rfl rfl rfl rfl rfl rfl .nil) (.one (.a (.cons (.v _) (.cons (.v _) (.cons .n (.cons .n .nil)))))))
 ·replace h := Z8 hc1 h
  refine .skip (.then (.label (.then ?_)))
  obtain ⟨y1, hj1, h⟩ := bind_some h
  refine .mono (Q := fun x e σ => ∃ (w1 : PV), x = .normal ∧ Z4 e [(2, (.ptr (b1 + 1) 4 0)), (3, (.ptr (b2 + 1) 4 0))] ∧ Hs σ [.sl w1 41 1 (y1.1.map (cL Span.cs)) true, .blk (b2 + 1) 25 [(vi y1.2.1), (vi y1.2.2), w1, .nils], .blk (b1 + 1) 25 [(vi 0), (vi 0), .nils, .nils]]) ?_ ?_
  ·replace h := hj1
   refine .then (.Z0 3 rfl H fun b5 σ H => (.Z2 (off := 0) (fo := 1) H 2 rfl rfl rfl rfl rfl nofun rfl (.ZC (off := 1) (v := (vi f.Count)) H 2 rfl rfl rfl rfl rfl nofun rfl ?_)))
   refine .callO (ys := [(vi f.Count)]) rfl (Z7w H) nofun rfl ?_; rintro _ σ ⟨id1, rfl, H⟩
   refine .nila H fun H => (.inBlock ?_)
   replace H := H.pushNil 41 1 true
   obtain ⟨y2, hj2, h⟩ := bind_some h
   refine .rangeH H rfl (fun s2 M => ∃ (w4 : PV), M = [.sl w4 41 1 (s2.1.map (cL Span.cs)) true, .blk id1 3 [(vi f.Count)], .blk (b2 + 1) 25 [(vi s2.2.1), (vi s2.2.2), w4, .nils], .blk (b1 + 1) 25 [(vi 0), (vi 0), .nils, .nils], .blk (b1 + 0) 25 (vF f)]) (fun z2 => [(vi z2)]) (Zs.b0 f) (fun p => if p = 0 then none else some (.exit 0)) rfl (fun p => by (repeat' split) <;> exact ⟨_, rfl⟩) (r := y2) ⟨.nils, rfl⟩ (fun _ => rfl) (fun _ => rfl) ?_ (fun id hy => Z6i hy (fun s L hL => by obtain ⟨M, hM, rfl⟩ := hL; obtain ⟨_, rfl⟩ := hM; exact (.cons 2 rfl .nil)) hj2) ?_
   ·intro R0 R1 s2 z2 s' p h σ M O hM H
    obtain ⟨w4, rfl⟩ := hM
    unfold Zs.b0 at h
    refine .env [(17, (vi z2)), (1, (.ptr (b1 + 0) 4 0)), (2, (.ptr (b1 + 1) 4 0)), (3, (.ptr (b2 + 1) 4 0)), (16, (.clo 118 [] [(.ptr id1 1 0)]))] ⟨rfl, rfl, rfl, rfl, rfl, trivial⟩ fun e => (.Z0 1 rfl H fun b6 σ H => (.assign (v := (vi z2)) rfl rfl (.nila H fun H => ?_)))
    refine ⟨rfl, [.sl w4 41 1 (s2.1.map (cL Span.cs)) true, .blk id1 3 [(vi f.Count)], .blk (b2 + 1) 25 [(vi s2.2.1), (vi s2.2.2), w4, .nils], .blk (b1 + 1) 25 [(vi 0), (vi 0), .nils, .nils], .blk (b1 + 0) 25 (vF f)], H, ?_⟩; intro σ H
    refine .inBlock (.then (.Z0w 14 rfl (by kernel_rfl) H fun b7 σ H B7 => (.Z2 (off := 0) (fo := 0) H 5 rfl rfl rfl rfl rfl (fun _ => .inl ⟨B7 5 _ rfl _ rfl, nofun, (fun _ => by kernel_rfl)⟩) rfl (.ZC (off := 0) (v := (vi f.Period)) H 5 rfl rfl rfl rfl rfl (fun _ => .inl ⟨B7 5 _ rfl _ rfl, nofun, (fun _ => by kernel_rfl)⟩) rfl (.Z2 (off := 0) (fo := 1) H 5 rfl rfl rfl rfl rfl (fun _ => .inl ⟨B7 5 _ rfl _ rfl, nofun, (fun _ => by kernel_rfl)⟩) rfl ?_)))))
    refine .ZC (off := 1) (v := (vi f.Count)) H 5 rfl rfl rfl rfl rfl (fun _ => .inl ⟨B7 5 _ rfl _ rfl, nofun, (fun _ => by kernel_rfl)⟩) rfl (.move (v := (vi z2)) rfl rfl ?_)
    obtain ⟨u1, q2, h⟩ := bind_some h
    refine .quo (m := f.Count) (m' := z2) rfl rfl (nz_ne q2) rfl ?_
    obtain ⟨x2, q3, h⟩ := bind_some h
    refine .call (ys := [(vi f.Period), (vi (w64 (f.Count.tdiv z2)))]) (r := (.tup [(vi x2.1), (vi x2.2.1), (vi x2.2.2)])) rfl (Z2F q3) rfl (.move (v := (.tup [(vi x2.1), (vi x2.2.1), (vi x2.2.2)])) rfl rfl (.extract (v := (vi x2.1)) rfl rfl rfl (.extract (v := (vi x2.2.1)) rfl rfl rfl (.extract (v := (vi x2.2.2)) rfl rfl rfl (.assign (v := (vi x2.1)) rfl rfl ?_)))))
    refine .assign (v := (vi x2.2.1)) rfl rfl (.assign (v := (vi x2.2.2)) rfl rfl (.nila H fun H => (.then (.then (.Z0 9 rfl H fun b8 σ H => ?_)))))
    refine .move (v := (vi x2.2.1)) rfl rfl (.int (m := x2.2.1) (m' := 0) (r := .bool (x2.2.1 != 0)) rfl rfl rfl rfl rfl (.move (v := (vb (x2.2.1 != 0))) rfl rfl ?_))
    obtain ⟨y3, hj3, h⟩ := bind_some h
    refine .mid 6 (K1 := fun e σ => Z4 e [(37, (vb y3)), (1, (.ptr (b1 + 0) 4 0)), (2, (.ptr (b1 + 1) 4 0)), (3, (.ptr (b2 + 1) 4 0)), (4, (vi z2)), (5, (vi x2.1))] ∧ Has σ (b8 + 9) (b8 + 9) (R1 :: .sl w4 41 1 (s2.1.map (cL Span.cs)) true :: .blk id1 3 [(vi f.Count)] :: .blk (b2 + 1) 25 [(vi s2.2.1), (vi s2.2.2), w4, .nils] :: .blk (b1 + 1) 25 [(vi 0), (vi 0), .nils, .nils] :: .blk (b1 + 0) 25 (vF f) :: O)) rfl ?_ ?_
    ·refine .split rfl rfl ?_ ?_ <;> intro hc2
     ·replace h := Z7 hc2 hj3
      refine .pass rfl rfl rfl (.pass rfl rfl rfl (.pass rfl rfl rfl (.pass rfl rfl rfl (.pass rfl rfl rfl (.Zf (v := (vb true)) rfl rfl rfl ?_)))))
      refine .nil ?_
      replace h := sj h; subst h
      exact ⟨⟨rfl, rfl, rfl, rfl, rfl, rfl, trivial⟩, H.weak (by omega) (Nat.le_refl _)⟩
     ·replace h := Z8 hc2 hj3
      refine .wanted rfl rfl (.ZI (off := 0) (cs := (vF f)) H 5 rfl rfl rfl rfl rfl rfl rfl nofun rfl (.wanted rfl rfl (.move (v := (vi z2)) rfl rfl (.wanted rfl rfl (.move (v := (vi x2.1)) rfl rfl ?_)))))
      refine .wanted rfl rfl ?_
      obtain ⟨x3, q4, h⟩ := bind_some h
      refine .call (ys := [(.agg (vF f)), (vi z2), (vi x2.1)]) (r := (vb x3)) rfl (canon_turn_fn q4) rfl (.wanted rfl rfl (.not (b := x3) rfl rfl (.Zh (v := (vb (!x3))) rfl rfl rfl (.nil ?_))))
      replace h := sj h; subst h
      exact ⟨⟨rfl, rfl, rfl, rfl, rfl, rfl, trivial⟩, H.weak (by omega) (Nat.le_refl _)⟩
    ·rintro e σ ⟨he, H⟩
     obtain ⟨e, rfl⟩ := he.ex
     refine .nila H fun H => ?_
     refine .whether (v := y3) rfl ?_ ?_ <;> intro hc3
     ·replace h := Z7 hc3 h
      refine .exit ?_
      obtain ⟨rfl, rfl⟩ := Prod.mk.inj (Option.some.inj h)
      exact ⟨⟨rfl, (iff_of_true rfl rfl)⟩, _, ⟨w4, rfl⟩, H⟩
     ·replace h := Z8 hc3 h
      refine .skip (.then (.Z0 6 rfl H fun b9 σ H => (.move (v := (vi x2.1)) rfl rfl (.move (v := (vi z2)) rfl rfl (.Z2 (off := 0) (fo := 0) H 3 rfl rfl rfl rfl rfl nofun rfl ?_)))))
      refine .ZV (off := 0) (cells' := [(vi x2.1), (vi s2.2.2), w4, .nils]) H 3 rfl rfl rfl rfl rfl rfl rfl rfl rfl nofun fun σ H => (.Z2 (off := 0) (fo := 1) H 3 rfl rfl rfl rfl rfl nofun rfl (.ZV (off := 1) (cells' := [(vi x2.1), (vi z2), w4, .nils]) H 3 rfl rfl rfl rfl rfl rfl rfl rfl rfl nofun fun σ H => (.nila H fun H => (.then (.then ?_)))))
      refine .Z0 6 rfl H fun b10 σ H => (.Z2 (off := 0) (fo := 2) H 5 rfl rfl rfl rfl rfl nofun rfl (.ZC (off := 2) (v := (vl (cL Span.cs) f.Core)) H 5 rfl rfl rfl rfl rfl nofun rfl (.move (v := (vi z2)) rfl rfl ?_)))
      obtain ⟨x4, q5, h⟩ := bind_some h
      refine .sliceP01 (c := (cL Span.cs)) q5 rfl rfl rfl rfl (fun _ => rfl) rfl (.Z0K (c := (cL Span.cs)) (xs := x4) rfl rfl rfl (.move (v := (vi 0)) rfl rfl (.nila H fun H => (.inBlock ?_))))
      obtain ⟨y4, hj4, h⟩ := bind_some h
      obtain ⟨n1, hj4⟩ := Zb.1 hj4
      refine .mono (Runs.ZO hj4 (fun s3 e σ => ∃ (w7 : PV), Z4 e [(2, (.ptr (b1 + 1) 4 0)), (3, (.ptr (b2 + 1) 4 0)), (45, (vl (cL Span.cs) x4)), (46, (vi (x4.length : Int))), (47, (vi s3.1))] ∧ Hs σ (R1 :: .sl w7 41 1 (s3.2.map (cL Span.cs)) true :: .blk id1 3 [(vi f.Count)] :: .blk (b2 + 1) 25 [(vi x2.1), (vi z2), w7, .nils] :: .blk (b1 + 1) 25 [(vi 0), (vi 0), .nils, .nils] :: .blk (b1 + 0) 25 (vF f) :: O)) (fun y4 x e σ => ∃ (w8 : PV), x = .exit 2 ∧ Z4 e [(2, (.ptr (b1 + 1) 4 0)), (3, (.ptr (b2 + 1) 4 0))] ∧ Hs σ (R1 :: .sl w8 41 1 (y4.map (cL Span.cs)) true :: .blk id1 3 [(vi f.Count)] :: .blk (b2 + 1) 25 [(vi x2.1), (vi z2), w8, .nils] :: .blk (b1 + 1) 25 [(vi 0), (vi 0), .nils, .nils] :: .blk (b1 + 0) 25 (vF f) :: O)) ⟨w4, ⟨rfl, rfl, rfl, rfl, rfl, trivial⟩, H⟩ ?_) ?_
      ·intro s3 e σ hI z h
       obtain ⟨w7, he, H⟩ := hI
       obtain ⟨e, rfl⟩ := he.ex
       unfold Zs.s1 at h
       refine .then (.Z0 1 rfl H fun b11 σ H => (.int (m := s3.1) (m' := (x4.length : Int)) (r := .bool (decide (s3.1 < (x4.length : Int)))) rfl rfl rfl rfl rfl (.nila H fun H => (.then ?_))))
       refine .whether (v := (decide (s3.1 < (x4.length : Int)))) rfl ?_ ?_ <;> intro hc4
       ·replace h := Z7 hc4 h
        refine .skip (.then (.inBlock (.then (.Z0 3 rfl H fun b12 σ H => ?_))))
        obtain ⟨x5, q6, h⟩ := bind_some h
        refine .Zy (c := (cL Span.cs)) (u := x5) rfl rfl q6 rfl rfl rfl rfl (.Z1p (u := (.sl (x5.map Span.cs))) rfl rfl rfl rfl (.assign (v := (vl Span.cs x5)) rfl rfl (.nila H fun H => (.Z0w 8 rfl (by kernel_rfl) H fun b13 σ H B13 => (.Z2 (off := 0) (fo := 2) H 3 rfl rfl rfl rfl rfl (fun _ => .inl ⟨B13 3 _ rfl _ rfl, nofun, (fun _ => by kernel_rfl)⟩) rfl ?_)))))
        refine .ZC (off := 2) (v := w7) H 3 rfl rfl rfl rfl rfl (fun _ => .inl ⟨B13 3 _ rfl _ rfl, nofun, (fun _ => by kernel_rfl)⟩) rfl (.move (v := (vl Span.cs x5)) rfl rfl ?_)
        obtain ⟨x6, q7, h⟩ := bind_some h
        refine .call (ys := [(vl Span.cs x5)]) (r := (vl Span.cs x6)) rfl (Z2Y q7) rfl (.Z3K (sz := 1) ([x6].map (cL Span.cs)) H (by omega) (by omega) rfl rfl rfl rfl rfl rfl rfl rfl rfl fun σ H => ?_)
        obtain ⟨x7, q8, h⟩ := bind_some h
        refine .Z6G (c := (cL Span.cs)) (v := w7) (w := (.buf (b13 + 4) 1 1)) (xs := s3.2) (ys := [x6]) H (by omega) (by omega) 2 rfl rfl rfl (.s 0 rfl) q8 rfl rfl rfl rfl rfl (fun h => ⟨(fun id ho => .inl ⟨B13 1 _ rfl id ho, (fun _ => by kernel_rfl), nofun⟩), (fun id ho => .inr ⟨4, (by cases ho; rfl), (fun h => nomatch h), by kernel_rfl, by decide⟩)⟩) rfl fun w9 σ H => (.Z2 (off := 0) (fo := 2) H 4 rfl rfl rfl rfl rfl (fun _ => .inl ⟨B13 3 _ rfl _ rfl, nofun, (fun _ => by kernel_rfl)⟩) rfl (.ZV (off := 2) (v := w9) (ys := [w9]) (cells' := [(vi x2.1), (vi z2), w9, .nils]) H 4 rfl rfl rfl rfl (H.slCells (k := 2) rfl) rfl rfl rfl rfl (fun _ => .inl ⟨B13 3 _ rfl _ rfl, (Z40 (by kernel_rfl))⟩) fun σ H => (.nila H fun H => (.Z0 2 rfl H fun b14 σ H => (.int (m := s3.1) (m' := 1) (r := .int .i64 (w64 (s3.1 + 1))) rfl rfl rfl rfl rfl ?_)))))
        refine .move (v := (vi (w64 (s3.1 + 1)))) rfl rfl (.nila H fun H => ?_)
        replace h := sj h; subst h
        exact ⟨rfl, w9, ⟨rfl, rfl, rfl, rfl, rfl, trivial⟩, (H.erase 0)⟩
       ·replace h := Z8 hc4 h
        refine .exit ?_
        replace h := sj h; subst h
        exact ⟨nofun, ⟨w7, rfl, ⟨rfl, rfl, trivial⟩, H⟩⟩
      ·rintro x e σ ⟨w10, rfl, he, H⟩
       obtain ⟨e, rfl⟩ := he.ex
       refine .exit ?_
       obtain ⟨rfl, rfl⟩ := Prod.mk.inj (Option.some.inj h)
       exact ⟨⟨rfl, (iff_of_false nofun nofun)⟩, _, ⟨w10, rfl⟩, H⟩
   ·intro x σ M hx hM H
    obtain ⟨w11, rfl⟩ := hM
    cases hc0_ : (y2.2 == 0)
    ·replace h := Z8 hc0_ h
     have hx : x = .exit 0 := by simpa [ne_of_beq_false hc0_, Z5v] using hx.symm
     subst hx
     replace h := sj h; subst h
     exact ⟨w11, rfl, ⟨rfl, rfl, trivial⟩, ((H.erase 4).erase 1)⟩
    ·replace h := Z7 hc0_ h
     have hx : x = .normal := by rw [eq_of_beq hc0_] at hx; exact (Option.some.inj hx).symm
     subst hx
     replace h := sj h; subst h
     exact ⟨w11, rfl, ⟨rfl, rfl, trivial⟩, ((H.erase 4).erase 1)⟩
  ·rintro x e σ ⟨w12, rfl, he, H⟩
   obtain ⟨e, rfl⟩ := he.ex
   refine .then (.Z0 2 rfl H fun b15 σ H => (.ZI (off := 0) (cs := [(vi y1.2.1), (vi y1.2.2), w12, .nils]) H 1 rfl rfl rfl rfl rfl rfl rfl nofun rfl (.ZV (off := 0) (cells' := [(vi y1.2.1), (vi y1.2.2), w12, .nils]) H 2 rfl rfl rfl rfl rfl rfl rfl rfl rfl nofun fun σ H => (.nila H fun H => (.ret ?_)))))
   replace h := sj h; subst h
   exact (Ends.H (xs := [(.agg [(vi y1.2.1), (vi y1.2.2), w12, .nils])]) (.inr rfl) H (.agg (cs := [(vi y1.2.1), (vi y1.2.2), w12, .nils]) (off := 0) 2 rfl rfl rfl rfl rfl rfl rfl .nil) (.one (.a (.cons (.v _) (.cons (.v _) (.cons (.s 0 rfl) (.cons .n .nil)))))))

theorem Z4T {s1' : (List Span)} {s2' : (List Span)} {r : Bool} (h : Zd s1' s2' = some r) : Fn CX 120 [(vl Span.cs s1'), (vl Span.cs s2')] (vb r) := by
 refine Fn.ends Try.func120 rfl rfl rfl rfl rfl rfl ?_
 have H : Hs (⟨0, fun _ => .none⟩ : Heap) [] := Has.nil (Nat.le_refl _)
 generalize (⟨0, fun _ => .none⟩ : Heap) = σ at H ⊢
 unfold Zd at h
 refine .then (.Z0 1 rfl H fun b1 σ H => (.assign (v := (vb false)) rfl rfl (.nila H fun H => (.then (.then ?_)))))
 refine .Z0 5 rfl H fun b2 σ H => (.move (v := (vl Span.cs s1')) rfl rfl (.Z0K (c := Span.cs) (xs := s1') rfl rfl rfl (.move (v := (vl Span.cs s2')) rfl rfl (.Z0K (c := Span.cs) (xs := s2') rfl rfl rfl (.int (m := (s1'.length : Int)) (m' := (s2'.length : Int)) (r := .bool ((s1'.length : Int) != (s2'.length : Int))) rfl rfl rfl rfl rfl ?_)))))
 refine .nila H fun H => ?_
 refine .whether (v := ((s1'.length : Int) != (s2'.length : Int))) rfl ?_ ?_ <;> intro hc1
 ·replace h := Z7 hc1 h
  refine .then (.Z0 1 rfl H fun b3 σ H => (.assign (v := (vb false)) rfl rfl (.nila H fun H => (.ret ?_))))
  replace h := sj h; subst h
  exact (Ends.H (xs := [(vb false)]) (.inr rfl) H (.tmp (v := (vb false)) rfl .nil) (.one (.c (.v _))))
 ·replace h := Z8 hc1 h
  refine .skip (.then (.then (.Z0 3 rfl H fun b4 σ H => (.move (v := (vl Span.cs s1')) rfl rfl (.Z0K (c := Span.cs) (xs := s1') rfl rfl rfl ?_)))))
  refine .move (v := (vi 0)) rfl rfl (.nila H fun H => (.inBlock ?_))
  obtain ⟨y1, hj1, h⟩ := bind_some h
  obtain ⟨n1, hj1⟩ := Zb.1 hj1
  refine .mono (Runs.ZO hj1 (fun s1 e σ => Z4 e [(0, (vl Span.cs s1')), (1, (vl Span.cs s2')), (12, (vi (s1'.length : Int))), (13, (vi s1))] ∧ Hs σ []) (fun y1 x e σ => (∃ a1, y1 = (.go a1) ∧ x = .exit 0 ∧ Z4 e [] ∧ Hs σ []) ∨ (∃ r', y1 = (.ret r') ∧ x = .ret ∧ Ends CX Try.f120.results.toList (vb r') x e σ)) ⟨⟨rfl, rfl, rfl, rfl, trivial⟩, H⟩ ?_) ?_
  ·intro s1 e σ hI z h
   obtain ⟨he, H⟩ := hI
   obtain ⟨e, rfl⟩ := he.ex
   unfold Zd.s0 at h
   refine .then (.Z0 1 rfl H fun b5 σ H => (.int (m := s1) (m' := (s1'.length : Int)) (r := .bool (decide (s1 < (s1'.length : Int)))) rfl rfl rfl rfl rfl (.nila H fun H => (.then ?_))))
   refine .whether (v := (decide (s1 < (s1'.length : Int)))) rfl ?_ ?_ <;> intro hc2
   ·replace h := Z7 hc2 h
    refine .skip (.then (.inBlock (.then (.Z0 2 rfl H fun b6 σ H => (.move (v := (vi s1)) rfl rfl ?_)))))
    refine .assign (v := (vi s1)) rfl rfl (.nila H fun H => (.then (.Z0w 9 rfl (by kernel_rfl) H fun b7 σ H B7 => (.move (v := (vl Span.cs s1')) rfl rfl (.move (v := (vi s1)) rfl rfl ?_)))))
    obtain ⟨x1, q1, h⟩ := bind_some h
    refine .Zy (c := Span.cs) (u := x1) rfl rfl q1 rfl rfl rfl rfl (.Z26 (cs := [(.int .i64 x1.From), (.int .i64 x1.To)]) rfl rfl rfl rfl rfl rfl (.move (v := (vl Span.cs s2')) rfl rfl (.move (v := (vi s1)) rfl rfl ?_)))
    obtain ⟨x2, q2, h⟩ := bind_some h
    refine .Zy (c := Span.cs) (u := x2) rfl rfl q2 rfl rfl rfl rfl (.Z26 (cs := [(.int .i64 x2.From), (.int .i64 x2.To)]) rfl rfl rfl rfl rfl rfl (.binA (u := (.agg [(vi x1.From), (vi x1.To)])) (w := (.agg [(vi x2.From), (vi x2.To)])) (r := .bool (!((x1.From == x2.From) && ((x1.To == x2.To) && true)))) rfl rfl (by kernel_rfl) (fun _ => Z3L rfl rfl rfl rfl) rfl (.nila H fun H => ?_)))
    refine .whether (v := (!((x1.From == x2.From) && ((x1.To == x2.To) && true)))) rfl ?_ ?_ <;> intro hc3
    ·replace h := Z7 hc3 h
     refine .then (.Z0 1 rfl H fun b8 σ H => (.assign (v := (vb false)) rfl rfl (.nila H fun H => (.ret ?_))))
     replace h := sj h; subst h
     exact ⟨nofun, (.inr ⟨_, rfl, rfl, (Ends.H (xs := [(vb false)]) (.inr rfl) H (.tmp (v := (vb false)) rfl .nil) (.one (.c (.v _))))⟩)⟩
    ·replace h := Z8 hc3 h
     refine .skip (.Z0 2 rfl H fun b9 σ H => (.int (m := s1) (m' := 1) (r := .int .i64 (w64 (s1 + 1))) rfl rfl rfl rfl rfl (.move (v := (vi (w64 (s1 + 1)))) rfl rfl (.nila H fun H => ?_))))
     replace h := sj h; subst h
     exact ⟨rfl, ⟨rfl, rfl, rfl, rfl, trivial⟩, H⟩
   ·replace h := Z8 hc2 h
    refine .exit ?_
    replace h := sj h; subst h
    exact ⟨nofun, (.inl ⟨_, rfl, rfl, trivial, H⟩)⟩
  ·rintro x e σ (⟨a2, rfl, rfl, he, H⟩ | ⟨r', rfl, rfl, hE⟩)
   ·skip
    replace h := jgo h
    obtain ⟨e, rfl⟩ := he.ex
    refine .then (.Z0 1 rfl H fun b10 σ H => (.assign (v := (vb true)) rfl rfl (.nila H fun H => (.ret ?_))))
    replace h := sj h; subst h
    exact (Ends.H (xs := [(vb true)]) (.inr rfl) H (.tmp (v := (vb true)) rfl .nil) (.one (.c (.v _))))
   ·skip
    replace h := jret h
    replace h := sj h; subst h
    exact hE

theorem spans_Same_fn {a : (List Span)} {b : (List Span)} {r : Bool} (h : Z11 a b = some r) : Fn CX 94 [(vl Span.cs a), (vl Span.cs b)] (vb r) := by
 refine Fn.ends Try.func94 rfl rfl rfl rfl rfl rfl ?_
 have H : Hs (⟨0, fun _ => .none⟩ : Heap) [] := Has.nil (Nat.le_refl _)
 generalize (⟨0, fun _ => .none⟩ : Heap) = σ at H ⊢
 unfold Z11 at h
 refine .then (.Z0 1 rfl H fun b1 σ H => (.assign (v := (vb false)) rfl rfl (.nila H fun H => (.then (.Z0 4 rfl H fun b2 σ H => ?_)))))
 refine .move (v := (vl Span.cs a)) rfl rfl (.move (v := (vl Span.cs b)) rfl rfl ?_)
 obtain ⟨x1, q1, h⟩ := bind_some h
 refine .call (ys := [(vl Span.cs a), (vl Span.cs b)]) (r := (vb x1)) rfl (Z4T q1) rfl (.assign (v := (vb x1)) rfl rfl (.nila H fun H => (.ret ?_)))
 replace h := sj h; subst h
 exact (Ends.H (xs := [(vb x1)]) (.inr rfl) H (.tmp (v := (vb x1)) rfl .nil) (.one (.c (.v _))))

theorem Z9b {f : Form} {g : Granule} {r : Bool} (h : Z2Z f g = some r) : Fn CX 66 [(.agg (vs (Form.cs f))), (.agg (vs (Granule.cs g)))] (vb r) := by
 refine Fn.ends Try.func66 rfl rfl rfl rfl rfl rfl ?_
 have H : Hs (⟨0, fun _ => .none⟩ : Heap) [] := Has.nil (Nat.le_refl _)
 generalize (⟨0, fun _ => .none⟩ : Heap) = σ at H ⊢
 unfold Z2Z at h
 refine .then (.Z0 3 rfl H fun b1 σ H => (.boxH (cs := (vF f)) H (by omega) (by omega) rfl rfl rfl fun σ H => (.boxH (cs := [(vi g.Index), (vl Span.cs g.Ticks)]) H (by omega) (by omega) rfl rfl rfl fun σ H => (.assign (v := (vb false)) rfl rfl (.nila H fun H => ?_)))))
 refine .then (.Z0 9 rfl H fun b2 σ H => (.ZI (off := 0) (cs := (vF f)) H 1 rfl rfl rfl rfl rfl rfl rfl nofun rfl (.Z2 (off := 0) (fo := 0) H 0 rfl rfl rfl rfl rfl nofun rfl (.ZC (off := 0) (v := (vi g.Index)) H 0 rfl rfl rfl rfl rfl nofun rfl ?_))))
 obtain ⟨x1, q1, h⟩ := bind_some h
 refine .call (ys := [(.agg (vF f)), (vi g.Index)]) (r := (.tup [(vl Span.cs x1.1), (vi x1.2)])) rfl (Z3D q1) rfl (.move (v := (.tup [(vl Span.cs x1.1), (vi x1.2)])) rfl rfl (.extract (v := (vl Span.cs x1.1)) rfl rfl rfl (.extract (v := (vi x1.2)) rfl rfl rfl (.assign (v := (vl Span.cs x1.1)) rfl rfl (.assign (v := (vi x1.2)) rfl rfl ?_)))))
 refine .nila H fun H => (.then (.Z0 9 rfl H fun b3 σ H => (.move (v := (vi x1.2)) rfl rfl (.int (m := x1.2) (m' := 0) (r := .bool (x1.2 == 0)) rfl rfl rfl rfl rfl (.move (v := (vb (x1.2 == 0))) rfl rfl ?_)))))
 obtain ⟨y1, hj1, h⟩ := bind_some h
 refine .mid 5 (K1 := fun e σ => Z4 e [(21, (vb y1))] ∧ Has σ (b3 + 8) (b3 + 9) []) rfl ?_ ?_
 ·refine .split rfl rfl ?_ ?_ <;> intro hc1
  ·replace h := Z7 hc1 hj1
   refine .wanted rfl rfl (.move (v := (vl Span.cs x1.1)) rfl rfl (.wanted rfl rfl (.Z2 (off := 0) (fo := 1) H 0 rfl rfl rfl rfl rfl nofun rfl (.wanted rfl rfl (.ZC (off := 1) (v := (vl Span.cs g.Ticks)) H 0 rfl rfl rfl rfl rfl nofun rfl ?_)))))
   refine .wanted rfl rfl ?_
   obtain ⟨x2, q2, h⟩ := bind_some h
   refine .call (ys := [(vl Span.cs x1.1), (vl Span.cs g.Ticks)]) (r := (vb x2)) rfl (spans_Same_fn q2) rfl (.Zf (v := (vb x2)) rfl rfl rfl (.nil ?_))
   replace h := sj h; subst h
   exact ⟨⟨rfl, trivial⟩, ((H.erase 1).erase 0).weak (by omega) (Nat.le_refl _)⟩
  ·replace h := Z8 hc1 hj1
   refine .pass rfl rfl rfl (.pass rfl rfl rfl (.pass rfl rfl rfl (.pass rfl rfl rfl (.Zh (v := (vb false)) rfl rfl rfl (.nil ?_)))))
   replace h := sj h; subst h
   exact ⟨⟨rfl, trivial⟩, ((H.erase 1).erase 0).weak (by omega) (Nat.le_refl _)⟩
 ·rintro e σ ⟨he, H⟩
  obtain ⟨e, rfl⟩ := he.ex
  refine .assign (v := (vb y1)) rfl rfl (.nila H fun H => (.ret ?_))
  replace h := sj h; subst h
  exact (Ends.H (xs := [(vb y1)]) (.inr rfl) H (.tmp (v := (vb y1)) rfl .nil) (.one (.c (.v _))))

theorem canon_Form_fn {f : Form} {r : Form} (h : Zq f = some r) : Fn CX 38 [(.agg (vs (Form.cs f)))] (.agg (vs (Form.cs r))) := by
 refine Fn.ends Try.func38 rfl rfl rfl rfl rfl rfl ?_
 have H : Hs (⟨0, fun _ => .none⟩ : Heap) [] := Has.nil (Nat.le_refl _)
 generalize (⟨0, fun _ => .none⟩ : Heap) = σ at H ⊢
 unfold Zq at h
 refine .then (.Z0 2 rfl H fun b1 σ H => (.boxH (cs := (vF f)) H (by omega) (by omega) rfl rfl rfl fun σ H => (.Zk (cs := [(vi 0), (vi 0), .nils, .nils]) H (by omega) (by omega) rfl rfl fun σ H => (.nila H fun H => (.then ?_)))))
 refine .Z0 4 rfl H fun b2 σ H => (.ZI (off := 0) (cs := (vF f)) H 1 rfl rfl rfl rfl rfl rfl rfl nofun rfl ?_)
 obtain ⟨x1, q1, h⟩ := bind_some h
 refine .call (ys := [(.agg (vF f))]) (r := (.agg (vF x1))) rfl (canon_core_fn q1) rfl (.Zk (cs := [(vi 0), (vi 0), .nils, .nils]) H (by omega) (by omega) rfl rfl fun σ H => (.ZV (off := 0) (cells' := (vF x1)) H 0 rfl rfl rfl rfl rfl rfl rfl rfl rfl nofun fun σ H => (.nila H fun H => (.then (.Z0 1 rfl H fun b3 σ H => ?_)))))
 refine .assign (v := .nils) rfl rfl (.nila H fun H => (.then (.then (.Z0 4 rfl H fun b4 σ H => (.Z2 (off := 0) (fo := 3) H 2 rfl rfl rfl rfl rfl nofun rfl ?_)))))
 refine .ZC (off := 3) (v := (vl Granule.cs f.Odd)) H 2 rfl rfl rfl rfl rfl nofun rfl (.Z0K (c := Granule.cs) (xs := f.Odd) rfl rfl rfl (.move (v := (vi 0)) rfl rfl (.nila H fun H => (.inBlock ?_))))
 replace H := H.pushNil 76 2 true
 obtain ⟨y1, hj1, h⟩ := bind_some h
 obtain ⟨n1, hj1⟩ := Zb.1 hj1
 refine .mono (Runs.ZO hj1 (fun s2 e σ => ∃ (w3 : PV), Z4 e [(2, (.ptr (b1 + 1) 4 0)), (3, (.ptr (b2 + 2) 4 0)), (4, w3), (10, (vl Granule.cs f.Odd)), (11, (vi (f.Odd.length : Int))), (12, (vi s2.1))] ∧ Hs σ [.sl w3 76 2 (s2.2.map Granule.cs) true, .blk (b2 + 2) 25 (vF x1), .blk (b1 + 1) 25 [(vi 0), (vi 0), .nils, .nils]]) (fun y1 x e σ => ∃ (w4 : PV), x = .exit 0 ∧ Z4 e [(2, (.ptr (b1 + 1) 4 0)), (3, (.ptr (b2 + 2) 4 0)), (4, w4)] ∧ Hs σ [.sl w4 76 2 (y1.map Granule.cs) true, .blk (b2 + 2) 25 (vF x1), .blk (b1 + 1) 25 [(vi 0), (vi 0), .nils, .nils]]) ⟨.nils, ⟨rfl, rfl, rfl, rfl, rfl, rfl, trivial⟩, (H.erase 3)⟩ ?_) ?_
 ·intro s2 e σ hI z h
  obtain ⟨w3, he, H⟩ := hI
  obtain ⟨e, rfl⟩ := he.ex
  unfold Zq.s0 at h
  refine .then (.Z0 1 rfl H fun b5 σ H => (.int (m := s2.1) (m' := (f.Odd.length : Int)) (r := .bool (decide (s2.1 < (f.Odd.length : Int)))) rfl rfl rfl rfl rfl (.nila H fun H => (.then ?_))))
  refine .whether (v := (decide (s2.1 < (f.Odd.length : Int)))) rfl ?_ ?_ <;> intro hc1
  ·replace h := Z7 hc1 h
   refine .skip (.then ?_)
   obtain ⟨y2, hj2, h⟩ := bind_some h
   refine .mono (Q := fun x e σ => ∃ (w5 : PV), x = .normal ∧ Z4 e [(2, (.ptr (b1 + 1) 4 0)), (3, (.ptr (b2 + 2) 4 0)), (4, w5), (10, (vl Granule.cs f.Odd)), (11, (vi (f.Odd.length : Int))), (12, (vi s2.1))] ∧ Hs σ [.sl w5 76 2 (y2.map Granule.cs) true, .blk (b2 + 2) 25 (vF x1), .blk (b1 + 1) 25 [(vi 0), (vi 0), .nils, .nils]]) ?_ ?_
   ·replace h := hj2
    refine .inBlock ?_
    obtain ⟨y3, hj3, h⟩ := bind_some h
    refine .mono (Q := fun x e σ => ∃ (w6 : PV), x = .normal ∧ Z4 e [(2, (.ptr (b1 + 1) 4 0)), (3, (.ptr (b2 + 2) 4 0)), (4, w6), (10, (vl Granule.cs f.Odd)), (11, (vi (f.Odd.length : Int))), (12, (vi s2.1))] ∧ Hs σ [.sl w6 76 2 (y3.map Granule.cs) true, .blk (b2 + 2) 25 (vF x1), .blk (b1 + 1) 25 [(vi 0), (vi 0), .nils, .nils]]) ?_ ?_
    ·replace h := hj3
     refine .then (.Z0 4 rfl H fun b6 σ H => ?_)
     obtain ⟨x2, q2, h⟩ := bind_some h
     refine .Zy (c := Granule.cs) (u := x2) rfl rfl q2 rfl rfl rfl rfl (.Z26 (cs := [(.int .i64 x2.Index), (.sl (x2.Ticks.map Span.cs))]) rfl rfl rfl rfl rfl rfl (.Zk (cs := [(vi 0), .nils]) H (by omega) (by omega) rfl rfl fun σ H => (.ZV (off := 0) (cells' := [(vi x2.Index), (vl Span.cs x2.Ticks)]) H 0 rfl rfl rfl rfl rfl rfl rfl rfl rfl nofun fun σ H => (.nila H fun H => (.then ?_)))))
     refine .Z0 4 rfl H fun b7 σ H => (.ZI (off := 0) (cs := (vF x1)) H 2 rfl rfl rfl rfl rfl rfl rfl nofun rfl (.ZI (off := 0) (cs := [(vi x2.Index), (vl Span.cs x2.Ticks)]) H 0 rfl rfl rfl rfl rfl rfl rfl nofun rfl ?_))
     obtain ⟨x3, q3, h⟩ := bind_some h
     refine .call (ys := [(.agg (vF x1)), (.agg [(vi x2.Index), (vl Span.cs x2.Ticks)])]) (r := (vb x3)) rfl (Z9b q3) rfl (.not (b := x3) rfl rfl (.nila H fun H => ?_))
     refine .whether (v := (!x3)) rfl ?_ ?_ <;> intro hc2
     ·replace h := Z7 hc2 h
      refine .Z0w 10 rfl (by kernel_rfl) H fun b8 σ H B8 => (.move (v := w3) rfl rfl (.Z2 (off := 0) (fo := 0) H 0 rfl rfl rfl rfl rfl (fun _ => .inl ⟨B8 0 _ rfl _ rfl, nofun, (fun _ => by kernel_rfl)⟩) rfl (.ZC (off := 0) (v := (vi x2.Index)) H 0 rfl rfl rfl rfl rfl (fun _ => .inl ⟨B8 0 _ rfl _ rfl, nofun, (fun _ => by kernel_rfl)⟩) rfl (.Z2 (off := 0) (fo := 1) H 0 rfl rfl rfl rfl rfl (fun _ => .inl ⟨B8 0 _ rfl _ rfl, nofun, (fun _ => by kernel_rfl)⟩) rfl (.ZC (off := 1) (v := (vl Span.cs x2.Ticks)) H 0 rfl rfl rfl rfl rfl (fun _ => .inl ⟨B8 0 _ rfl _ rfl, nofun, (fun _ => by kernel_rfl)⟩) rfl ?_)))))
      obtain ⟨x4, q4, h⟩ := bind_some h
      refine .call (ys := [(vl Span.cs x2.Ticks)]) (r := (vl Span.cs x4)) rfl (Z2Y q4) rfl (.Z0I (cs := [(vi x2.Index), (vl Span.cs x4)]) rfl rfl (.Z3K (sz := 2) ([(Granule.mk x2.Index x4)].map Granule.cs) H (by omega) (by omega) rfl rfl rfl rfl rfl rfl rfl rfl rfl fun σ H => ?_))
      obtain ⟨x5, q5, h⟩ := bind_some h
      refine .Z6G (c := Granule.cs) (v := w3) (w := (.buf (b8 + 7) 1 2)) (xs := s2.2) (ys := [(Granule.mk x2.Index x4)]) H (by omega) (by omega) 2 rfl rfl rfl (.s 0 rfl) q5 rfl rfl rfl rfl rfl (fun h => ⟨(fun id ho => .inl ⟨B8 1 _ rfl id ho, (fun _ => by kernel_rfl), nofun⟩), (fun id ho => .inr ⟨7, (by cases ho; rfl), (fun h => nomatch h), by kernel_rfl, by decide⟩)⟩) rfl fun w7 σ H => (.assign (v := w7) rfl rfl (.nila H fun H => ?_))
      replace h := sj h; subst h
      exact ⟨w7, rfl, ⟨rfl, rfl, rfl, rfl, rfl, rfl, trivial⟩, ((H.erase 1).erase 0)⟩
     ·replace h := Z8 hc2 h
      refine .skip ?_
      replace h := sj h; subst h
      exact ⟨w3, rfl, ⟨rfl, rfl, rfl, rfl, rfl, rfl, trivial⟩, (H.erase 0)⟩
    ·rintro x e σ ⟨w8, rfl, he, H⟩
     obtain ⟨e, rfl⟩ := he.ex
     replace h := sj h; subst h
     exact ⟨w8, rfl, ⟨rfl, rfl, rfl, rfl, rfl, rfl, trivial⟩, H⟩
   ·rintro x e σ ⟨w9, rfl, he, H⟩
    obtain ⟨e, rfl⟩ := he.ex
    refine .Z0 2 rfl H fun b9 σ H => (.int (m := s2.1) (m' := 1) (r := .int .i64 (w64 (s2.1 + 1))) rfl rfl rfl rfl rfl (.move (v := (vi (w64 (s2.1 + 1)))) rfl rfl (.nila H fun H => ?_)))
    replace h := sj h; subst h
    exact ⟨rfl, w9, ⟨rfl, rfl, rfl, rfl, rfl, rfl, trivial⟩, H⟩
  ·replace h := Z8 hc1 h
   refine .exit ?_
   replace h := sj h; subst h
   exact ⟨nofun, ⟨w3, rfl, ⟨rfl, rfl, rfl, trivial⟩, H⟩⟩
 ·rintro x e σ ⟨w10, rfl, he, H⟩
  obtain ⟨e, rfl⟩ := he.ex
  refine .then (.Z0 3 rfl H fun b10 σ H => (.move (v := w10) rfl rfl (.Z2 (off := 0) (fo := 3) H 1 rfl rfl rfl rfl rfl nofun rfl (.ZV (off := 3) (v := w10) (ys := [w10]) (cells' := [(vi x1.Period), (vi x1.Count), (vl (cL Span.cs) x1.Core), w10]) H 1 rfl rfl rfl rfl (H.slCells (k := 0) rfl) rfl rfl rfl rfl nofun fun σ H => (.nila H fun H => ?_)))))
  refine .then (.Z0 2 rfl H fun b11 σ H => (.ZI (off := 0) (cs := [(vi x1.Period), (vi x1.Count), (vl (cL Span.cs) x1.Core), w10]) H 1 rfl rfl rfl rfl rfl rfl rfl nofun rfl (.ZV (off := 0) (cells' := [(vi x1.Period), (vi x1.Count), (vl (cL Span.cs) x1.Core), w10]) H 2 rfl rfl rfl rfl rfl rfl rfl rfl rfl nofun fun σ H => (.nila H fun H => (.ret ?_)))))
  replace h := sj h; subst h
  exact (Ends.H (xs := [(.agg [(vi x1.Period), (vi x1.Count), (vl (cL Span.cs) x1.Core), w10])]) (.inr rfl) H (.agg (cs := [(vi x1.Period), (vi x1.Count), (vl (cL Span.cs) x1.Core), w10]) (off := 0) 2 rfl rfl rfl rfl rfl rfl rfl .nil) (.one (.a (.cons (.v _) (.cons (.v _) (.cons (.v _) (.cons (.s 0 rfl) .nil)))))))

theorem Z2z {l : (List Span)} {r : Span × Bool} (h : Z10 l = some r) : Fn CX 40 [(vl Span.cs l)] (.tup [(.agg (vs (Span.cs r.1))), (vb r.2)]) := by
 refine Fn.ends Try.func40 rfl rfl rfl rfl rfl rfl ?_
 have H : Hs (⟨0, fun _ => .none⟩ : Heap) [] := Has.nil (Nat.le_refl _)
 generalize (⟨0, fun _ => .none⟩ : Heap) = σ at H ⊢
 unfold Z10 at h
 refine .then (.Z0 2 rfl H fun b1 σ H => (.Zk (cs := [(vi 0), (vi 0)]) H (by omega) (by omega) rfl rfl fun σ H => (.assign (v := (vb false)) rfl rfl (.nila H fun H => (.then ?_)))))
 refine .then (.Z0 3 rfl H fun b2 σ H => (.move (v := (vl Span.cs l)) rfl rfl (.Z0K (c := Span.cs) (xs := l) rfl rfl rfl (.int (m := (l.length : Int)) (m' := 0) (r := .bool ((l.length : Int) == 0)) rfl rfl rfl rfl rfl (.nila H fun H => ?_)))))
 refine .whether (v := ((l.length : Int) == 0)) rfl ?_ ?_ <;> intro hc1
 ·replace h := Z7 hc1 h
  refine .then (.Z0 3 rfl H fun b3 σ H => (.Z0I (cs := [(vi 0), (vi 0)]) rfl rfl (.ZV (off := 0) (cells' := [(vi 0), (vi 0)]) H 0 rfl rfl rfl rfl rfl rfl rfl rfl rfl nofun fun σ H => (.assign (v := (vb false)) rfl rfl (.nila H fun H => ?_)))))
  refine .ret ?_
  replace h := sj h; subst h
  exact (Ends.H (xs := [(.agg [(vi 0), (vi 0)]), (vb false)]) (.inr rfl) H (.agg (cs := [(vi 0), (vi 0)]) (off := 0) 0 rfl rfl rfl rfl rfl rfl rfl (.tmp (v := (vb false)) rfl .nil)) (.two (.cons (.p rfl) (.cons (.c (.v _)) .nil))))
 ·replace h := Z8 hc1 h
  refine .skip (.then (.Z0w 14 rfl (by kernel_rfl) H fun b4 σ H B4 => (.move (v := (vl Span.cs l)) rfl rfl ?_)))
  obtain ⟨x1, q1, h⟩ := bind_some h
  refine .Zy (c := Span.cs) (u := x1) rfl rfl q1 rfl rfl rfl rfl (.Z08 rfl rfl rfl rfl (.Z1p (u := (.int .i64 x1.From)) rfl rfl rfl rfl (.move (v := (vl Span.cs l)) rfl rfl (.move (v := (vl Span.cs l)) rfl rfl (.Z0K (c := Span.cs) (xs := l) rfl rfl rfl ?_)))))
  refine .int (m := (l.length : Int)) (m' := 1) (r := .int .i64 (w64 ((l.length : Int) - 1))) rfl rfl rfl rfl rfl ?_
  obtain ⟨x2, q2, h⟩ := bind_some h
  refine .Zy (c := Span.cs) (u := x2) rfl rfl q2 rfl rfl rfl rfl (.Z08 rfl rfl rfl rfl (.Z1p (u := (.int .i64 x2.To)) rfl rfl rfl rfl (.Z0I (cs := [(vi x1.From), (vi x2.To)]) rfl rfl (.ZV (off := 0) (cells' := [(vi x1.From), (vi x2.To)]) H 0 rfl rfl rfl rfl rfl rfl rfl rfl rfl (fun _ => .inl ⟨B4 0 _ rfl _ rfl, (Z40 (by kernel_rfl))⟩) fun σ H => (.assign (v := (vb true)) rfl rfl ?_)))))
  refine .nila H fun H => (.ret ?_)
  replace h := sj h; subst h
  exact (Ends.H (xs := [(.agg [(vi x1.From), (vi x2.To)]), (vb true)]) (.inr rfl) H (.agg (cs := [(vi x1.From), (vi x2.To)]) (off := 0) 0 rfl rfl rfl rfl rfl rfl rfl (.tmp (v := (vb true)) rfl .nil)) (.two (.cons (.p rfl) (.cons (.c (.v _)) .nil))))

theorem size_made_fn {f : Form} {r : size_form} (h : Z1N f = some r) : Fn CX 59 [(.agg (vs (Form.cs f)))] (.agg (vs (size_form.cs r))) := by
 refine Fn.ends Try.func59 rfl rfl rfl rfl rfl rfl ?_
 have H : Hs (⟨0, fun _ => .none⟩ : Heap) [] := Has.nil (Nat.le_refl _)
 generalize (⟨0, fun _ => .none⟩ : Heap) = σ at H ⊢
 unfold Z1N at h
 refine .then (.Z0 2 rfl H fun b1 σ H => (.boxH (cs := (vF f)) H (by omega) (by omega) rfl rfl rfl fun σ H => (.Zk (cs := [(vi 0), (vi 0), .nils, .nils, .nils]) H (by omega) (by omega) rfl rfl fun σ H => (.nila H fun H => (.then ?_)))))
 refine .Z0 5 rfl H fun b2 σ H => (.ZI (off := 0) (cs := (vF f)) H 1 rfl rfl rfl rfl rfl rfl rfl nofun rfl ?_)
 obtain ⟨x1, q1, h⟩ := bind_some h
 refine .call (ys := [(.agg (vF f))]) (r := (.agg (vF x1))) rfl (canon_Form_fn q1) rfl (.Z0I (cs := [(vi x1.Period), (vi x1.Count), (vl (cL Span.cs) x1.Core), (vl Granule.cs x1.Odd), .nils]) rfl rfl (.Zk (cs := [(vi 0), (vi 0), .nils, .nils, .nils]) H (by omega) (by omega) rfl rfl fun σ H => (.ZV (off := 0) (cells' := [(vi x1.Period), (vi x1.Count), (vl (cL Span.cs) x1.Core), (vl Granule.cs x1.Odd), .nils]) H 0 rfl rfl rfl rfl rfl rfl rfl rfl rfl nofun fun σ H => (.nila H fun H => (.then ?_)))))
 refine .then (.Z0 5 rfl H fun b3 σ H => (.Z2 (off := 0) (fo := 0) H 0 rfl rfl rfl rfl rfl nofun rfl (.Z2 (off := 0) (fo := 2) H 0 rfl rfl rfl rfl rfl nofun rfl (.ZC (off := 2) (v := (vl (cL Span.cs) x1.Core)) H 0 rfl rfl rfl rfl rfl nofun rfl (.Z0K (c := (cL Span.cs)) (xs := x1.Core) rfl rfl rfl ?_)))))
 refine .move (v := (vi 0)) rfl rfl (.nila H fun H => (.inBlock ?_))
 replace H := H.pushNil 116 3 true
 obtain ⟨y1, hj1, h⟩ := bind_some h
 obtain ⟨n1, hj1⟩ := Zb.1 hj1
 refine .mono (Runs.ZO hj1 (fun s2 e σ => ∃ (w3 : PV), Z4 e [(2, (.ptr (b1 + 1) 5 0)), (3, (.ptr (b2 + 3) 5 0)), (13, (vl (cL Span.cs) x1.Core)), (14, (vi (x1.Core.length : Int))), (15, (vi s2.1))] ∧ Hs σ [.sl w3 116 3 (s2.2.map size_spot.cs) true, .blk (b2 + 3) 96 [(vi x1.Period), (vi x1.Count), (vl (cL Span.cs) x1.Core), (vl Granule.cs x1.Odd), w3], .blk (b1 + 1) 96 [(vi 0), (vi 0), .nils, .nils, .nils]]) (fun y1 x e σ => ∃ (w4 : PV), x = .exit 0 ∧ Z4 e [(2, (.ptr (b1 + 1) 5 0)), (3, (.ptr (b2 + 3) 5 0))] ∧ Hs σ [.sl w4 116 3 (y1.map size_spot.cs) true, .blk (b2 + 3) 96 [(vi x1.Period), (vi x1.Count), (vl (cL Span.cs) x1.Core), (vl Granule.cs x1.Odd), w4], .blk (b1 + 1) 96 [(vi 0), (vi 0), .nils, .nils, .nils]]) ⟨.nils, ⟨rfl, rfl, rfl, rfl, rfl, trivial⟩, (H.erase 3)⟩ ?_) ?_
 ·intro s2 e σ hI z h
  obtain ⟨w3, he, H⟩ := hI
  obtain ⟨e, rfl⟩ := he.ex
  unfold Z1N.s0 at h
  refine .then (.Z0 1 rfl H fun b4 σ H => (.int (m := s2.1) (m' := (x1.Core.length : Int)) (r := .bool (decide (s2.1 < (x1.Core.length : Int)))) rfl rfl rfl rfl rfl (.nila H fun H => (.then ?_))))
  refine .whether (v := (decide (s2.1 < (x1.Core.length : Int)))) rfl ?_ ?_ <;> intro hc1
  ·replace h := Z7 hc1 h
   refine .skip (.then ?_)
   obtain ⟨y2, hj2, h⟩ := bind_some h
   refine .mono (Q := fun x e σ => ∃ (w5 : PV), x = .normal ∧ Z4 e [(2, (.ptr (b1 + 1) 5 0)), (3, (.ptr (b2 + 3) 5 0)), (13, (vl (cL Span.cs) x1.Core)), (14, (vi (x1.Core.length : Int))), (15, (vi s2.1))] ∧ Hs σ [.sl w5 116 3 (y2.map size_spot.cs) true, .blk (b2 + 3) 96 [(vi x1.Period), (vi x1.Count), (vl (cL Span.cs) x1.Core), (vl Granule.cs x1.Odd), w5], .blk (b1 + 1) 96 [(vi 0), (vi 0), .nils, .nils, .nils]]) ?_ ?_
   ·replace h := hj2
    refine .inBlock ?_
    obtain ⟨y3, hj3, h⟩ := bind_some h
    refine .mono (Q := fun x e σ => ∃ (w6 : PV), x = .normal ∧ Z4 e [(2, (.ptr (b1 + 1) 5 0)), (3, (.ptr (b2 + 3) 5 0)), (13, (vl (cL Span.cs) x1.Core)), (14, (vi (x1.Core.length : Int))), (15, (vi s2.1))] ∧ Hs σ [.sl w6 116 3 (y3.map size_spot.cs) true, .blk (b2 + 3) 96 [(vi x1.Period), (vi x1.Count), (vl (cL Span.cs) x1.Core), (vl Granule.cs x1.Odd), w6], .blk (b1 + 1) 96 [(vi 0), (vi 0), .nils, .nils, .nils]]) ?_ ?_
    ·replace h := hj3
     refine .then (.Z0 5 rfl H fun b5 σ H => (.move (v := (vi s2.1)) rfl rfl ?_))
     obtain ⟨x2, q2, h⟩ := bind_some h
     refine .Zy (c := (cL Span.cs)) (u := x2) rfl rfl q2 rfl rfl rfl rfl (.Z1p (u := (.sl (x2.map Span.cs))) rfl rfl rfl rfl (.assign (v := (vi s2.1)) rfl rfl (.assign (v := (vl Span.cs x2)) rfl rfl (.nila H fun H => (.then ?_)))))
     refine .Z0 8 rfl H fun b6 σ H => (.move (v := (vl Span.cs x2)) rfl rfl ?_)
     obtain ⟨x3, q3, h⟩ := bind_some h
     refine .call (ys := [(vl Span.cs x2)]) (r := (.tup [(.agg [(vi x3.1.From), (vi x3.1.To)]), (vb x3.2)])) rfl (Z2z q3) rfl (.move (v := (.tup [(.agg [(vi x3.1.From), (vi x3.1.To)]), (vb x3.2)])) rfl rfl (.extract (v := (.agg [(vi x3.1.From), (vi x3.1.To)])) rfl rfl rfl (.extract (v := (vb x3.2)) rfl rfl rfl (.Zk (cs := [(vi 0), (vi 0)]) H (by omega) (by omega) rfl rfl fun σ H => (.ZV (off := 0) (cells' := [(vi x3.1.From), (vi x3.1.To)]) H 0 rfl rfl rfl rfl rfl rfl rfl rfl rfl nofun fun σ H => ?_)))))
     refine .assign (v := (vb x3.2)) rfl rfl (.nila H fun H => (.then (.Z0 1 rfl H fun b7 σ H => (.move (v := (vb x3.2)) rfl rfl (.nila H fun H => ?_)))))
     refine .whether (v := x3.2) rfl ?_ ?_ <;> intro hc2
     ·replace h := Z7 hc2 h
      refine .Z0 13 rfl H fun b8 σ H => (.Z2 (off := 0) (fo := 4) H 2 rfl rfl rfl rfl rfl nofun rfl (.ZC (off := 4) (v := w3) H 2 rfl rfl rfl rfl rfl nofun rfl (.move (v := (vi s2.1)) rfl rfl (.Z2 (off := 0) (fo := 0) H 0 rfl rfl rfl rfl rfl nofun rfl (.ZC (off := 0) (v := (vi x3.1.From)) H 0 rfl rfl rfl rfl rfl nofun rfl ?_)))))
      refine .Z2 (off := 0) (fo := 1) H 0 rfl rfl rfl rfl rfl nofun rfl (.ZC (off := 1) (v := (vi x3.1.To)) H 0 rfl rfl rfl rfl rfl nofun rfl (.Z0I (cs := [(vi x3.1.From), (vi x3.1.To)]) rfl rfl (.Z0I (cs := [(vi s2.1), (vi x3.1.From), (vi x3.1.To)]) rfl rfl (.Z3K (sz := 3) ([(size_spot.mk s2.1 (size_place.mk x3.1.From x3.1.To))].map size_spot.cs) H (by omega) (by omega) rfl rfl rfl rfl rfl rfl rfl rfl rfl fun σ H => ?_))))
      obtain ⟨x4, q4, h⟩ := bind_some h
      refine .Z6G (c := size_spot.cs) (v := w3) (w := (.buf (b8 + 9) 1 3)) (xs := s2.2) (ys := [(size_spot.mk s2.1 (size_place.mk x3.1.From x3.1.To))]) H (by omega) (by omega) 2 rfl rfl rfl (.s 0 rfl) q4 rfl rfl rfl rfl rfl nofun rfl fun w7 σ H => (.Z2 (off := 0) (fo := 4) H 3 rfl rfl rfl rfl rfl nofun rfl (.ZV (off := 4) (v := w7) (ys := [w7]) (cells' := [(vi x1.Period), (vi x1.Count), (vl (cL Span.cs) x1.Core), (vl Granule.cs x1.Odd), w7]) H 3 rfl rfl rfl rfl (H.slCells (k := 2) rfl) rfl rfl rfl rfl nofun fun σ H => (.nila H fun H => ?_)))
      replace h := sj h; subst h
      exact ⟨w7, rfl, ⟨rfl, rfl, rfl, rfl, rfl, trivial⟩, ((H.erase 1).erase 0)⟩
     ·replace h := Z8 hc2 h
      refine .skip ?_
      replace h := sj h; subst h
      exact ⟨w3, rfl, ⟨rfl, rfl, rfl, rfl, rfl, trivial⟩, (H.erase 0)⟩
    ·rintro x e σ ⟨w8, rfl, he, H⟩
     obtain ⟨e, rfl⟩ := he.ex
     replace h := sj h; subst h
     exact ⟨w8, rfl, ⟨rfl, rfl, rfl, rfl, rfl, trivial⟩, H⟩
   ·rintro x e σ ⟨w9, rfl, he, H⟩
    obtain ⟨e, rfl⟩ := he.ex
    refine .Z0 2 rfl H fun b9 σ H => (.int (m := s2.1) (m' := 1) (r := .int .i64 (w64 (s2.1 + 1))) rfl rfl rfl rfl rfl (.move (v := (vi (w64 (s2.1 + 1)))) rfl rfl (.nila H fun H => ?_)))
    replace h := sj h; subst h
    exact ⟨rfl, w9, ⟨rfl, rfl, rfl, rfl, rfl, trivial⟩, H⟩
  ·replace h := Z8 hc1 h
   refine .exit ?_
   replace h := sj h; subst h
   exact ⟨nofun, ⟨w3, rfl, ⟨rfl, rfl, trivial⟩, H⟩⟩
 ·rintro x e σ ⟨w10, rfl, he, H⟩
  obtain ⟨e, rfl⟩ := he.ex
  refine .then (.Z0 2 rfl H fun b10 σ H => (.ZI (off := 0) (cs := [(vi x1.Period), (vi x1.Count), (vl (cL Span.cs) x1.Core), (vl Granule.cs x1.Odd), w10]) H 1 rfl rfl rfl rfl rfl rfl rfl nofun rfl (.ZV (off := 0) (cells' := [(vi x1.Period), (vi x1.Count), (vl (cL Span.cs) x1.Core), (vl Granule.cs x1.Odd), w10]) H 2 rfl rfl rfl rfl rfl rfl rfl rfl rfl nofun fun σ H => (.nila H fun H => (.ret ?_)))))
  replace h := sj h; subst h
  exact (Ends.H (xs := [(.agg [(vi x1.Period), (vi x1.Count), (vl (cL Span.cs) x1.Core), (vl Granule.cs x1.Odd), w10])]) (.inr rfl) H (.agg (cs := [(vi x1.Period), (vi x1.Count), (vl (cL Span.cs) x1.Core), (vl Granule.cs x1.Odd), w10]) (off := 0) 2 rfl rfl rfl rfl rfl rfl rfl .nil) (.one (.a (.cons (.v _) (.cons (.v _) (.cons (.v _) (.cons (.v _) (.cons (.s 0 rfl) .nil))))))))

theorem Z6k {n : Int} {p1' : size_form} {p2' : Int} {p3' : Int} {id0' : Nat} {id1' : Nat} {id2' : Nat} {r : Bool} (h : Z1O n p1' p2' p3' = some r) : FnH CX 113 [(vi n), (.ptr id0' 5 0), (.ptr id1' 1 0), (.ptr id2' 1 0)] (vb r) [.blk id0' 96 (vG p1'), .blk id1' 3 [(vi p2')], .blk id2' 3 [(vi p3')]] := by
 refine FnH.of Try.func113 rfl rfl rfl rfl rfl rfl (fun h => by have := Z46 h 1 rfl; cases this) ?_
 intro σ L hC H
 have hC0 := hC
 obtain ⟨k0', hk0', hC⟩ := hC.inv
 obtain ⟨k1', hk1', hC⟩ := hC.inv
 obtain ⟨k2', hk2', hC⟩ := hC.inv
 unfold Z1O at h
 refine .then (.Z0 1 rfl H fun b1 σ H => (.assign (v := (vb false)) rfl rfl (.nila H fun H => (.then (.Z0w 16 rfl (by kernel_rfl) H fun b2 σ H B2 => ?_)))))
 refine .Z2 (off := 0) (fo := 4) H k0' hk0' rfl rfl rfl rfl (fun _ => .inl ⟨B2 (k0' + 0) _ hk0' _ rfl, nofun, (fun _ => by kernel_rfl)⟩) rfl (.ZC (off := 4) (v := (vl size_spot.cs p1'.spots)) H k0' hk0' rfl rfl rfl rfl (fun _ => .inl ⟨B2 (k0' + 0) _ hk0' _ rfl, nofun, (fun _ => by kernel_rfl)⟩) rfl (.move (v := (vi n)) rfl rfl ?_))
 obtain ⟨x1, q1, h⟩ := bind_some h
 refine .Zy (c := size_spot.cs) (u := x1) rfl rfl q1 rfl rfl rfl rfl (.Z08 rfl rfl rfl rfl (.Z08 rfl rfl rfl rfl (.Z1p (u := (.int .i64 x1.place.last)) rfl rfl rfl rfl (.ZC (off := 0) (v := (vi p2')) H k1' hk1' rfl rfl rfl rfl (fun _ => .inl ⟨B2 (k1' + 0) _ hk1' _ rfl, nofun, (fun _ => by kernel_rfl)⟩) rfl (.Z2 (off := 0) (fo := 0) H k0' hk0' rfl rfl rfl rfl (fun _ => .inl ⟨B2 (k0' + 0) _ hk0' _ rfl, nofun, (fun _ => by kernel_rfl)⟩) rfl ?_)))))
 refine .Z2 (off := 0) (fo := 0) H k0' hk0' rfl rfl rfl rfl (fun _ => .inl ⟨B2 (k0' + 0) _ hk0' _ rfl, nofun, (fun _ => by kernel_rfl)⟩) rfl (.ZC (off := 0) (v := (vi p1'.Form.Period)) H k0' hk0' rfl rfl rfl rfl (fun _ => .inl ⟨B2 (k0' + 0) _ hk0' _ rfl, nofun, (fun _ => by kernel_rfl)⟩) rfl (.int (m := p2') (m' := p1'.Form.Period) (r := .int .i64 (w64 (p2' * p1'.Form.Period))) rfl rfl rfl rfl rfl (.int (m := x1.place.last) (m' := (w64 (p2' * p1'.Form.Period))) (r := .int .i64 (w64 (x1.place.last - (w64 (p2' * p1'.Form.Period))))) rfl rfl rfl rfl rfl (.ZC (off := 0) (v := (vi p3')) H k2' hk2' rfl rfl rfl rfl (fun _ => .inl ⟨B2 (k2' + 0) _ hk2' _ rfl, nofun, (fun _ => by kernel_rfl)⟩) rfl (.int (m := (w64 (x1.place.last - (w64 (p2' * p1'.Form.Period))))) (m' := p3') (r := .bool (decide ((w64 (x1.place.last - (w64 (p2' * p1'.Form.Period)))) ≥ p3'))) rfl rfl rfl rfl rfl ?_)))))
 refine .assign (v := (vb (decide ((w64 (x1.place.last - (w64 (p2' * p1'.Form.Period)))) ≥ p3')))) rfl rfl (.nila H fun H => (.ret ?_))
 replace h := sj h; subst h
 exact (EndsH.H (xs := [(vb (decide ((w64 (x1.place.last - (w64 (p2' * p1'.Form.Period)))) ≥ p3')))]) (.inr rfl) H (.tmp (v := (vb (decide ((w64 (x1.place.last - (w64 (p2' * p1'.Form.Period)))) ≥ p3')))) rfl .nil) (.one (.c (.v _))) 0 rfl)

theorem Z6l {n : Int} {p1' : size_form} {p2' : Int} {p3' : Int} {id0' : Nat} {id1' : Nat} {id2' : Nat} {r : Bool} (h : Z1P n p1' p2' p3' = some r) : FnH CX 114 [(vi n), (.ptr id0' 5 0), (.ptr id1' 1 0), (.ptr id2' 1 0)] (vb r) [.blk id0' 96 (vG p1'), .blk id1' 3 [(vi p2')], .blk id2' 3 [(vi p3')]] := by
 refine FnH.of Try.func114 rfl rfl rfl rfl rfl rfl (fun h => by have := Z46 h 1 rfl; cases this) ?_
 intro σ L hC H
 have hC0 := hC
 obtain ⟨k0', hk0', hC⟩ := hC.inv
 obtain ⟨k1', hk1', hC⟩ := hC.inv
 obtain ⟨k2', hk2', hC⟩ := hC.inv
 unfold Z1P at h
 refine .then (.Z0 1 rfl H fun b1 σ H => (.assign (v := (vb false)) rfl rfl (.nila H fun H => (.then (.Z0w 16 rfl (by kernel_rfl) H fun b2 σ H B2 => ?_)))))
 refine .Z2 (off := 0) (fo := 4) H k0' hk0' rfl rfl rfl rfl (fun _ => .inl ⟨B2 (k0' + 0) _ hk0' _ rfl, nofun, (fun _ => by kernel_rfl)⟩) rfl (.ZC (off := 4) (v := (vl size_spot.cs p1'.spots)) H k0' hk0' rfl rfl rfl rfl (fun _ => .inl ⟨B2 (k0' + 0) _ hk0' _ rfl, nofun, (fun _ => by kernel_rfl)⟩) rfl (.move (v := (vi n)) rfl rfl ?_))
 obtain ⟨x1, q1, h⟩ := bind_some h
 refine .Zy (c := size_spot.cs) (u := x1) rfl rfl q1 rfl rfl rfl rfl (.Z08 rfl rfl rfl rfl (.Z08 rfl rfl rfl rfl (.Z1p (u := (.int .i64 x1.place.first)) rfl rfl rfl rfl (.ZC (off := 0) (v := (vi p2')) H k1' hk1' rfl rfl rfl rfl (fun _ => .inl ⟨B2 (k1' + 0) _ hk1' _ rfl, nofun, (fun _ => by kernel_rfl)⟩) rfl (.Z2 (off := 0) (fo := 0) H k0' hk0' rfl rfl rfl rfl (fun _ => .inl ⟨B2 (k0' + 0) _ hk0' _ rfl, nofun, (fun _ => by kernel_rfl)⟩) rfl ?_)))))
 refine .Z2 (off := 0) (fo := 0) H k0' hk0' rfl rfl rfl rfl (fun _ => .inl ⟨B2 (k0' + 0) _ hk0' _ rfl, nofun, (fun _ => by kernel_rfl)⟩) rfl (.ZC (off := 0) (v := (vi p1'.Form.Period)) H k0' hk0' rfl rfl rfl rfl (fun _ => .inl ⟨B2 (k0' + 0) _ hk0' _ rfl, nofun, (fun _ => by kernel_rfl)⟩) rfl (.int (m := p2') (m' := p1'.Form.Period) (r := .int .i64 (w64 (p2' * p1'.Form.Period))) rfl rfl rfl rfl rfl (.int (m := x1.place.first) (m' := (w64 (p2' * p1'.Form.Period))) (r := .int .i64 (w64 (x1.place.first + (w64 (p2' * p1'.Form.Period))))) rfl rfl rfl rfl rfl (.ZC (off := 0) (v := (vi p3')) H k2' hk2' rfl rfl rfl rfl (fun _ => .inl ⟨B2 (k2' + 0) _ hk2' _ rfl, nofun, (fun _ => by kernel_rfl)⟩) rfl (.int (m := (w64 (x1.place.first + (w64 (p2' * p1'.Form.Period))))) (m' := p3') (r := .bool (decide ((w64 (x1.place.first + (w64 (p2' * p1'.Form.Period)))) > p3'))) rfl rfl rfl rfl rfl ?_)))))
 refine .assign (v := (vb (decide ((w64 (x1.place.first + (w64 (p2' * p1'.Form.Period)))) > p3')))) rfl rfl (.nila H fun H => (.ret ?_))
 replace h := sj h; subst h
 exact (EndsH.H (xs := [(vb (decide ((w64 (x1.place.first + (w64 (p2' * p1'.Form.Period)))) > p3')))]) (.inr rfl) H (.tmp (v := (vb (decide ((w64 (x1.place.first + (w64 (p2' * p1'.Form.Period)))) > p3')))) rfl .nil) (.one (.c (.v _))) 0 rfl)

theorem Z4p {f : size_form} {t : Int} {up : Bool} {r : Int} (h : Z0C f t up = some r) : Fn CX 89 [(.agg (vs (size_form.cs f))), (vi t), (vb up)] (vi r) := by
 refine Fn.ends Try.func89 rfl rfl rfl rfl rfl rfl ?_
 have H : Hs (⟨0, fun _ => .none⟩ : Heap) [] := Has.nil (Nat.le_refl _)
 generalize (⟨0, fun _ => .none⟩ : Heap) = σ at H ⊢
 unfold Z0C at h
 refine .then (.Z0 3 rfl H fun b1 σ H => (.boxH (cs := (vG f)) H (by omega) (by omega) rfl rfl rfl fun σ H => (.boxH (cs := [(vi t)]) H (by omega) (by omega) rfl rfl rfl fun σ H => (.assign (v := (vi 0)) rfl rfl (.nila H fun H => ?_)))))
 refine .then (.then (.Z0 1 rfl H fun b2 σ H => (.move (v := (vb up)) rfl rfl (.nila H fun H => ?_))))
 refine .whether (v := up) rfl ?_ ?_ <;> intro hc1
 ·replace h := Z7 hc1 h
  refine .then (.Z0w 24 rfl (by kernel_rfl) H fun b3 σ H B3 => (.Z2 (off := 0) (fo := 4) H 1 rfl rfl rfl rfl rfl (fun _ => .inl ⟨B3 1 _ rfl _ rfl, nofun, (fun _ => by kernel_rfl)⟩) rfl (.ZC (off := 4) (v := (vl size_spot.cs f.spots)) H 1 rfl rfl rfl rfl rfl (fun _ => .inl ⟨B3 1 _ rfl _ rfl, nofun, (fun _ => by kernel_rfl)⟩) rfl (.Z2 (off := 0) (fo := 4) H 1 rfl rfl rfl rfl rfl (fun _ => .inl ⟨B3 1 _ rfl _ rfl, nofun, (fun _ => by kernel_rfl)⟩) rfl (.ZC (off := 4) (v := (vl size_spot.cs f.spots)) H 1 rfl rfl rfl rfl rfl (fun _ => .inl ⟨B3 1 _ rfl _ rfl, nofun, (fun _ => by kernel_rfl)⟩) rfl ?_)))))
  refine .Z0K (c := size_spot.cs) (xs := f.spots) rfl rfl rfl (.int (m := (f.spots.length : Int)) (m' := 1) (r := .int .i64 (w64 ((f.spots.length : Int) - 1))) rfl rfl rfl rfl rfl ?_)
  obtain ⟨x1, q1, h⟩ := bind_some h
  refine .Zy (c := size_spot.cs) (u := x1) rfl rfl q1 rfl rfl rfl rfl (.Z08 rfl rfl rfl rfl (.Z08 rfl rfl rfl rfl (.Z1p (u := (.int .i64 x1.place.last)) rfl rfl rfl rfl (.ZC (off := 0) (v := (vi t)) H 0 rfl rfl rfl rfl rfl (fun _ => .inl ⟨B3 0 _ rfl _ rfl, nofun, (fun _ => by kernel_rfl)⟩) rfl (.int (m := x1.place.last) (m' := t) (r := .int .i64 (w64 (x1.place.last - t))) rfl rfl rfl rfl rfl ?_)))))
  refine .Z2 (off := 0) (fo := 0) H 1 rfl rfl rfl rfl rfl (fun _ => .inl ⟨B3 1 _ rfl _ rfl, nofun, (fun _ => by kernel_rfl)⟩) rfl (.Z2 (off := 0) (fo := 0) H 1 rfl rfl rfl rfl rfl (fun _ => .inl ⟨B3 1 _ rfl _ rfl, nofun, (fun _ => by kernel_rfl)⟩) rfl (.ZC (off := 0) (v := (vi f.Form.Period)) H 1 rfl rfl rfl rfl rfl (fun _ => .inl ⟨B3 1 _ rfl _ rfl, nofun, (fun _ => by kernel_rfl)⟩) rfl ?_))
  obtain ⟨x2, q2, h⟩ := bind_some h
  refine .call (ys := [(vi (w64 (x1.place.last - t))), (vi f.Form.Period)]) (r := (.tup [(vi x2.1), (vi x2.2.1), (vi x2.2.2)])) rfl (Z2F q2) rfl (.move (v := (.tup [(vi x2.1), (vi x2.2.1), (vi x2.2.2)])) rfl rfl (.extract (v := (vi x2.1)) rfl rfl rfl (.extract (v := (vi x2.2.1)) rfl rfl rfl (.extract (v := (vi x2.2.2)) rfl rfl rfl (.Zk (cs := [(vi 0)]) H (by omega) (by omega) rfl rfl fun σ H => ?_)))))
  refine .ZV (off := 0) (cells' := [(vi x2.1)]) H 0 rfl rfl rfl rfl rfl rfl rfl rfl rfl (fun _ => .inr ⟨20, rfl, by kernel_rfl, by decide⟩) fun σ H => (.assign (v := (vi x2.2.1)) rfl rfl (.assign (v := (vi x2.2.2)) rfl rfl (.nila H fun H => (.then (.Z0 6 rfl H fun b4 σ H => ?_)))))
  refine .Z2 (off := 0) (fo := 4) H 2 rfl rfl rfl rfl rfl nofun rfl (.ZC (off := 4) (v := (vl size_spot.cs f.spots)) H 2 rfl rfl rfl rfl rfl nofun rfl (.Z0K (c := size_spot.cs) (xs := f.spots) rfl rfl rfl (.Z7d (fs := []) (cs := [(.ptr (b1 + 0) 5 0), (.ptr (b3 + 20) 1 0), (.ptr (b1 + 1) 1 0)]) rfl rfl rfl rfl ?_)))
  obtain ⟨x3, q3, h⟩ := bind_some h
  refine .Z6u (ys := [(vi (f.spots.length : Int)), (.clo 113 [] [(.ptr (b1 + 0) 5 0), (.ptr (b3 + 20) 1 0), (.ptr (b1 + 1) 1 0)])]) (r := (vi x3)) H rfl (Z4Y (C := [.blk (b1 + 0) 96 (vG f), .blk (b3 + 20) 3 [(vi x2.1)], .blk (b1 + 1) 3 [(vi t)]]) rfl (fun h => by simp [PV.pure] at h) (fun z0 y hz => (CloH.clo (Z6k hz))) q3) (.cons 2 rfl (.cons 0 rfl (.cons 1 rfl .nil))) nofun rfl fun σ H => (.assign (v := (vi x3)) rfl rfl (.nila H fun H => (.then (.Z0w 13 rfl (by kernel_rfl) H fun b5 σ H B5 => (.Z2 (off := 0) (fo := 4) H 2 rfl rfl rfl rfl rfl (fun _ => .inl ⟨B5 2 _ rfl _ rfl, nofun, (fun _ => by kernel_rfl)⟩) rfl ?_)))))
  refine .ZC (off := 4) (v := (vl size_spot.cs f.spots)) H 2 rfl rfl rfl rfl rfl (fun _ => .inl ⟨B5 2 _ rfl _ rfl, nofun, (fun _ => by kernel_rfl)⟩) rfl (.move (v := (vi x3)) rfl rfl ?_)
  obtain ⟨x4, q4, h⟩ := bind_some h
  refine .Zy (c := size_spot.cs) (u := x4) rfl rfl q4 rfl rfl rfl rfl (.Z08 rfl rfl rfl rfl (.Z1p (u := (.int .i64 x4.index)) rfl rfl rfl rfl (.ZC (off := 0) (v := (vi x2.1)) H 0 rfl rfl rfl rfl rfl (fun _ => .inl ⟨B5 0 _ rfl _ rfl, nofun, (fun _ => by kernel_rfl)⟩) rfl (.Z2 (off := 0) (fo := 0) H 2 rfl rfl rfl rfl rfl (fun _ => .inl ⟨B5 2 _ rfl _ rfl, nofun, (fun _ => by kernel_rfl)⟩) rfl (.Z2 (off := 0) (fo := 1) H 2 rfl rfl rfl rfl rfl (fun _ => .inl ⟨B5 2 _ rfl _ rfl, nofun, (fun _ => by kernel_rfl)⟩) rfl ?_)))))
  refine .ZC (off := 1) (v := (vi f.Form.Count)) H 2 rfl rfl rfl rfl rfl (fun _ => .inl ⟨B5 2 _ rfl _ rfl, nofun, (fun _ => by kernel_rfl)⟩) rfl (.int (m := x2.1) (m' := f.Form.Count) (r := .int .i64 (w64 (x2.1 * f.Form.Count))) rfl rfl rfl rfl rfl (.int (m := x4.index) (m' := (w64 (x2.1 * f.Form.Count))) (r := .int .i64 (w64 (x4.index - (w64 (x2.1 * f.Form.Count))))) rfl rfl rfl rfl rfl (.assign (v := (vi (w64 (x4.index - (w64 (x2.1 * f.Form.Count)))))) rfl rfl (.nila H fun H => (.ret ?_)))))
  replace h := sj h; subst h
  exact (Ends.H (xs := [(vi (w64 (x4.index - (w64 (x2.1 * f.Form.Count)))))]) (.inr rfl) H (.tmp (v := (vi (w64 (x4.index - (w64 (x2.1 * f.Form.Count)))))) rfl .nil) (.one (.c (.v _))))
 ·replace h := Z8 hc1 h
  refine .skip (.then (.Z0w 20 rfl (by kernel_rfl) H fun b6 σ H B6 => (.ZC (off := 0) (v := (vi t)) H 0 rfl rfl rfl rfl rfl (fun _ => .inl ⟨B6 0 _ rfl _ rfl, nofun, (fun _ => by kernel_rfl)⟩) rfl (.Z2 (off := 0) (fo := 4) H 1 rfl rfl rfl rfl rfl (fun _ => .inl ⟨B6 1 _ rfl _ rfl, nofun, (fun _ => by kernel_rfl)⟩) rfl (.ZC (off := 4) (v := (vl size_spot.cs f.spots)) H 1 rfl rfl rfl rfl rfl (fun _ => .inl ⟨B6 1 _ rfl _ rfl, nofun, (fun _ => by kernel_rfl)⟩) rfl ?_)))))
  obtain ⟨x5, q5, h⟩ := bind_some h
  refine .Zy (c := size_spot.cs) (u := x5) rfl rfl q5 rfl rfl rfl rfl (.Z08 rfl rfl rfl rfl (.Z08 rfl rfl rfl rfl (.Z1p (u := (.int .i64 x5.place.first)) rfl rfl rfl rfl (.int (m := t) (m' := x5.place.first) (r := .int .i64 (w64 (t - x5.place.first))) rfl rfl rfl rfl rfl (.Z2 (off := 0) (fo := 0) H 1 rfl rfl rfl rfl rfl (fun _ => .inl ⟨B6 1 _ rfl _ rfl, nofun, (fun _ => by kernel_rfl)⟩) rfl ?_)))))
  refine .Z2 (off := 0) (fo := 0) H 1 rfl rfl rfl rfl rfl (fun _ => .inl ⟨B6 1 _ rfl _ rfl, nofun, (fun _ => by kernel_rfl)⟩) rfl (.ZC (off := 0) (v := (vi f.Form.Period)) H 1 rfl rfl rfl rfl rfl (fun _ => .inl ⟨B6 1 _ rfl _ rfl, nofun, (fun _ => by kernel_rfl)⟩) rfl ?_)
  obtain ⟨x6, q6, h⟩ := bind_some h
  refine .call (ys := [(vi (w64 (t - x5.place.first))), (vi f.Form.Period)]) (r := (.tup [(vi x6.1), (vi x6.2.1), (vi x6.2.2)])) rfl (Z2F q6) rfl (.move (v := (.tup [(vi x6.1), (vi x6.2.1), (vi x6.2.2)])) rfl rfl (.extract (v := (vi x6.1)) rfl rfl rfl (.extract (v := (vi x6.2.1)) rfl rfl rfl (.extract (v := (vi x6.2.2)) rfl rfl rfl (.Zk (cs := [(vi 0)]) H (by omega) (by omega) rfl rfl fun σ H => ?_)))))
  refine .ZV (off := 0) (cells' := [(vi x6.1)]) H 0 rfl rfl rfl rfl rfl rfl rfl rfl rfl (fun _ => .inr ⟨16, rfl, by kernel_rfl, by decide⟩) fun σ H => (.assign (v := (vi x6.2.1)) rfl rfl (.assign (v := (vi x6.2.2)) rfl rfl (.nila H fun H => (.then (.Z0 6 rfl H fun b7 σ H => ?_)))))
  refine .Z2 (off := 0) (fo := 4) H 2 rfl rfl rfl rfl rfl nofun rfl (.ZC (off := 4) (v := (vl size_spot.cs f.spots)) H 2 rfl rfl rfl rfl rfl nofun rfl (.Z0K (c := size_spot.cs) (xs := f.spots) rfl rfl rfl (.Z7d (fs := []) (cs := [(.ptr (b1 + 0) 5 0), (.ptr (b6 + 16) 1 0), (.ptr (b1 + 1) 1 0)]) rfl rfl rfl rfl ?_)))
  obtain ⟨x7, q7, h⟩ := bind_some h
  refine .Z6u (ys := [(vi (f.spots.length : Int)), (.clo 114 [] [(.ptr (b1 + 0) 5 0), (.ptr (b6 + 16) 1 0), (.ptr (b1 + 1) 1 0)])]) (r := (vi x7)) H rfl (Z4Y (C := [.blk (b1 + 0) 96 (vG f), .blk (b6 + 16) 3 [(vi x6.1)], .blk (b1 + 1) 3 [(vi t)]]) rfl (fun h => by simp [PV.pure] at h) (fun z0 y hz => (CloH.clo (Z6l hz))) q7) (.cons 2 rfl (.cons 0 rfl (.cons 1 rfl .nil))) nofun rfl fun σ H => (.assign (v := (vi x7)) rfl rfl (.nila H fun H => (.then (.Z0w 14 rfl (by kernel_rfl) H fun b8 σ H B8 => (.Z2 (off := 0) (fo := 4) H 2 rfl rfl rfl rfl rfl (fun _ => .inl ⟨B8 2 _ rfl _ rfl, nofun, (fun _ => by kernel_rfl)⟩) rfl ?_)))))
  refine .ZC (off := 4) (v := (vl size_spot.cs f.spots)) H 2 rfl rfl rfl rfl rfl (fun _ => .inl ⟨B8 2 _ rfl _ rfl, nofun, (fun _ => by kernel_rfl)⟩) rfl (.move (v := (vi x7)) rfl rfl (.int (m := x7) (m' := 1) (r := .int .i64 (w64 (x7 - 1))) rfl rfl rfl rfl rfl ?_))
  obtain ⟨x8, q8, h⟩ := bind_some h
  refine .Zy (c := size_spot.cs) (u := x8) rfl rfl q8 rfl rfl rfl rfl (.Z08 rfl rfl rfl rfl (.Z1p (u := (.int .i64 x8.index)) rfl rfl rfl rfl (.ZC (off := 0) (v := (vi x6.1)) H 0 rfl rfl rfl rfl rfl (fun _ => .inl ⟨B8 0 _ rfl _ rfl, nofun, (fun _ => by kernel_rfl)⟩) rfl (.Z2 (off := 0) (fo := 0) H 2 rfl rfl rfl rfl rfl (fun _ => .inl ⟨B8 2 _ rfl _ rfl, nofun, (fun _ => by kernel_rfl)⟩) rfl (.Z2 (off := 0) (fo := 1) H 2 rfl rfl rfl rfl rfl (fun _ => .inl ⟨B8 2 _ rfl _ rfl, nofun, (fun _ => by kernel_rfl)⟩) rfl ?_)))))
  refine .ZC (off := 1) (v := (vi f.Form.Count)) H 2 rfl rfl rfl rfl rfl (fun _ => .inl ⟨B8 2 _ rfl _ rfl, nofun, (fun _ => by kernel_rfl)⟩) rfl (.int (m := x6.1) (m' := f.Form.Count) (r := .int .i64 (w64 (x6.1 * f.Form.Count))) rfl rfl rfl rfl rfl (.int (m := x8.index) (m' := (w64 (x6.1 * f.Form.Count))) (r := .int .i64 (w64 (x8.index + (w64 (x6.1 * f.Form.Count))))) rfl rfl rfl rfl rfl (.assign (v := (vi (w64 (x8.index + (w64 (x6.1 * f.Form.Count)))))) rfl rfl (.nila H fun H => (.ret ?_)))))
  replace h := sj h; subst h
  exact (Ends.H (xs := [(vi (w64 (x8.index + (w64 (x6.1 * f.Form.Count)))))]) (.inr rfl) H (.tmp (v := (vi (w64 (x8.index + (w64 (x6.1 * f.Form.Count)))))) rfl .nil) (.one (.c (.v _))))

theorem Z76 {g : Granule} {i : Int} {r : Int} (h : Z2C g i = r) : Fn CX 130 [(.agg (vs (Granule.cs g))), (vi i)] (vi r) := by
 refine Fn.ends Try.func130 rfl rfl rfl rfl rfl rfl ?_
 have H : Hs (⟨0, fun _ => .none⟩ : Heap) [] := Has.nil (Nat.le_refl _)
 generalize (⟨0, fun _ => .none⟩ : Heap) = σ at H ⊢
 unfold Z2C at h
 refine .then (.Z0 2 rfl H fun b1 σ H => (.boxH (cs := [(vi g.Index), (vl Span.cs g.Ticks)]) H (by omega) (by omega) rfl rfl rfl fun σ H => (.assign (v := (vi 0)) rfl rfl (.nila H fun H => (.then ?_)))))
 refine .Z0 5 rfl H fun b2 σ H => (.Z2 (off := 0) (fo := 0) H 0 rfl rfl rfl rfl rfl nofun rfl (.ZC (off := 0) (v := (vi g.Index)) H 0 rfl rfl rfl rfl rfl nofun rfl (.move (v := (vi i)) rfl rfl (.call (ys := [(vi g.Index), (vi i)]) (r := (vi (Zx g.Index i))) rfl (Z4P rfl) rfl (.assign (v := (vi (Zx g.Index i))) rfl rfl ?_)))))
 refine .nila H fun H => (.ret ?_)
 subst h
 exact (Ends.H (xs := [(vi (Zx g.Index i))]) (.inr rfl) H (.tmp (v := (vi (Zx g.Index i))) rfl .nil) (.one (.c (.v _))))

theorem Z8S {f : size_form} {i : Int} {r : Int} (h : Z1n f i = some r) : Fn CX 112 [(.agg (vs (size_form.cs f))), (vi i)] (vi r) := by
 refine Fn.ends Try.func112 rfl rfl rfl rfl rfl rfl ?_
 have H : Hs (⟨0, fun _ => .none⟩ : Heap) [] := Has.nil (Nat.le_refl _)
 generalize (⟨0, fun _ => .none⟩ : Heap) = σ at H ⊢
 unfold Z1n at h
 refine .then (.Z0 2 rfl H fun b1 σ H => (.boxH (cs := (vG f)) H (by omega) (by omega) rfl rfl rfl fun σ H => (.assign (v := (vi 0)) rfl rfl (.nila H fun H => (.then ?_)))))
 refine .Z0 10 rfl H fun b2 σ H => (.Z2 (off := 0) (fo := 0) H 0 rfl rfl rfl rfl rfl nofun rfl (.Z2 (off := 0) (fo := 3) H 0 rfl rfl rfl rfl rfl nofun rfl (.ZC (off := 3) (v := (vl Granule.cs f.Form.Odd)) H 0 rfl rfl rfl rfl rfl nofun rfl (.move (v := (vi i)) rfl rfl ?_))))
 obtain ⟨x1, q1, h⟩ := bind_some h
 refine .Z6u (ys := [(vl Granule.cs f.Form.Odd), (vi i), (.v (.fn 130))]) (r := (.tup [(vi x1.1), (vb x1.2)])) H rfl (Z0e (C := []) rfl (fun _ => rfl) (fun z0 z1 y hz => (CloH.fn (Fn.toH (Z76 (Option.some.inj hz)) _))) q1) .nil nofun rfl fun σ H => (.move (v := (.tup [(vi x1.1), (vb x1.2)])) rfl rfl (.extract (v := (vi x1.1)) rfl rfl rfl (.extract (v := (vb x1.2)) rfl rfl rfl (.assign (v := (vi x1.1)) rfl rfl (.assign (v := (vb x1.2)) rfl rfl ?_)))))
 refine .nila H fun H => (.then (.then (.Z0 2 rfl H fun b3 σ H => (.move (v := (vb x1.2)) rfl rfl (.not (b := x1.2) rfl rfl ?_)))))
 refine .nila H fun H => ?_
 refine .whether (v := (!x1.2)) rfl ?_ ?_ <;> intro hc1
 ·replace h := Z7 hc1 h
  refine .then (.Z0 1 rfl H fun b4 σ H => (.assign (v := (vi (-1))) rfl rfl (.nila H fun H => (.ret ?_))))
  replace h := sj h; subst h
  exact (Ends.H (xs := [(vi (-1))]) (.inr rfl) H (.tmp (v := (vi (-1))) rfl .nil) (.one (.c (.v _))))
 ·replace h := Z8 hc1 h
  refine .skip (.then (.Z0 2 rfl H fun b5 σ H => (.move (v := (vi x1.1)) rfl rfl (.assign (v := (vi x1.1)) rfl rfl (.nila H fun H => ?_)))))
  refine .ret ?_
  replace h := sj h; subst h
  exact (Ends.H (xs := [(vi x1.1)]) (.inr rfl) H (.tmp (v := (vi x1.1)) rfl .nil) (.one (.c (.v _))))

theorem Z8V {f : size_form} {i : Int} {r : Bool} (h : Z2E f i = some r) : Fn CX 115 [(.agg (vs (size_form.cs f))), (vi i)] (vb r) := by
 refine Fn.ends Try.func115 rfl rfl rfl rfl rfl rfl ?_
 have H : Hs (⟨0, fun _ => .none⟩ : Heap) [] := Has.nil (Nat.le_refl _)
 generalize (⟨0, fun _ => .none⟩ : Heap) = σ at H ⊢
 unfold Z2E at h
 refine .then (.Z0 2 rfl H fun b1 σ H => (.boxH (cs := (vG f)) H (by omega) (by omega) rfl rfl rfl fun σ H => (.assign (v := (vb false)) rfl rfl (.nila H fun H => (.then ?_)))))
 refine .Z0 12 rfl H fun b2 σ H => (.move (v := (vi i)) rfl rfl (.Z2 (off := 0) (fo := 0) H 0 rfl rfl rfl rfl rfl nofun rfl (.Z2 (off := 0) (fo := 1) H 0 rfl rfl rfl rfl rfl nofun rfl (.ZC (off := 1) (v := (vi f.Form.Count)) H 0 rfl rfl rfl rfl rfl nofun rfl ?_))))
 obtain ⟨x1, q1, h⟩ := bind_some h
 refine .call (ys := [(vi i), (vi f.Form.Count)]) (r := (.tup [(vi x1.1), (vi x1.2.1), (vi x1.2.2)])) rfl (Z2F q1) rfl (.move (v := (.tup [(vi x1.1), (vi x1.2.1), (vi x1.2.2)])) rfl rfl (.extract (v := (vi x1.1)) rfl rfl rfl (.extract (v := (vi x1.2.1)) rfl rfl rfl (.extract (v := (vi x1.2.2)) rfl rfl rfl (.assign (v := (vi x1.1)) rfl rfl ?_)))))
 refine .assign (v := (vi x1.2.1)) rfl rfl (.assign (v := (vi x1.2.2)) rfl rfl (.nila H fun H => (.then (.Z0 9 rfl H fun b3 σ H => (.Z2 (off := 0) (fo := 0) H 0 rfl rfl rfl rfl rfl nofun rfl ?_)))))
 refine .Z2 (off := 0) (fo := 2) H 0 rfl rfl rfl rfl rfl nofun rfl (.ZC (off := 2) (v := (vl (cL Span.cs) f.Form.Core)) H 0 rfl rfl rfl rfl rfl nofun rfl (.move (v := (vi x1.2.1)) rfl rfl ?_))
 obtain ⟨x2, q2, h⟩ := bind_some h
 refine .Zy (c := (cL Span.cs)) (u := x2) rfl rfl q2 rfl rfl rfl rfl (.Z1p (u := (.sl (x2.map Span.cs))) rfl rfl rfl rfl (.Z0K (c := Span.cs) (xs := x2) rfl rfl rfl (.int (m := (x2.length : Int)) (m' := 0) (r := .bool (decide ((x2.length : Int) > 0))) rfl rfl rfl rfl rfl (.assign (v := (vb (decide ((x2.length : Int) > 0)))) rfl rfl (.nila H fun H => ?_)))))
 refine .ret ?_
 replace h := sj h; subst h
 exact (Ends.H (xs := [(vb (decide ((x2.length : Int) > 0)))]) (.inr rfl) H (.tmp (v := (vb (decide ((x2.length : Int) > 0)))) rfl .nil) (.one (.c (.v _))))

theorem Z4Q {f : size_form} {t : Int} {up : Bool} {r : Int × Bool} (h : Z9 f t up = some r) : Fn CX 90 [(.agg (vs (size_form.cs f))), (vi t), (vb up)] (.tup [(vi r.1), (vb r.2)]) := by
 refine Fn.ends Try.func90 rfl rfl rfl rfl rfl rfl ?_
 have H : Hs (⟨0, fun _ => .none⟩ : Heap) [] := Has.nil (Nat.le_refl _)
 generalize (⟨0, fun _ => .none⟩ : Heap) = σ at H ⊢
 unfold Z9 at h
 refine .then (.Z0 3 rfl H fun b1 σ H => (.boxH (cs := (vG f)) H (by omega) (by omega) rfl rfl rfl fun σ H => (.assign (v := (vi 0)) rfl rfl (.assign (v := (vb false)) rfl rfl (.nila H fun H => ?_)))))
 refine .then (.Z0 1 rfl H fun b2 σ H => (.Zk (cs := [(vi 0), (vb false)]) H (by omega) (by omega) rfl rfl fun σ H => (.nila H fun H => (.then (.Z0 1 rfl H fun b3 σ H => ?_)))))
 refine .assign (v := (vi (-1))) rfl rfl (.nila H fun H => (.then ?_))
 obtain ⟨y1, hj1, h⟩ := bind_some h
 refine .mono (Q := fun x e σ => x = .normal ∧ Z4 e [(1, (vi t)), (2, (vb up)), (3, (.ptr (b1 + 0) 5 0)), (8, (.ptr (b2 + 0) 2 0)), (9, (vi y1))] ∧ Hs σ [.blk (b2 + 0) 119 [(vi 0), (vb false)], .blk (b1 + 0) 96 (vG f)]) ?_ ?_
 ·replace h := hj1
  refine .then (.Z0 1 rfl H fun b4 σ H => (.move (v := (vb up)) rfl rfl (.nila H fun H => ?_)))
  refine .whether (v := up) rfl ?_ ?_ <;> intro hc1
  ·replace h := Z7 hc1 h
   refine .Z0 1 rfl H fun b5 σ H => (.assign (v := (vi 1)) rfl rfl (.nila H fun H => ?_))
   replace h := sj h; subst h
   exact ⟨rfl, ⟨rfl, rfl, rfl, rfl, rfl, trivial⟩, H⟩
  ·replace h := Z8 hc1 h
   refine .skip ?_
   replace h := sj h; subst h
   exact ⟨rfl, ⟨rfl, rfl, rfl, rfl, rfl, trivial⟩, H⟩
 ·rintro x e σ ⟨rfl, he, H⟩
  obtain ⟨e, rfl⟩ := he.ex
  refine .then ?_
  obtain ⟨y2, hj2, h⟩ := bind_some h
  refine .mono (Q := fun x e σ => x = .normal ∧ Z4 e [(1, (vi t)), (2, (vb up)), (3, (.ptr (b1 + 0) 5 0)), (8, (.ptr (b2 + 0) 2 0)), (9, (vi y1))] ∧ Hs σ [.blk (b2 + 0) 119 [(vi y2.1), (vb y2.2)], .blk (b1 + 0) 96 (vG f)]) ?_ ?_
  ·replace h := hj2
   refine .then (.Z0 4 rfl H fun b6 σ H => (.Z2 (off := 0) (fo := 0) H 1 rfl rfl rfl rfl rfl nofun rfl (.Z2 (off := 0) (fo := 1) H 1 rfl rfl rfl rfl rfl nofun rfl (.ZC (off := 1) (v := (vi f.Form.Count)) H 1 rfl rfl rfl rfl rfl nofun rfl (.int (m := f.Form.Count) (m' := 0) (r := .bool (decide (f.Form.Count > 0))) rfl rfl rfl rfl rfl ?_)))))
   refine .nila H fun H => ?_
   refine .whether (v := (decide (f.Form.Count > 0))) rfl ?_ ?_ <;> intro hc2
   ·replace h := Z7 hc2 h
    refine .then (.Z0 5 rfl H fun b7 σ H => (.ZI (off := 0) (cs := (vG f)) H 1 rfl rfl rfl rfl rfl rfl rfl nofun rfl (.move (v := (vi t)) rfl rfl (.move (v := (vb up)) rfl rfl ?_))))
    obtain ⟨x1, q1, h⟩ := bind_some h
    refine .call (ys := [(.agg (vG f)), (vi t), (vb up)]) (r := (vi x1)) rfl (Z4p q1) rfl (.assign (v := (vi x1)) rfl rfl (.nila H fun H => (.then (.inBlock ?_))))
    obtain ⟨y3, hj3, h⟩ := bind_some h
    obtain ⟨n1, hj3⟩ := Zb.1 hj3
    refine .mono (Runs.ZO hj3 (fun s1 e σ => Z4 e [(1, (vi t)), (2, (vb up)), (3, (.ptr (b1 + 0) 5 0)), (8, (.ptr (b2 + 0) 2 0)), (9, (vi y1)), (10, (vi s1))] ∧ Hs σ [.blk (b2 + 0) 119 [(vi 0), (vb false)], .blk (b1 + 0) 96 (vG f)]) (fun y3 x e σ => x = .exit 0 ∧ Z4 e [(1, (vi t)), (2, (vb up)), (3, (.ptr (b1 + 0) 5 0)), (8, (.ptr (b2 + 0) 2 0)), (9, (vi y1)), (10, (vi y3))] ∧ Hs σ [.blk (b2 + 0) 119 [(vi 0), (vb false)], .blk (b1 + 0) 96 (vG f)]) ⟨⟨rfl, rfl, rfl, rfl, rfl, rfl, trivial⟩, H⟩ ?_) ?_
    ·intro s1 e σ hI z h
     obtain ⟨he, H⟩ := hI
     obtain ⟨e, rfl⟩ := he.ex
     unfold Z9.s0 at h
     refine .then (.then (.Z0 10 rfl H fun b8 σ H => (.ZI (off := 0) (cs := (vG f)) H 1 rfl rfl rfl rfl rfl rfl rfl nofun rfl (.move (v := (vi s1)) rfl rfl ?_))))
     obtain ⟨x2, q2, h⟩ := bind_some h
     refine .call (ys := [(.agg (vG f)), (vi s1)]) (r := (vi x2)) rfl (Z8S q2) rfl (.int (m := x2) (m' := 0) (r := .bool (decide (x2 ≥ 0))) rfl rfl rfl rfl rfl (.move (v := (vb (decide (x2 ≥ 0)))) rfl rfl ?_))
     obtain ⟨y4, hj4, h⟩ := bind_some h
     refine .mid 5 (K1 := fun e σ => Z4 e [(33, (vb y4)), (1, (vi t)), (2, (vb up)), (3, (.ptr (b1 + 0) 5 0)), (8, (.ptr (b2 + 0) 2 0)), (9, (vi y1)), (10, (vi s1))] ∧ Has σ (b8 + 10) (b8 + 10) [.blk (b2 + 0) 119 [(vi 0), (vb false)], .blk (b1 + 0) 96 (vG f)]) rfl ?_ ?_
     ·refine .split rfl rfl ?_ ?_ <;> intro hc3
      ·replace h := Z7 hc3 hj4
       refine .pass rfl rfl rfl (.pass rfl rfl rfl (.pass rfl rfl rfl (.pass rfl rfl rfl (.Zf (v := (vb true)) rfl rfl rfl (.nil ?_)))))
       replace h := sj h; subst h
       exact ⟨⟨rfl, rfl, rfl, rfl, rfl, rfl, rfl, trivial⟩, H.weak (by omega) (Nat.le_refl _)⟩
      ·replace h := Z8 hc3 hj4
       refine .wanted rfl rfl (.ZI (off := 0) (cs := (vG f)) H 1 rfl rfl rfl rfl rfl rfl rfl nofun rfl (.wanted rfl rfl (.move (v := (vi s1)) rfl rfl (.wanted rfl rfl ?_))))
       obtain ⟨x3, q3, h⟩ := bind_some h
       refine .call (ys := [(.agg (vG f)), (vi s1)]) (r := (vb x3)) rfl (Z8V q3) rfl (.wanted rfl rfl (.not (b := x3) rfl rfl (.Zh (v := (vb (!x3))) rfl rfl rfl (.nil ?_))))
       replace h := sj h; subst h
       exact ⟨⟨rfl, rfl, rfl, rfl, rfl, rfl, rfl, trivial⟩, H.weak (by omega) (Nat.le_refl _)⟩
     ·rintro e σ ⟨he, H⟩
      obtain ⟨e, rfl⟩ := he.ex
      refine .nila H fun H => ?_
      refine .whether (v := y4) rfl ?_ ?_ <;> intro hc4
      ·replace h := Z7 hc4 h
       refine .skip (.inBlock (.Z0 4 rfl H fun b9 σ H => (.move (v := (vi s1)) rfl rfl (.move (v := (vi y1)) rfl rfl (.int (m := s1) (m' := y1) (r := .int .i64 (w64 (s1 + y1))) rfl rfl rfl rfl rfl ?_)))))
       refine .assign (v := (vi (w64 (s1 + y1)))) rfl rfl (.nila H fun H => ?_)
       replace h := sj h; subst h
       exact ⟨rfl, ⟨rfl, rfl, rfl, rfl, rfl, rfl, trivial⟩, H⟩
      ·replace h := Z8 hc4 h
       refine .exit ?_
       replace h := sj h; subst h
       exact ⟨nofun, ⟨rfl, ⟨rfl, rfl, rfl, rfl, rfl, rfl, trivial⟩, H⟩⟩
    ·rintro x e σ ⟨rfl, he, H⟩
     obtain ⟨e, rfl⟩ := he.ex
     refine .Z0 6 rfl H fun b10 σ H => (.move (v := (vi y1)) rfl rfl (.neg (m := y1) rfl rfl (.move (v := (vi y3)) rfl rfl (.int (m := (w64 (0 - y1))) (m' := y3) (r := .int .i64 (w64 ((w64 (0 - y1)) * y3))) rfl rfl rfl rfl rfl (.Z3K (sz := 1) ([(w64 ((w64 (0 - y1)) * y3))].map (cI .i64)) H (by omega) (by omega) rfl rfl rfl rfl rfl rfl rfl rfl rfl fun σ H => ?_)))))
     obtain ⟨y5, hj5, h⟩ := bind_some h
     refine .callI (PostA := fun r A => r = (.tup []) ∧ A = [.sl (.buf (b10 + 4) 1 1) 3 1 (y5.1.map (cI .i64)) true, .blk (b2 + 0) 119 [(vi y5.2.1), (vb y5.2.2)], .blk (b1 + 0) 96 (vG f)]) (cv := (.v (.fn 86))) (ys := [(.ptr (b2 + 0) 2 0), (.buf (b10 + 4) 1 1)]) (L := []) [.sl (.buf (b10 + 4) 1 1) 3 1 ([(w64 ((w64 (0 - y1)) * y3))].map (cI .i64)) true, .blk (b2 + 0) 119 [(vi 0), (vb false)], .blk (b1 + 0) 96 (vG f)] H rfl rfl (fun T1 hT H => Z5y Try.func86 rfl (fun _ => rfl) rfl rfl rfl rfl ?_) nofun rfl ?_
     ·replace h := hj5
      refine .then (.Z0 3 rfl H fun b11 σ H => (.move (v := (.buf (b10 + 4) 1 1)) rfl rfl (.lenSt (c := (cI .i64)) (xs := [(w64 ((w64 (0 - y1)) * y3))]) H 0 rfl rfl rfl nofun rfl (.move (v := (vi 0)) rfl rfl (.nila H fun H => ?_)))))
      refine .inBlock ?_
      obtain ⟨y6, hj6, h⟩ := bind_some h
      obtain ⟨n2, hj6⟩ := Zb.1 hj6
      refine .mono (Runs.ZO hj6 (fun s2 e σ => Z4 e [(0, (.ptr (b2 + 0) 2 0)), (6, (.buf (b10 + 4) 1 1)), (7, (vi s2.1)), (8, (vi s2.2.1))] ∧ Hs σ (.sl (.buf (b10 + 4) 1 1) 3 1 (s2.2.2.1.map (cI .i64)) true :: .blk (b2 + 0) 119 [(vi s2.2.2.2.1), (vb s2.2.2.2.2)] :: .blk (b1 + 0) 96 (vG f) :: T1)) (fun y6 x e σ => x = .exit 0 ∧ Z4 e [] ∧ Hs σ (.sl (.buf (b10 + 4) 1 1) 3 1 (y6.1.map (cI .i64)) true :: .blk (b2 + 0) 119 [(vi y6.2.1), (vb y6.2.2)] :: .blk (b1 + 0) 96 (vG f) :: T1)) ⟨⟨rfl, rfl, rfl, rfl, trivial⟩, H⟩ ?_) ?_
      ·intro s2 e σ hI z h
       obtain ⟨he, H⟩ := hI
       obtain ⟨e, rfl⟩ := he.ex
       unfold Z9.s1 at h
       refine .then (.Z0 1 rfl H fun b12 σ H => (.int (m := s2.2.1) (m' := s2.1) (r := .bool (decide (s2.2.1 < s2.1))) rfl rfl rfl rfl rfl (.nila H fun H => (.then ?_))))
       refine .whether (v := (decide (s2.2.1 < s2.1))) rfl ?_ ?_ <;> intro hc5
       ·replace h := Z7 hc5 h
        refine .skip (.then ?_)
        obtain ⟨y7, hj7, h⟩ := bind_some h
        refine .mono (Q := fun x e σ => x = .normal ∧ Z4 e [(0, (.ptr (b2 + 0) 2 0)), (6, (.buf (b10 + 4) 1 1)), (7, (vi s2.1)), (8, (vi s2.2.1))] ∧ Hs σ (.sl (.buf (b10 + 4) 1 1) 3 1 (s2.2.2.1.map (cI .i64)) true :: .blk (b2 + 0) 119 [(vi y7.1), (vb y7.2)] :: .blk (b1 + 0) 96 (vG f) :: T1)) ?_ ?_
        ·replace h := hj7
         refine .inBlock ?_
         obtain ⟨y8, hj8, h⟩ := bind_some h
         refine .mono (Q := fun x e σ => x = .normal ∧ Z4 e [(0, (.ptr (b2 + 0) 2 0)), (6, (.buf (b10 + 4) 1 1)), (7, (vi s2.1)), (8, (vi s2.2.1))] ∧ Hs σ (.sl (.buf (b10 + 4) 1 1) 3 1 (s2.2.2.1.map (cI .i64)) true :: .blk (b2 + 0) 119 [(vi y8.1), (vb y8.2)] :: .blk (b1 + 0) 96 (vG f) :: T1)) ?_ ?_
         ·replace h := hj8
          refine .then (.Z0 3 rfl H fun b13 σ H => ?_)
          obtain ⟨x4, q4, h⟩ := bind_some h
          refine .Z77 H 0 rfl rfl rfl (at?_map q4) rfl rfl nofun rfl ?_; intro id1 hv1
          refine .loadS (id := id1) (j := 0) (w := (.int .i64 x4)) H 0 rfl hv1 (by simp) (at?_map q4) rfl (by simp) rfl rfl rfl nofun rfl ?_
          refine .assign (v := (vi x4)) rfl rfl (.nila H fun H => (.then (.Z0 13 rfl H fun b14 σ H => (.move (v := (.ptr (b2 + 0) 2 0)) rfl rfl (.Z0T (off := 0) H 1 rfl rfl rfl nofun rfl ?_)))))
          refine .Z2 (off := 0) (fo := 1) H 1 rfl rfl rfl rfl rfl nofun rfl (.ZC (off := 1) (v := (vb s2.2.2.2.2)) H 1 rfl rfl rfl rfl rfl nofun rfl (.not (b := s2.2.2.2.2) rfl rfl (.move (v := (vb (!s2.2.2.2.2))) rfl rfl ?_)))
          refine .mid 7 (K1 := fun e σ => Z4 e [(24, (vb ((!s2.2.2.2.2) || (decide (x4 > s2.2.2.2.1))))), (0, (.ptr (b2 + 0) 2 0)), (5, (vi x4)), (6, (.buf (b10 + 4) 1 1)), (7, (vi s2.1)), (8, (vi s2.2.1))] ∧ Has σ (b14 + 13) (b14 + 13) (.sl (.buf (b10 + 4) 1 1) 3 1 (s2.2.2.1.map (cI .i64)) true :: .blk (b2 + 0) 119 [(vi s2.2.2.2.1), (vb s2.2.2.2.2)] :: .blk (b1 + 0) 96 (vG f) :: T1)) rfl ?_ ?_
          ·refine .split rfl rfl ?_ ?_ <;> intro hc6
           ·skip
            refine .pass rfl rfl rfl (.pass rfl rfl rfl (.pass rfl rfl rfl (.pass rfl rfl rfl (.pass rfl rfl rfl (.pass rfl rfl rfl ?_)))))
            refine .Zf (v := (vb true)) rfl rfl rfl (.nil ?_)
            exact ⟨⟨or_T hc6, rfl, rfl, rfl, rfl, rfl, trivial⟩, H.weak (by omega) (Nat.le_refl _)⟩
           ·skip
            refine .wanted rfl rfl (.move (v := (vi x4)) rfl rfl (.wanted rfl rfl (.move (v := (.ptr (b2 + 0) 2 0)) rfl rfl (.wanted rfl rfl (.Z0T (off := 0) H 1 rfl rfl rfl nofun rfl ?_)))))
            refine .wanted rfl rfl (.Z2 (off := 0) (fo := 0) H 1 rfl rfl rfl rfl rfl nofun rfl (.wanted rfl rfl (.ZC (off := 0) (v := (vi s2.2.2.2.1)) H 1 rfl rfl rfl rfl rfl nofun rfl (.wanted rfl rfl (.int (m := x4) (m' := s2.2.2.2.1) (r := .bool (decide (x4 > s2.2.2.2.1))) rfl rfl rfl rfl rfl ?_)))))
            refine .Zh (v := (vb (decide (x4 > s2.2.2.2.1)))) rfl rfl rfl (.nil ?_)
            exact ⟨⟨or_F hc6, rfl, rfl, rfl, rfl, rfl, trivial⟩, H.weak (by omega) (Nat.le_refl _)⟩
          ·rintro e σ ⟨he, H⟩
           obtain ⟨e, rfl⟩ := he.ex
           refine .nila H fun H => ?_
           refine .whether (v := ((!s2.2.2.2.2) || (decide (x4 > s2.2.2.2.1)))) rfl ?_ ?_ <;> intro hc7
           ·replace h := Z7 hc7 h
            refine .Z0 9 rfl H fun b15 σ H => (.move (v := (.ptr (b2 + 0) 2 0)) rfl rfl (.move (v := (.ptr (b2 + 0) 2 0)) rfl rfl (.move (v := (vi x4)) rfl rfl (.Z0T (off := 0) H 1 rfl rfl rfl nofun rfl (.Z2 (off := 0) (fo := 0) H 1 rfl rfl rfl rfl rfl nofun rfl ?_)))))
            refine .ZV (off := 0) (cells' := [(vi x4), (vb s2.2.2.2.2)]) H 1 rfl rfl rfl rfl rfl rfl rfl rfl rfl nofun fun σ H => (.Z0T (off := 0) H 1 rfl rfl rfl nofun rfl (.Z2 (off := 0) (fo := 1) H 1 rfl rfl rfl rfl rfl nofun rfl (.ZV (off := 1) (cells' := [(vi x4), (vb true)]) H 1 rfl rfl rfl rfl rfl rfl rfl rfl rfl nofun fun σ H => (.nila H fun H => ?_))))
            replace h := sj h; subst h
            exact ⟨rfl, ⟨rfl, rfl, rfl, rfl, trivial⟩, H⟩
           ·replace h := Z8 hc7 h
            refine .skip ?_
            replace h := sj h; subst h
            exact ⟨rfl, ⟨rfl, rfl, rfl, rfl, trivial⟩, H⟩
         ·rintro x e σ ⟨rfl, he, H⟩
          obtain ⟨e, rfl⟩ := he.ex
          replace h := sj h; subst h
          exact ⟨rfl, ⟨rfl, rfl, rfl, rfl, trivial⟩, H⟩
        ·rintro x e σ ⟨rfl, he, H⟩
         obtain ⟨e, rfl⟩ := he.ex
         refine .Z0 2 rfl H fun b16 σ H => (.int (m := s2.2.1) (m' := 1) (r := .int .i64 (w64 (s2.2.1 + 1))) rfl rfl rfl rfl rfl (.move (v := (vi (w64 (s2.2.1 + 1)))) rfl rfl (.nila H fun H => ?_)))
         replace h := sj h; subst h
         exact ⟨rfl, ⟨rfl, rfl, rfl, rfl, trivial⟩, H⟩
       ·replace h := Z8 hc5 h
        refine .exit ?_
        replace h := sj h; subst h
        exact ⟨nofun, ⟨rfl, trivial, H⟩⟩
      ·rintro x e σ ⟨rfl, he, H⟩
       obtain ⟨e, rfl⟩ := he.ex
       replace h := sj h; subst h
       exact ⟨.inl rfl, _, Z4r H .nil, _, ⟨rfl, rfl⟩, H⟩
     ·rintro _ _ σ ⟨rfl, rfl⟩ H
      refine .nila H fun H => ?_
      replace h := sj h; subst h
      exact ⟨rfl, ⟨rfl, rfl, rfl, rfl, rfl, trivial⟩, (H.erase 0)⟩
   ·replace h := Z8 hc2 h
    refine .skip ?_
    replace h := sj h; subst h
    exact ⟨rfl, ⟨rfl, rfl, rfl, rfl, rfl, trivial⟩, H⟩
  ·rintro x e σ ⟨rfl, he, H⟩
   obtain ⟨e, rfl⟩ := he.ex
   refine .then (.then (.Z0 5 rfl H fun b17 σ H => (.Z2 (off := 0) (fo := 0) H 1 rfl rfl rfl rfl rfl nofun rfl (.Z2 (off := 0) (fo := 3) H 1 rfl rfl rfl rfl rfl nofun rfl (.ZC (off := 3) (v := (vl Granule.cs f.Form.Odd)) H 1 rfl rfl rfl rfl rfl nofun rfl ?_)))))
   refine .Z0K (c := Granule.cs) (xs := f.Form.Odd) rfl rfl rfl (.move (v := (vi 0)) rfl rfl (.nila H fun H => (.inBlock ?_)))
   obtain ⟨y9, hj9, h⟩ := bind_some h
   obtain ⟨n3, hj9⟩ := Zb.1 hj9
   refine .mono (Runs.ZO hj9 (fun s3 e σ => Z4 e [(1, (vi t)), (2, (vb up)), (8, (.ptr (b2 + 0) 2 0)), (9, (vi y1)), (45, (vl Granule.cs f.Form.Odd)), (46, (vi (f.Form.Odd.length : Int))), (47, (vi s3.1))] ∧ Hs σ [.blk (b2 + 0) 119 [(vi s3.2.1), (vb s3.2.2)]]) (fun y9 x e σ => x = .exit 2 ∧ Z4 e [(8, (.ptr (b2 + 0) 2 0)), (9, (vi y1))] ∧ Hs σ [.blk (b2 + 0) 119 [(vi y9.1), (vb y9.2)]]) ⟨⟨rfl, rfl, rfl, rfl, rfl, rfl, rfl, trivial⟩, (H.erase 1)⟩ ?_) ?_
   ·intro s3 e σ hI z h
    obtain ⟨he, H⟩ := hI
    obtain ⟨e, rfl⟩ := he.ex
    unfold Z9.s2 at h
    refine .then (.Z0 1 rfl H fun b18 σ H => (.int (m := s3.1) (m' := (f.Form.Odd.length : Int)) (r := .bool (decide (s3.1 < (f.Form.Odd.length : Int)))) rfl rfl rfl rfl rfl (.nila H fun H => (.then ?_))))
    refine .whether (v := (decide (s3.1 < (f.Form.Odd.length : Int)))) rfl ?_ ?_ <;> intro hc8
    ·replace h := Z7 hc8 h
     refine .skip (.then ?_)
     obtain ⟨y10, hj10, h⟩ := bind_some h
     refine .mono (Q := fun x e σ => x = .normal ∧ Z4 e [(1, (vi t)), (2, (vb up)), (8, (.ptr (b2 + 0) 2 0)), (9, (vi y1)), (45, (vl Granule.cs f.Form.Odd)), (46, (vi (f.Form.Odd.length : Int))), (47, (vi s3.1))] ∧ Hs σ [.blk (b2 + 0) 119 [(vi y10.1), (vb y10.2)]]) ?_ ?_
     ·replace h := hj10
      refine .inBlock ?_
      obtain ⟨y11, hj11, h⟩ := bind_some h
      refine .mono (Q := fun x e σ => x = .normal ∧ Z4 e [(1, (vi t)), (2, (vb up)), (8, (.ptr (b2 + 0) 2 0)), (9, (vi y1)), (45, (vl Granule.cs f.Form.Odd)), (46, (vi (f.Form.Odd.length : Int))), (47, (vi s3.1))] ∧ Hs σ [.blk (b2 + 0) 119 [(vi y11.1), (vb y11.2)]]) ?_ ?_
      ·replace h := hj11
       refine .then (.Z0 4 rfl H fun b19 σ H => ?_)
       obtain ⟨x5, q5, h⟩ := bind_some h
       refine .Zy (c := Granule.cs) (u := x5) rfl rfl q5 rfl rfl rfl rfl (.Z26 (cs := [(.int .i64 x5.Index), (.sl (x5.Ticks.map Span.cs))]) rfl rfl rfl rfl rfl rfl (.Zk (cs := [(vi 0), .nils]) H (by omega) (by omega) rfl rfl fun σ H => (.ZV (off := 0) (cells' := [(vi x5.Index), (vl Span.cs x5.Ticks)]) H 0 rfl rfl rfl rfl rfl rfl rfl rfl rfl nofun fun σ H => (.nila H fun H => (.then ?_)))))
       refine .Z0 9 rfl H fun b20 σ H => (.Z2 (off := 0) (fo := 1) H 0 rfl rfl rfl rfl rfl nofun rfl (.ZC (off := 1) (v := (vl Span.cs x5.Ticks)) H 0 rfl rfl rfl rfl rfl nofun rfl ?_))
       obtain ⟨x6, q6, h⟩ := bind_some h
       refine .call (ys := [(vl Span.cs x5.Ticks)]) (r := (.tup [(.agg [(vi x6.1.From), (vi x6.1.To)]), (vb x6.2)])) rfl (Z2z q6) rfl (.move (v := (.tup [(.agg [(vi x6.1.From), (vi x6.1.To)]), (vb x6.2)])) rfl rfl (.extract (v := (.agg [(vi x6.1.From), (vi x6.1.To)])) rfl rfl rfl (.extract (v := (vb x6.2)) rfl rfl rfl (.Zk (cs := [(vi 0), (vi 0)]) H (by omega) (by omega) rfl rfl fun σ H => (.ZV (off := 0) (cells' := [(vi x6.1.From), (vi x6.1.To)]) H 0 rfl rfl rfl rfl rfl rfl rfl rfl rfl nofun fun σ H => ?_)))))
       refine .assign (v := (vb x6.2)) rfl rfl (.nila H fun H => (.then (.Z0 20 rfl H fun b21 σ H => (.move (v := (vb x6.2)) rfl rfl (.move (v := (vb x6.2)) rfl rfl ?_)))))
       refine .mid 18 (K1 := fun e σ => Z4 e [(76, (vb (x6.2 && ((up && (decide (x6.1.To ≥ t))) || ((!up) && (decide (x6.1.From ≤ t))))))), (1, (vi t)), (2, (vb up)), (8, (.ptr (b2 + 0) 2 0)), (9, (vi y1)), (12, (.ptr (b19 + 2) 2 0)), (45, (vl Granule.cs f.Form.Odd)), (46, (vi (f.Form.Odd.length : Int))), (47, (vi s3.1))] ∧ Has σ (b21 + 20) (b21 + 20) [.blk (b19 + 2) 76 [(vi x5.Index), (vl Span.cs x5.Ticks)], .blk (b2 + 0) 119 [(vi s3.2.1), (vb s3.2.2)]]) rfl ?_ ?_
       ·refine .split rfl rfl ?_ ?_ <;> intro hc9
        ·skip
         refine .wanted rfl rfl (.move (v := (vb up)) rfl rfl (.wanted rfl rfl (.move (v := (vb up)) rfl rfl ?_)))
         refine .mid 5 (K1 := fun e σ => Z4 e [(65, (vb (up && (decide (x6.1.To ≥ t))))), (1, (vi t)), (2, (vb up)), (8, (.ptr (b2 + 0) 2 0)), (9, (vi y1)), (12, (.ptr (b19 + 2) 2 0)), (13, (.ptr (b20 + 6) 2 0)), (45, (vl Granule.cs f.Form.Odd)), (46, (vi (f.Form.Odd.length : Int))), (47, (vi s3.1)), (58, (vb true))] ∧ Has σ (b21 + 9) (b21 + 20) [.blk (b20 + 6) 43 [(vi x6.1.From), (vi x6.1.To)], .blk (b19 + 2) 76 [(vi x5.Index), (vl Span.cs x5.Ticks)], .blk (b2 + 0) 119 [(vi s3.2.1), (vb s3.2.2)]]) rfl ?_ ?_
         ·refine .split rfl rfl ?_ ?_ <;> intro hc10
          ·skip
           refine .wanted rfl rfl (.Z2 (off := 0) (fo := 1) H 0 rfl rfl rfl rfl rfl nofun rfl (.wanted rfl rfl (.ZC (off := 1) (v := (vi x6.1.To)) H 0 rfl rfl rfl rfl rfl nofun rfl (.wanted rfl rfl (.move (v := (vi t)) rfl rfl ?_)))))
           refine .wanted rfl rfl (.int (m := x6.1.To) (m' := t) (r := .bool (decide (x6.1.To ≥ t))) rfl rfl rfl rfl rfl (.wanted rfl rfl (.Zf (v := (vb (decide (x6.1.To ≥ t)))) rfl rfl rfl (.nil ?_))))
           exact ⟨⟨Z15 hc10, rfl, rfl, rfl, rfl, rfl, rfl, rfl, rfl, rfl, rfl, trivial⟩, H.weak (by omega) (Nat.le_refl _)⟩
          ·skip
           refine .pass rfl rfl rfl (.pass rfl rfl rfl (.pass rfl rfl rfl (.pass rfl rfl rfl (.wanted rfl rfl (.Zh (v := (vb false)) rfl rfl rfl ?_)))))
           refine .nil ?_
           exact ⟨⟨Z19 hc10, rfl, rfl, rfl, rfl, rfl, rfl, rfl, rfl, rfl, rfl, trivial⟩, H.weak (by omega) (Nat.le_refl _)⟩
         ·rintro e σ ⟨he, H⟩
          obtain ⟨e, rfl⟩ := he.ex
          refine .wanted rfl rfl (.move (v := (vb (up && (decide (x6.1.To ≥ t))))) rfl rfl ?_)
          refine .mid 9 (K1 := fun e σ => Z4 e [(75, (vb ((up && (decide (x6.1.To ≥ t))) || ((!up) && (decide (x6.1.From ≤ t)))))), (1, (vi t)), (2, (vb up)), (8, (.ptr (b2 + 0) 2 0)), (9, (vi y1)), (12, (.ptr (b19 + 2) 2 0)), (45, (vl Granule.cs f.Form.Odd)), (46, (vi (f.Form.Odd.length : Int))), (47, (vi s3.1)), (58, (vb true))] ∧ Has σ (b21 + 19) (b21 + 20) [.blk (b19 + 2) 76 [(vi x5.Index), (vl Span.cs x5.Ticks)], .blk (b2 + 0) 119 [(vi s3.2.1), (vb s3.2.2)]]) rfl ?_ ?_
          ·refine .split rfl rfl ?_ ?_ <;> intro hc11
           ·skip
            refine .pass rfl rfl rfl (.pass rfl rfl rfl (.pass rfl rfl rfl (.Z00 rfl rfl rfl (.Z00 rfl rfl rfl (.Z00 rfl rfl rfl ?_)))))
            refine .Z00 rfl rfl rfl (.pass rfl rfl rfl (.wanted rfl rfl (.Zf (v := (vb true)) rfl rfl rfl (.nil ?_))))
            exact ⟨⟨or_T hc11, rfl, rfl, rfl, rfl, rfl, rfl, rfl, rfl, rfl, trivial⟩, (H.erase 0).weak (by omega) (Nat.le_refl _)⟩
           ·skip
            refine .wanted rfl rfl (.move (v := (vb up)) rfl rfl (.wanted rfl rfl (.not (b := up) rfl rfl (.wanted rfl rfl (.move (v := (vb (!up))) rfl rfl ?_)))))
            refine .mid 5 (K1 := fun e σ => Z4 e [(74, (vb ((!up) && (decide (x6.1.From ≤ t))))), (1, (vi t)), (2, (vb up)), (8, (.ptr (b2 + 0) 2 0)), (9, (vi y1)), (12, (.ptr (b19 + 2) 2 0)), (45, (vl Granule.cs f.Form.Odd)), (46, (vi (f.Form.Odd.length : Int))), (47, (vi s3.1)), (58, (vb true)), (66, (vb false))] ∧ Has σ (b21 + 18) (b21 + 20) [.blk (b19 + 2) 76 [(vi x5.Index), (vl Span.cs x5.Ticks)], .blk (b2 + 0) 119 [(vi s3.2.1), (vb s3.2.2)]]) rfl ?_ ?_
            ·refine .split rfl rfl ?_ ?_ <;> intro hc12
             ·skip
              refine .wanted rfl rfl (.Z2 (off := 0) (fo := 0) H 0 rfl rfl rfl rfl rfl nofun rfl (.wanted rfl rfl (.ZC (off := 0) (v := (vi x6.1.From)) H 0 rfl rfl rfl rfl rfl nofun rfl (.wanted rfl rfl (.move (v := (vi t)) rfl rfl ?_)))))
              refine .wanted rfl rfl (.int (m := x6.1.From) (m' := t) (r := .bool (decide (x6.1.From ≤ t))) rfl rfl rfl rfl rfl (.wanted rfl rfl (.Zf (v := (vb (decide (x6.1.From ≤ t)))) rfl rfl rfl (.nil ?_))))
              exact ⟨⟨Z15 hc12, rfl, rfl, rfl, rfl, rfl, rfl, rfl, rfl, rfl, rfl, trivial⟩, (H.erase 0).weak (by omega) (Nat.le_refl _)⟩
             ·skip
              refine .pass rfl rfl rfl (.pass rfl rfl rfl (.pass rfl rfl rfl (.pass rfl rfl rfl (.wanted rfl rfl (.Zh (v := (vb false)) rfl rfl rfl ?_)))))
              refine .nil ?_
              exact ⟨⟨Z19 hc12, rfl, rfl, rfl, rfl, rfl, rfl, rfl, rfl, rfl, rfl, trivial⟩, (H.erase 0).weak (by omega) (Nat.le_refl _)⟩
            ·rintro e σ ⟨he, H⟩
             obtain ⟨e, rfl⟩ := he.ex
             refine .wanted rfl rfl (.Zh (v := (vb ((!up) && (decide (x6.1.From ≤ t))))) rfl rfl rfl (.nil ?_))
             exact ⟨⟨or_F hc11, rfl, rfl, rfl, rfl, rfl, rfl, rfl, rfl, rfl, trivial⟩, H.weak (by omega) (Nat.le_refl _)⟩
          ·rintro e σ ⟨he, H⟩
           obtain ⟨e, rfl⟩ := he.ex
           refine .Zf (v := (vb ((up && (decide (x6.1.To ≥ t))) || ((!up) && (decide (x6.1.From ≤ t)))))) rfl rfl rfl (.nil ?_)
           exact ⟨⟨Z15 hc9, rfl, rfl, rfl, rfl, rfl, rfl, rfl, rfl, trivial⟩, H.weak (by omega) (Nat.le_refl _)⟩
        ·skip
         refine .pass rfl rfl rfl (.pass rfl rfl rfl (.Z00 rfl rfl rfl (.Z00 rfl rfl rfl (.Z00 rfl rfl rfl (.Z00 rfl rfl rfl ?_)))))
         refine .pass rfl rfl rfl (.pass rfl rfl rfl (.Z00 rfl rfl rfl (.Z00 rfl rfl rfl (.Z00 rfl rfl rfl (.Z00 rfl rfl rfl ?_)))))
         refine .Z00 rfl rfl rfl (.Z00 rfl rfl rfl (.Z00 rfl rfl rfl (.Z00 rfl rfl rfl (.pass rfl rfl rfl (.Zh (v := (vb false)) rfl rfl rfl ?_)))))
         refine .nil ?_
         exact ⟨⟨Z19 hc9, rfl, rfl, rfl, rfl, rfl, rfl, rfl, rfl, trivial⟩, (H.erase 0).weak (by omega) (Nat.le_refl _)⟩
       ·rintro e σ ⟨he, H⟩
        obtain ⟨e, rfl⟩ := he.ex
        refine .nila H fun H => ?_
        refine .whether (v := (x6.2 && ((up && (decide (x6.1.To ≥ t))) || ((!up) && (decide (x6.1.From ≤ t)))))) rfl ?_ ?_ <;> intro hc13
        ·replace h := Z7 hc13 h
         refine .Z0 7 rfl H fun b22 σ H => (.move (v := (vi y1)) rfl rfl (.neg (m := y1) rfl rfl (.Z2 (off := 0) (fo := 0) H 0 rfl rfl rfl rfl rfl nofun rfl (.ZC (off := 0) (v := (vi x5.Index)) H 0 rfl rfl rfl rfl rfl nofun rfl (.int (m := (w64 (0 - y1))) (m' := x5.Index) (r := .int .i64 (w64 ((w64 (0 - y1)) * x5.Index))) rfl rfl rfl rfl rfl ?_)))))
         refine .Z3K (sz := 1) ([(w64 ((w64 (0 - y1)) * x5.Index))].map (cI .i64)) H (by omega) (by omega) rfl rfl rfl rfl rfl rfl rfl rfl rfl fun σ H => ?_
         obtain ⟨y12, hj12, h⟩ := bind_some h
         refine .callI (PostA := fun r A => r = (.tup []) ∧ A = [.sl (.buf (b22 + 5) 1 1) 3 1 (y12.1.map (cI .i64)) true, .blk (b19 + 2) 76 [(vi x5.Index), (vl Span.cs x5.Ticks)], .blk (b2 + 0) 119 [(vi y12.2.1), (vb y12.2.2)]]) (cv := (.v (.fn 86))) (ys := [(.ptr (b2 + 0) 2 0), (.buf (b22 + 5) 1 1)]) (L := []) [.sl (.buf (b22 + 5) 1 1) 3 1 ([(w64 ((w64 (0 - y1)) * x5.Index))].map (cI .i64)) true, .blk (b19 + 2) 76 [(vi x5.Index), (vl Span.cs x5.Ticks)], .blk (b2 + 0) 119 [(vi s3.2.1), (vb s3.2.2)]] H rfl rfl (fun T2 hT H => Z5y Try.func86 rfl (fun _ => rfl) rfl rfl rfl rfl ?_) nofun rfl ?_
         ·replace h := hj12
          refine .then (.Z0 3 rfl H fun b23 σ H => (.move (v := (.buf (b22 + 5) 1 1)) rfl rfl (.lenSt (c := (cI .i64)) (xs := [(w64 ((w64 (0 - y1)) * x5.Index))]) H 0 rfl rfl rfl nofun rfl (.move (v := (vi 0)) rfl rfl (.nila H fun H => ?_)))))
          refine .inBlock ?_
          obtain ⟨y13, hj13, h⟩ := bind_some h
          obtain ⟨n4, hj13⟩ := Zb.1 hj13
          refine .mono (Runs.ZO hj13 (fun s4 e σ => Z4 e [(0, (.ptr (b2 + 0) 2 0)), (6, (.buf (b22 + 5) 1 1)), (7, (vi s4.1)), (8, (vi s4.2.1))] ∧ Hs σ (.sl (.buf (b22 + 5) 1 1) 3 1 (s4.2.2.1.map (cI .i64)) true :: .blk (b19 + 2) 76 [(vi x5.Index), (vl Span.cs x5.Ticks)] :: .blk (b2 + 0) 119 [(vi s4.2.2.2.1), (vb s4.2.2.2.2)] :: T2)) (fun y13 x e σ => x = .exit 0 ∧ Z4 e [] ∧ Hs σ (.sl (.buf (b22 + 5) 1 1) 3 1 (y13.1.map (cI .i64)) true :: .blk (b19 + 2) 76 [(vi x5.Index), (vl Span.cs x5.Ticks)] :: .blk (b2 + 0) 119 [(vi y13.2.1), (vb y13.2.2)] :: T2)) ⟨⟨rfl, rfl, rfl, rfl, trivial⟩, H⟩ ?_) ?_
          ·intro s4 e σ hI z h
           obtain ⟨he, H⟩ := hI
           obtain ⟨e, rfl⟩ := he.ex
           unfold Z9.s3 at h
           refine .then (.Z0 1 rfl H fun b24 σ H => (.int (m := s4.2.1) (m' := s4.1) (r := .bool (decide (s4.2.1 < s4.1))) rfl rfl rfl rfl rfl (.nila H fun H => (.then ?_))))
           refine .whether (v := (decide (s4.2.1 < s4.1))) rfl ?_ ?_ <;> intro hc14
           ·replace h := Z7 hc14 h
            refine .skip (.then ?_)
            obtain ⟨y14, hj14, h⟩ := bind_some h
            refine .mono (Q := fun x e σ => x = .normal ∧ Z4 e [(0, (.ptr (b2 + 0) 2 0)), (6, (.buf (b22 + 5) 1 1)), (7, (vi s4.1)), (8, (vi s4.2.1))] ∧ Hs σ (.sl (.buf (b22 + 5) 1 1) 3 1 (s4.2.2.1.map (cI .i64)) true :: .blk (b19 + 2) 76 [(vi x5.Index), (vl Span.cs x5.Ticks)] :: .blk (b2 + 0) 119 [(vi y14.1), (vb y14.2)] :: T2)) ?_ ?_
            ·replace h := hj14
             refine .inBlock ?_
             obtain ⟨y15, hj15, h⟩ := bind_some h
             refine .mono (Q := fun x e σ => x = .normal ∧ Z4 e [(0, (.ptr (b2 + 0) 2 0)), (6, (.buf (b22 + 5) 1 1)), (7, (vi s4.1)), (8, (vi s4.2.1))] ∧ Hs σ (.sl (.buf (b22 + 5) 1 1) 3 1 (s4.2.2.1.map (cI .i64)) true :: .blk (b19 + 2) 76 [(vi x5.Index), (vl Span.cs x5.Ticks)] :: .blk (b2 + 0) 119 [(vi y15.1), (vb y15.2)] :: T2)) ?_ ?_
             ·replace h := hj15
              refine .then (.Z0 3 rfl H fun b25 σ H => ?_)
              obtain ⟨x7, q7, h⟩ := bind_some h
              refine .Z77 H 0 rfl rfl rfl (at?_map q7) rfl rfl nofun rfl ?_; intro id2 hv2
              refine .loadS (id := id2) (j := 0) (w := (.int .i64 x7)) H 0 rfl hv2 (by simp) (at?_map q7) rfl (by simp) rfl rfl rfl nofun rfl ?_
              refine .assign (v := (vi x7)) rfl rfl (.nila H fun H => (.then (.Z0 13 rfl H fun b26 σ H => (.move (v := (.ptr (b2 + 0) 2 0)) rfl rfl (.Z0T (off := 0) H 2 rfl rfl rfl nofun rfl ?_)))))
              refine .Z2 (off := 0) (fo := 1) H 2 rfl rfl rfl rfl rfl nofun rfl (.ZC (off := 1) (v := (vb s4.2.2.2.2)) H 2 rfl rfl rfl rfl rfl nofun rfl (.not (b := s4.2.2.2.2) rfl rfl (.move (v := (vb (!s4.2.2.2.2))) rfl rfl ?_)))
              refine .mid 7 (K1 := fun e σ => Z4 e [(24, (vb ((!s4.2.2.2.2) || (decide (x7 > s4.2.2.2.1))))), (0, (.ptr (b2 + 0) 2 0)), (5, (vi x7)), (6, (.buf (b22 + 5) 1 1)), (7, (vi s4.1)), (8, (vi s4.2.1))] ∧ Has σ (b26 + 13) (b26 + 13) (.sl (.buf (b22 + 5) 1 1) 3 1 (s4.2.2.1.map (cI .i64)) true :: .blk (b19 + 2) 76 [(vi x5.Index), (vl Span.cs x5.Ticks)] :: .blk (b2 + 0) 119 [(vi s4.2.2.2.1), (vb s4.2.2.2.2)] :: T2)) rfl ?_ ?_
              ·refine .split rfl rfl ?_ ?_ <;> intro hc15
               ·skip
                refine .pass rfl rfl rfl (.pass rfl rfl rfl (.pass rfl rfl rfl (.pass rfl rfl rfl (.pass rfl rfl rfl (.pass rfl rfl rfl ?_)))))
                refine .Zf (v := (vb true)) rfl rfl rfl (.nil ?_)
                exact ⟨⟨or_T hc15, rfl, rfl, rfl, rfl, rfl, trivial⟩, H.weak (by omega) (Nat.le_refl _)⟩
               ·skip
                refine .wanted rfl rfl (.move (v := (vi x7)) rfl rfl (.wanted rfl rfl (.move (v := (.ptr (b2 + 0) 2 0)) rfl rfl (.wanted rfl rfl (.Z0T (off := 0) H 2 rfl rfl rfl nofun rfl ?_)))))
                refine .wanted rfl rfl (.Z2 (off := 0) (fo := 0) H 2 rfl rfl rfl rfl rfl nofun rfl (.wanted rfl rfl (.ZC (off := 0) (v := (vi s4.2.2.2.1)) H 2 rfl rfl rfl rfl rfl nofun rfl (.wanted rfl rfl (.int (m := x7) (m' := s4.2.2.2.1) (r := .bool (decide (x7 > s4.2.2.2.1))) rfl rfl rfl rfl rfl ?_)))))
                refine .Zh (v := (vb (decide (x7 > s4.2.2.2.1)))) rfl rfl rfl (.nil ?_)
                exact ⟨⟨or_F hc15, rfl, rfl, rfl, rfl, rfl, trivial⟩, H.weak (by omega) (Nat.le_refl _)⟩
              ·rintro e σ ⟨he, H⟩
               obtain ⟨e, rfl⟩ := he.ex
               refine .nila H fun H => ?_
               refine .whether (v := ((!s4.2.2.2.2) || (decide (x7 > s4.2.2.2.1)))) rfl ?_ ?_ <;> intro hc16
               ·replace h := Z7 hc16 h
                refine .Z0 9 rfl H fun b27 σ H => (.move (v := (.ptr (b2 + 0) 2 0)) rfl rfl (.move (v := (.ptr (b2 + 0) 2 0)) rfl rfl (.move (v := (vi x7)) rfl rfl (.Z0T (off := 0) H 2 rfl rfl rfl nofun rfl (.Z2 (off := 0) (fo := 0) H 2 rfl rfl rfl rfl rfl nofun rfl ?_)))))
                refine .ZV (off := 0) (cells' := [(vi x7), (vb s4.2.2.2.2)]) H 2 rfl rfl rfl rfl rfl rfl rfl rfl rfl nofun fun σ H => (.Z0T (off := 0) H 2 rfl rfl rfl nofun rfl (.Z2 (off := 0) (fo := 1) H 2 rfl rfl rfl rfl rfl nofun rfl (.ZV (off := 1) (cells' := [(vi x7), (vb true)]) H 2 rfl rfl rfl rfl rfl rfl rfl rfl rfl nofun fun σ H => (.nila H fun H => ?_))))
                replace h := sj h; subst h
                exact ⟨rfl, ⟨rfl, rfl, rfl, rfl, trivial⟩, H⟩
               ·replace h := Z8 hc16 h
                refine .skip ?_
                replace h := sj h; subst h
                exact ⟨rfl, ⟨rfl, rfl, rfl, rfl, trivial⟩, H⟩
             ·rintro x e σ ⟨rfl, he, H⟩
              obtain ⟨e, rfl⟩ := he.ex
              replace h := sj h; subst h
              exact ⟨rfl, ⟨rfl, rfl, rfl, rfl, trivial⟩, H⟩
            ·rintro x e σ ⟨rfl, he, H⟩
             obtain ⟨e, rfl⟩ := he.ex
             refine .Z0 2 rfl H fun b28 σ H => (.int (m := s4.2.1) (m' := 1) (r := .int .i64 (w64 (s4.2.1 + 1))) rfl rfl rfl rfl rfl (.move (v := (vi (w64 (s4.2.1 + 1)))) rfl rfl (.nila H fun H => ?_)))
             replace h := sj h; subst h
             exact ⟨rfl, ⟨rfl, rfl, rfl, rfl, trivial⟩, H⟩
           ·replace h := Z8 hc14 h
            refine .exit ?_
            replace h := sj h; subst h
            exact ⟨nofun, ⟨rfl, trivial, H⟩⟩
          ·rintro x e σ ⟨rfl, he, H⟩
           obtain ⟨e, rfl⟩ := he.ex
           replace h := sj h; subst h
           exact ⟨.inl rfl, _, Z4r H .nil, _, ⟨rfl, rfl⟩, H⟩
         ·rintro _ _ σ ⟨rfl, rfl⟩ H
          refine .nila H fun H => ?_
          replace h := sj h; subst h
          exact ⟨rfl, ⟨rfl, rfl, rfl, rfl, rfl, rfl, rfl, trivial⟩, ((H.erase 1).erase 0)⟩
        ·replace h := Z8 hc13 h
         refine .skip ?_
         replace h := sj h; subst h
         exact ⟨rfl, ⟨rfl, rfl, rfl, rfl, rfl, rfl, rfl, trivial⟩, (H.erase 0)⟩
      ·rintro x e σ ⟨rfl, he, H⟩
       obtain ⟨e, rfl⟩ := he.ex
       replace h := sj h; subst h
       exact ⟨rfl, ⟨rfl, rfl, rfl, rfl, rfl, rfl, rfl, trivial⟩, H⟩
     ·rintro x e σ ⟨rfl, he, H⟩
      obtain ⟨e, rfl⟩ := he.ex
      refine .Z0 2 rfl H fun b29 σ H => (.int (m := s3.1) (m' := 1) (r := .int .i64 (w64 (s3.1 + 1))) rfl rfl rfl rfl rfl (.move (v := (vi (w64 (s3.1 + 1)))) rfl rfl (.nila H fun H => ?_)))
      replace h := sj h; subst h
      exact ⟨rfl, ⟨rfl, rfl, rfl, rfl, rfl, rfl, rfl, trivial⟩, H⟩
    ·replace h := Z8 hc8 h
     refine .exit ?_
     replace h := sj h; subst h
     exact ⟨nofun, ⟨rfl, ⟨rfl, rfl, trivial⟩, H⟩⟩
   ·rintro x e σ ⟨rfl, he, H⟩
    obtain ⟨e, rfl⟩ := he.ex
    refine .then (.Z0w 9 rfl (by kernel_rfl) H fun b30 σ H B30 => (.move (v := (vi y1)) rfl rfl (.neg (m := y1) rfl rfl (.Z2 (off := 0) (fo := 0) H 0 rfl rfl rfl rfl rfl (fun _ => .inl ⟨B30 0 _ rfl _ rfl, nofun, (fun _ => by kernel_rfl)⟩) rfl (.ZC (off := 0) (v := (vi y9.1)) H 0 rfl rfl rfl rfl rfl (fun _ => .inl ⟨B30 0 _ rfl _ rfl, nofun, (fun _ => by kernel_rfl)⟩) rfl ?_)))))
    refine .int (m := (w64 (0 - y1))) (m' := y9.1) (r := .int .i64 (w64 ((w64 (0 - y1)) * y9.1))) rfl rfl rfl rfl rfl (.Z2 (off := 0) (fo := 1) H 0 rfl rfl rfl rfl rfl (fun _ => .inl ⟨B30 0 _ rfl _ rfl, nofun, (fun _ => by kernel_rfl)⟩) rfl (.ZC (off := 1) (v := (vb y9.2)) H 0 rfl rfl rfl rfl rfl (fun _ => .inl ⟨B30 0 _ rfl _ rfl, nofun, (fun _ => by kernel_rfl)⟩) rfl (.assign (v := (vi (w64 ((w64 (0 - y1)) * y9.1)))) rfl rfl (.assign (v := (vb y9.2)) rfl rfl (.nila H fun H => ?_)))))
    refine .ret ?_
    replace h := sj h; subst h
    exact (Ends.H (xs := [(vi (w64 ((w64 (0 - y1)) * y9.1))), (vb y9.2)]) (.inr rfl) H (.tmp (v := (vi (w64 ((w64 (0 - y1)) * y9.1)))) rfl (.tmp (v := (vb y9.2)) rfl .nil)) (.two (.cons (.c (.v _)) (.cons (.c (.v _)) .nil))))

end Go.Dn
