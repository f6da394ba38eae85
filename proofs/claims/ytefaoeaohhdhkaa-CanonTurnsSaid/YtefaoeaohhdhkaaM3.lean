/- Part 3 of what the row stands on. -/
import Derived.Test.YtefaoeaohhdhkaaM2
set_option linter.unusedVariables false
set_option linter.unusedSimpArgs false
namespace Go.Dn
open Go Go.Proofs
set_option maxRecDepth 100000
set_option maxHeartbeats 4000000

theorem spans_Move_fn {l : (List Span)} {by' : Int} {r : (List Span) × Int} (h : spans_Move l by' = some r) : Fn CX 21 [(vl Span.cs l), (vi by')] (.tup [(vl Span.cs r.1), (vi r.2)]) := by
 refine Fn.ends Try.func21 rfl rfl rfl rfl rfl rfl ?_
 have H : Hs (⟨0, fun _ => .none⟩ : Heap) [] := Has.nil (Nat.le_refl _)
 generalize (⟨0, fun _ => .none⟩ : Heap) = σ at H ⊢
 unfold spans_Move at h
 apply Runs.then
 refine .regionH 2 rfl H ?_; intro b1 σ H
 refine .assign (v := .nils) rfl rfl (.assign (v := (vi 0)) rfl rfl ?_)
 apply Ops.nil
 replace H := H.all
 apply Runs.then
 refine .regionH 1 rfl H ?_; intro b2 σ H
 refine .assign (v := .nils) rfl rfl ?_
 apply Ops.nil
 replace H := H.all
 apply Runs.then
 apply Runs.then
 refine .regionH 3 rfl H ?_; intro b3 σ H
 refine .move (v := (vl Span.cs l)) rfl rfl (.lenPt (c := Span.cs) (xs := l) rfl rfl rfl (.move (v := (vi 0)) rfl rfl ?_))
 apply Ops.nil
 replace H := H.all
 apply Runs.inBlock
 replace H := H.pushNil 43 2 true
 obtain ⟨y1, hj1, h⟩ := bind_some h
 obtain ⟨n1, hj1⟩ := loopO_iff.1 hj1
 refine .mono (Runs.loopO hj1 (fun s2 e σ => ∃ (w3 : PV), EnvHas e [(1, (vi by')), (6, w3), (13, (vl Span.cs l)), (14, (vi (l.length : Int))), (15, (vi s2.1))] ∧ Hs σ [.sl w3 43 2 (s2.2.map Span.cs) true]) (fun y1 x e σ => (∃ a1, ∃ (w4 : PV), y1 = (.go a1) ∧ x = .exit 0 ∧ EnvHas e [(6, w4)] ∧ Hs σ [.sl w4 43 2 (a1.map Span.cs) true]) ∨ (∃ r', y1 = (.ret r') ∧ x = .ret ∧ Ends CX Try.f21.results.toList (.tup [(vl Span.cs r'.1), (vi r'.2)]) x e σ)) ⟨.nils, ⟨rfl, rfl, rfl, rfl, rfl, trivial⟩, H⟩ ?_) ?_
 ·intro s2 e σ hI z h
  obtain ⟨w3, he, H⟩ := hI
  obtain ⟨e, rfl⟩ := he.ex
  unfold spans_Move.s0 at h
  apply Runs.then
  refine .regionH 1 rfl H ?_; intro b4 σ H
  refine .int (m := s2.1) (m' := (l.length : Int)) (r := .bool (decide (s2.1 < (l.length : Int)))) rfl rfl rfl rfl rfl ?_
  apply Ops.nil
  replace H := H.all
  apply Runs.then
  refine .whether (v := (decide (s2.1 < (l.length : Int)))) rfl ?_ ?_ <;> intro hc1
  ·replace h := cond_T hc1 h
   apply Runs.skip
   apply Runs.then
   apply Runs.inBlock
   apply Runs.then
   refine .regionH 4 rfl H ?_; intro b5 σ H
   obtain ⟨x1, q1, h⟩ := bind_some h
   refine .indexP (c := Span.cs) (u := x1) rfl rfl q1 rfl rfl rfl rfl (.loadPA (cs := [(.int .i64 x1.From), (.int .i64 x1.To)]) rfl rfl rfl rfl rfl rfl (.allocH (cs := [(vi 0), (vi 0)]) H (by omega) (by omega) rfl rfl ?_)); intro σ H
   refine .storeH (off := 0) (cells' := [(vi x1.From), (vi x1.To)]) H 0 rfl rfl rfl rfl rfl rfl rfl rfl rfl nofun ?_; intro σ H
   apply Ops.nil
   replace H := H.all
   apply Runs.then
   refine .regionH 9 rfl H ?_; intro b6 σ H
   refine .fieldAddrH (off := 0) (fo := 0) H 0 rfl rfl rfl rfl rfl nofun rfl (.loadH (off := 0) (v := (vi x1.From)) H 0 rfl rfl rfl rfl rfl nofun rfl (.move (v := (vi by')) rfl rfl (.call (ys := [(vi x1.From), (vi by')]) (r := (.tup [(vi (safe_Add x1.From by').1), (vi (safe_Add x1.From by').2)])) rfl (safe_Add_fn rfl) rfl ?_)))
   refine .move (v := (.tup [(vi (safe_Add x1.From by').1), (vi (safe_Add x1.From by').2)])) rfl rfl (.extract (v := (vi (safe_Add x1.From by').1)) rfl rfl rfl (.extract (v := (vi (safe_Add x1.From by').2)) rfl rfl rfl (.assign (v := (vi (safe_Add x1.From by').1)) rfl rfl ?_)))
   refine .assign (v := (vi (safe_Add x1.From by').2)) rfl rfl ?_
   apply Ops.nil
   replace H := H.all
   apply Runs.then
   refine .regionH 9 rfl H ?_; intro b7 σ H
   refine .fieldAddrH (off := 0) (fo := 1) H 0 rfl rfl rfl rfl rfl nofun rfl (.loadH (off := 1) (v := (vi x1.To)) H 0 rfl rfl rfl rfl rfl nofun rfl (.move (v := (vi by')) rfl rfl (.call (ys := [(vi x1.To), (vi by')]) (r := (.tup [(vi (safe_Add x1.To by').1), (vi (safe_Add x1.To by').2)])) rfl (safe_Add_fn rfl) rfl ?_)))
   refine .move (v := (.tup [(vi (safe_Add x1.To by').1), (vi (safe_Add x1.To by').2)])) rfl rfl (.extract (v := (vi (safe_Add x1.To by').1)) rfl rfl rfl (.extract (v := (vi (safe_Add x1.To by').2)) rfl rfl rfl (.assign (v := (vi (safe_Add x1.To by').1)) rfl rfl ?_)))
   refine .assign (v := (vi (safe_Add x1.To by').2)) rfl rfl ?_
   apply Ops.nil
   replace H := H.all
   apply Runs.then
   apply Runs.then
   refine .regionH 16 rfl H ?_; intro b8 σ H
   refine .move (v := (vi (safe_Add x1.From by').2)) rfl rfl (.int (m := (safe_Add x1.From by').2) (m' := 0) (r := .bool (((safe_Add x1.From by').2) != 0)) rfl rfl rfl rfl rfl (.move (v := (vb (((safe_Add x1.From by').2) != 0))) rfl rfl ?_))
   refine .mid 3 (K1 := fun e σ => EnvHas e [(38, (vb ((((safe_Add x1.From by').2) != 0) || (((safe_Add x1.To by').2) != 0)))), (1, (vi by')), (6, w3), (9, (vi (safe_Add x1.From by').1)), (11, (vi (safe_Add x1.To by').1)), (13, (vl Span.cs l)), (14, (vi (l.length : Int))), (15, (vi s2.1))] ∧ Has σ (b8 + 6) (b8 + 16) [.sl w3 43 2 (s2.2.map Span.cs) true]) rfl ?_ ?_
   ·refine .split rfl rfl ?_ ?_ <;> intro hc2
    ·skip
     refine .pass rfl rfl rfl (.pass rfl rfl rfl (.pickT (v := (vb true)) rfl rfl rfl ?_))
     apply Ops.nil
     exact ⟨⟨or_T hc2, rfl, rfl, rfl, rfl, rfl, rfl, rfl, trivial⟩, (H.erase 0).weak (by omega) (Nat.le_refl _)⟩
    ·skip
     refine .wanted rfl rfl (.move (v := (vi (safe_Add x1.To by').2)) rfl rfl (.wanted rfl rfl (.int (m := (safe_Add x1.To by').2) (m' := 0) (r := .bool (((safe_Add x1.To by').2) != 0)) rfl rfl rfl rfl rfl ?_)))
     refine .pickF (v := (vb (((safe_Add x1.To by').2) != 0))) rfl rfl rfl ?_
     apply Ops.nil
     exact ⟨⟨or_F hc2, rfl, rfl, rfl, rfl, rfl, rfl, rfl, trivial⟩, (H.erase 0).weak (by omega) (Nat.le_refl _)⟩
   ·rintro e σ ⟨he, H⟩
    obtain ⟨e, rfl⟩ := he.ex
    refine .move (v := (vb ((((safe_Add x1.From by').2) != 0) || (((safe_Add x1.To by').2) != 0)))) rfl rfl ?_
    refine .mid 4 (K1 := fun e σ => EnvHas e [(43, (vb (((((safe_Add x1.From by').2) != 0) || (((safe_Add x1.To by').2) != 0)) || (!(spans_tick ((safe_Add x1.From by').1)))))), (1, (vi by')), (6, w3), (9, (vi (safe_Add x1.From by').1)), (11, (vi (safe_Add x1.To by').1)), (13, (vl Span.cs l)), (14, (vi (l.length : Int))), (15, (vi s2.1))] ∧ Has σ (b8 + 11) (b8 + 16) [.sl w3 43 2 (s2.2.map Span.cs) true]) rfl ?_ ?_
    ·refine .split rfl rfl ?_ ?_ <;> intro hc3
     ·skip
      refine .pass rfl rfl rfl (.pass rfl rfl rfl (.pass rfl rfl rfl (.pickT (v := (vb true)) rfl rfl rfl ?_)))
      apply Ops.nil
      exact ⟨⟨or_T hc3, rfl, rfl, rfl, rfl, rfl, rfl, rfl, trivial⟩, H.weak (by omega) (Nat.le_refl _)⟩
     ·skip
      refine .wanted rfl rfl (.move (v := (vi (safe_Add x1.From by').1)) rfl rfl (.wanted rfl rfl (.call (ys := [(vi (safe_Add x1.From by').1)]) (r := (vb (spans_tick ((safe_Add x1.From by').1)))) rfl (spans_tick_fn rfl) rfl ?_)))
      refine .wanted rfl rfl (.not (b := (spans_tick ((safe_Add x1.From by').1))) rfl rfl (.pickF (v := (vb (!(spans_tick ((safe_Add x1.From by').1))))) rfl rfl rfl ?_))
      apply Ops.nil
      exact ⟨⟨or_F hc3, rfl, rfl, rfl, rfl, rfl, rfl, rfl, trivial⟩, H.weak (by omega) (Nat.le_refl _)⟩
    ·rintro e σ ⟨he, H⟩
     obtain ⟨e, rfl⟩ := he.ex
     refine .move (v := (vb (((((safe_Add x1.From by').2) != 0) || (((safe_Add x1.To by').2) != 0)) || (!(spans_tick ((safe_Add x1.From by').1)))))) rfl rfl ?_
     refine .mid 4 (K1 := fun e σ => EnvHas e [(48, (vb ((((((safe_Add x1.From by').2) != 0) || (((safe_Add x1.To by').2) != 0)) || (!(spans_tick ((safe_Add x1.From by').1)))) || (!(spans_tick ((safe_Add x1.To by').1)))))), (1, (vi by')), (6, w3), (9, (vi (safe_Add x1.From by').1)), (11, (vi (safe_Add x1.To by').1)), (13, (vl Span.cs l)), (14, (vi (l.length : Int))), (15, (vi s2.1))] ∧ Has σ (b8 + 16) (b8 + 16) [.sl w3 43 2 (s2.2.map Span.cs) true]) rfl ?_ ?_
     ·refine .split rfl rfl ?_ ?_ <;> intro hc4
      ·skip
       refine .pass rfl rfl rfl (.pass rfl rfl rfl (.pass rfl rfl rfl (.pickT (v := (vb true)) rfl rfl rfl ?_)))
       apply Ops.nil
       exact ⟨⟨or_T hc4, rfl, rfl, rfl, rfl, rfl, rfl, rfl, trivial⟩, H.weak (by omega) (Nat.le_refl _)⟩
      ·skip
       refine .wanted rfl rfl (.move (v := (vi (safe_Add x1.To by').1)) rfl rfl (.wanted rfl rfl (.call (ys := [(vi (safe_Add x1.To by').1)]) (r := (vb (spans_tick ((safe_Add x1.To by').1)))) rfl (spans_tick_fn rfl) rfl ?_)))
       refine .wanted rfl rfl (.not (b := (spans_tick ((safe_Add x1.To by').1))) rfl rfl (.pickF (v := (vb (!(spans_tick ((safe_Add x1.To by').1))))) rfl rfl rfl ?_))
       apply Ops.nil
       exact ⟨⟨or_F hc4, rfl, rfl, rfl, rfl, rfl, rfl, rfl, trivial⟩, H.weak (by omega) (Nat.le_refl _)⟩
     ·rintro e σ ⟨he, H⟩
      obtain ⟨e, rfl⟩ := he.ex
      apply Ops.nil
      replace H := H.all
      refine .whether (v := ((((((safe_Add x1.From by').2) != 0) || (((safe_Add x1.To by').2) != 0)) || (!(spans_tick ((safe_Add x1.From by').1)))) || (!(spans_tick ((safe_Add x1.To by').1))))) rfl ?_ ?_ <;> intro hc5
      ·replace h := cond_T hc5 h
       apply Runs.then
       refine .regionH 2 rfl H ?_; intro b9 σ H
       refine .assign (v := .nils) rfl rfl (.assign (v := (vi 20)) rfl rfl ?_)
       apply Ops.nil
       replace H := H.all
       apply Runs.ret
       replace h := Option.some.inj h; subst h
       exact ⟨nofun, (.inr ⟨_, rfl, rfl, (Ends.H (xs := [.nils, (vi 20)]) (.inr rfl) H (.tmp (v := .nils) rfl (.tmp (v := (vi 20)) rfl .nil)) (.two (.cons (.c .n) (.cons (.c (.v _)) .nil))))⟩)⟩
      ·replace h := cond_F hc5 h
       apply Runs.skip
       refine .regionH 7 rfl H ?_; intro b10 σ H
       refine .move (v := w3) rfl rfl (.move (v := (vi (safe_Add x1.From by').1)) rfl rfl (.move (v := (vi (safe_Add x1.To by').1)) rfl rfl (.buildA (cs := [(vi (safe_Add x1.From by').1), (vi (safe_Add x1.To by').1)]) rfl rfl ?_)))
       refine .buildS (sz := 2) ([(Span.mk ((safe_Add x1.From by').1) ((safe_Add x1.To by').1))].map Span.cs) H (by omega) (by omega) rfl rfl rfl rfl rfl rfl rfl rfl rfl ?_; intro σ H
       obtain ⟨x2, q2, h⟩ := bind_some h
       refine .appendSt (c := Span.cs) (v := w3) (w := (.buf (b10 + 4) 1 2)) (xs := s2.2) (ys := [(Span.mk ((safe_Add x1.From by').1) ((safe_Add x1.To by').1))]) H (by omega) (by omega) 1 rfl rfl rfl (.s 0 rfl) q2 rfl rfl rfl rfl rfl nofun rfl ?_; intro w5 σ H
       refine .assign (v := w5) rfl rfl ?_
       apply Ops.nil
       replace H := H.all
       refine .regionH 2 rfl H ?_; intro b11 σ H
       refine .int (m := s2.1) (m' := 1) (r := .int .i64 (w64 (s2.1 + 1))) rfl rfl rfl rfl rfl (.move (v := (vi (w64 (s2.1 + 1)))) rfl rfl ?_)
       apply Ops.nil
       replace H := H.all
       replace h := Option.some.inj h; subst h
       exact ⟨rfl, w5, ⟨rfl, rfl, rfl, rfl, rfl, trivial⟩, (H.erase 0)⟩
  ·replace h := cond_F hc1 h
   apply Runs.exit
   replace h := Option.some.inj h; subst h
   exact ⟨nofun, (.inl ⟨_, w3, rfl, rfl, ⟨rfl, trivial⟩, H⟩)⟩
 ·rintro x e σ (⟨a2, w6, rfl, rfl, he, H⟩ | ⟨r', rfl, rfl, hE⟩)
  ·skip
   replace h := jgo h
   obtain ⟨e, rfl⟩ := he.ex
   apply Runs.then
   refine .regionH 3 rfl H ?_; intro b12 σ H
   refine .move (v := w6) rfl rfl (.assign (v := w6) rfl rfl (.assign (v := (vi 0)) rfl rfl ?_))
   apply Ops.nil
   replace H := H.all
   apply Runs.ret
   replace h := Option.some.inj h; subst h
   exact (Ends.H (xs := [w6, (vi 0)]) (.inr rfl) H (.tmp (v := w6) rfl (.tmp (v := (vi 0)) rfl .nil)) (.two (.cons (.c (.s 0 rfl)) (.cons (.c (.v _)) .nil))))
  ·skip
   replace h := jret h
   replace h := Option.some.inj h; subst h
   exact hE

theorem gran_Get_fn {f : Form} {i : Int} {r : (List Span) × Int} (h : gran_Get f i = some r) : Fn CX 16 [(.agg (vs (Form.cs f))), (vi i)] (.tup [(vl Span.cs r.1), (vi r.2)]) := by
 refine Fn.ends Try.func16 rfl rfl rfl rfl rfl rfl ?_
 have H : Hs (⟨0, fun _ => .none⟩ : Heap) [] := Has.nil (Nat.le_refl _)
 generalize (⟨0, fun _ => .none⟩ : Heap) = σ at H ⊢
 unfold gran_Get at h
 apply Runs.then
 refine .regionH 3 rfl H ?_; intro b1 σ H
 refine .boxH (cs := (vF f)) H (by omega) (by omega) rfl rfl rfl ?_; intro σ H
 refine .assign (v := .nils) rfl rfl (.assign (v := (vi 0)) rfl rfl ?_)
 apply Ops.nil
 replace H := H.all
 apply Runs.then
 apply Runs.then
 refine .regionH 3 rfl H ?_; intro b2 σ H
 refine .move (v := (vi i)) rfl rfl (.call (ys := [(vi i)]) (r := (vb (gran_inRange i))) rfl (gran_inRange_fn rfl) rfl (.not (b := (gran_inRange i)) rfl rfl ?_))
 apply Ops.nil
 replace H := H.all
 refine .whether (v := (!(gran_inRange i))) rfl ?_ ?_ <;> intro hc1
 ·replace h := cond_T hc1 h
  apply Runs.then
  refine .regionH 2 rfl H ?_; intro b3 σ H
  refine .assign (v := .nils) rfl rfl (.assign (v := (vi 20)) rfl rfl ?_)
  apply Ops.nil
  replace H := H.all
  apply Runs.ret
  replace h := Option.some.inj h; subst h
  exact (Ends.H (xs := [.nils, (vi 20)]) (.inr rfl) H (.tmp (v := .nils) rfl (.tmp (v := (vi 20)) rfl .nil)) (.two (.cons (.c .n) (.cons (.c (.v _)) .nil))))
 ·replace h := cond_F hc1 h
  apply Runs.skip
  apply Runs.then
  refine .regionH 10 rfl H ?_; intro b4 σ H
  refine .loadHA (off := 0) (cs := (vF f)) H 0 rfl rfl rfl rfl rfl rfl rfl nofun rfl (.move (v := (vi i)) rfl rfl ?_)
  obtain ⟨x1, q1, h⟩ := bind_some h
  refine .call (ys := [(.agg (vF f)), (vi i)]) (r := (.tup [(vl Span.cs x1.1), (vi x1.2.1), (vi x1.2.2)])) rfl (gran_kept_fn q1) rfl (.move (v := (.tup [(vl Span.cs x1.1), (vi x1.2.1), (vi x1.2.2)])) rfl rfl (.extract (v := (vl Span.cs x1.1)) rfl rfl rfl (.extract (v := (vi x1.2.1)) rfl rfl rfl ?_)))
  refine .extract (v := (vi x1.2.2)) rfl rfl rfl (.assign (v := (vl Span.cs x1.1)) rfl rfl (.assign (v := (vi x1.2.1)) rfl rfl (.assign (v := (vi x1.2.2)) rfl rfl ?_)))
  apply Ops.nil
  replace H := H.all
  apply Runs.then
  apply Runs.then
  refine .regionH 3 rfl H ?_; intro b5 σ H
  refine .move (v := (vl Span.cs x1.1)) rfl rfl (.lenPt (c := Span.cs) (xs := x1.1) rfl rfl rfl (.int (m := (x1.1.length : Int)) (m' := 0) (r := .bool ((x1.1.length : Int) == 0)) rfl rfl rfl rfl rfl ?_))
  apply Ops.nil
  replace H := H.all
  refine .whether (v := ((x1.1.length : Int) == 0)) rfl ?_ ?_ <;> intro hc2
  ·replace h := cond_T hc2 h
   apply Runs.then
   refine .regionH 2 rfl H ?_; intro b6 σ H
   refine .assign (v := .nils) rfl rfl (.assign (v := (vi 0)) rfl rfl ?_)
   apply Ops.nil
   replace H := H.all
   apply Runs.ret
   replace h := Option.some.inj h; subst h
   exact (Ends.H (xs := [.nils, (vi 0)]) (.inr rfl) H (.tmp (v := .nils) rfl (.tmp (v := (vi 0)) rfl .nil)) (.two (.cons (.c .n) (.cons (.c (.v _)) .nil))))
  ·replace h := cond_F hc2 h
   apply Runs.skip
   apply Runs.then
   apply Runs.then
   refine .regionH 2 rfl H ?_; intro b7 σ H
   refine .move (v := (vi x1.2.2)) rfl rfl (.int (m := x1.2.2) (m' := 0) (r := .bool (x1.2.2 != 0)) rfl rfl rfl rfl rfl ?_)
   apply Ops.nil
   replace H := H.all
   refine .whether (v := (x1.2.2 != 0)) rfl ?_ ?_ <;> intro hc3
   ·replace h := cond_T hc3 h
    apply Runs.then
    refine .regionH 2 rfl H ?_; intro b8 σ H
    refine .assign (v := .nils) rfl rfl (.assign (v := (vi 20)) rfl rfl ?_)
    apply Ops.nil
    replace H := H.all
    apply Runs.ret
    replace h := Option.some.inj h; subst h
    exact (Ends.H (xs := [.nils, (vi 20)]) (.inr rfl) H (.tmp (v := .nils) rfl (.tmp (v := (vi 20)) rfl .nil)) (.two (.cons (.c .n) (.cons (.c (.v _)) .nil))))
   ·replace h := cond_F hc3 h
    apply Runs.skip
    apply Runs.then
    refine .regionH 7 rfl H ?_; intro b9 σ H
    refine .move (v := (vl Span.cs x1.1)) rfl rfl (.move (v := (vi x1.2.1)) rfl rfl ?_)
    obtain ⟨x2, q2, h⟩ := bind_some h
    refine .call (ys := [(vl Span.cs x1.1), (vi x1.2.1)]) (r := (.tup [(vl Span.cs x2.1), (vi x2.2)])) rfl (spans_Move_fn q2) rfl (.extract (v := (vl Span.cs x2.1)) rfl rfl rfl (.extract (v := (vi x2.2)) rfl rfl rfl (.assign (v := (vl Span.cs x2.1)) rfl rfl ?_)))
    refine .assign (v := (vi x2.2)) rfl rfl ?_
    apply Ops.nil
    replace H := H.all
    apply Runs.ret
    replace h := Option.some.inj h; subst h
    exact (Ends.H (xs := [(vl Span.cs x2.1), (vi x2.2)]) (.inr rfl) H (.tmp (v := (vl Span.cs x2.1)) rfl (.tmp (v := (vi x2.2)) rfl .nil)) (.two (.cons (.c (.v _)) (.cons (.c (.v _)) .nil))))

theorem slices_IndexFunc_SSSpan_SSpan_fn {s : (List (List Span))} {f : (List Span) → Option Bool} {C : List Res} {cv0 : PV} (hs0 : cv0.still = true) (hp0 : cv0.pure = true → C = []) (hf0 : ∀ z0 y, f z0 = some y → CloH CX cv0 [(vl Span.cs z0)] (vb y) C) {r : Int} (h : slices_IndexFunc_SSSpan_SSpan s f = some r) : FnH CX 82 [(vl (cL Span.cs) s), cv0] (vi r) C := by
 refine FnH.of Try.func82 rfl rfl rfl rfl (all_t rfl (all_t hs0 all_nil)) rfl (fun h => hp0 (all_get h 1 rfl)) ?_
 intro σ L hC H
 unfold slices_IndexFunc_SSSpan_SSpan at h
 apply Runs.then
 refine .regionH 1 rfl H ?_; intro b1 σ H
 refine .assign (v := (vi 0)) rfl rfl ?_
 apply Ops.nil
 replace H := H.all
 apply Runs.then
 apply Runs.then
 refine .regionH 3 rfl H ?_; intro b2 σ H
 refine .move (v := (vl (cL Span.cs) s)) rfl rfl (.lenPt (c := (cL Span.cs)) (xs := s) rfl rfl rfl (.move (v := (vi 0)) rfl rfl ?_))
 apply Ops.nil
 replace H := H.all
 apply Runs.inBlock
 obtain ⟨y1, hj1, h⟩ := bind_some h
 obtain ⟨n1, hj1⟩ := loopO_iff.1 hj1
 refine .mono (Runs.loopO hj1 (fun s1 e σ => EnvHas e [(0, (vl (cL Span.cs) s)), (1, cv0), (7, (vi (s.length : Int))), (8, (vi s1))] ∧ Hs σ (L)) (fun y1 x e σ => (∃ a1, y1 = (.go a1) ∧ x = .exit 0 ∧ EnvHas e [] ∧ Hs σ (L)) ∨ (∃ r', y1 = (.ret r') ∧ x = .ret ∧ EndsH CX Try.f82.results.toList (vi r') L x e σ)) ⟨⟨rfl, rfl, rfl, rfl, trivial⟩, H⟩ ?_) ?_
 ·intro s1 e σ hI z h
  obtain ⟨he, H⟩ := hI
  obtain ⟨e, rfl⟩ := he.ex
  unfold slices_IndexFunc_SSSpan_SSpan.s0 at h
  apply Runs.then
  refine .regionH 1 rfl H ?_; intro b3 σ H
  refine .int (m := s1) (m' := (s.length : Int)) (r := .bool (decide (s1 < (s.length : Int)))) rfl rfl rfl rfl rfl ?_
  apply Ops.nil
  replace H := H.all
  apply Runs.then
  refine .whether (v := (decide (s1 < (s.length : Int)))) rfl ?_ ?_ <;> intro hc1
  ·replace h := cond_T hc1 h
   apply Runs.skip
   apply Runs.then
   apply Runs.inBlock
   apply Runs.then
   refine .regionH 2 rfl H ?_; intro b4 σ H
   refine .move (v := (vi s1)) rfl rfl (.assign (v := (vi s1)) rfl rfl ?_)
   apply Ops.nil
   replace H := H.all
   apply Runs.then
   refine .regionH 6 rfl H ?_; intro b5 σ H
   refine .move (v := cv0) rfl rfl (.move (v := (vl (cL Span.cs) s)) rfl rfl (.move (v := (vi s1)) rfl rfl ?_))
   obtain ⟨x1, q1, h⟩ := bind_some h
   refine .indexP (c := (cL Span.cs)) (u := x1) rfl rfl q1 rfl rfl rfl rfl (.loadP (u := (.sl (x1.map Span.cs))) rfl rfl rfl rfl ?_)
   obtain ⟨x2, q2, h⟩ := bind_some h
   refine .callV (cv := cv0) (ys := [(vl Span.cs x1)]) (r := (vb x2)) H rfl rfl (hf0 x1 _ q2) hC nofun rfl ?_; intro σ H
   apply Ops.nil
   replace H := H.all
   refine .whether (v := x2) rfl ?_ ?_ <;> intro hc2
   ·replace h := cond_T hc2 h
    apply Runs.then
    refine .regionH 2 rfl H ?_; intro b6 σ H
    refine .move (v := (vi s1)) rfl rfl (.assign (v := (vi s1)) rfl rfl ?_)
    apply Ops.nil
    replace H := H.all
    apply Runs.ret
    replace h := Option.some.inj h; subst h
    exact ⟨nofun, (.inr ⟨_, rfl, rfl, (EndsH.H (xs := [(vi s1)]) (.inr rfl) H (.tmp (v := (vi s1)) rfl .nil) (.one (.c (.v _))) 0 rfl)⟩)⟩
   ·replace h := cond_F hc2 h
    apply Runs.skip
    refine .regionH 2 rfl H ?_; intro b7 σ H
    refine .int (m := s1) (m' := 1) (r := .int .i64 (w64 (s1 + 1))) rfl rfl rfl rfl rfl (.move (v := (vi (w64 (s1 + 1)))) rfl rfl ?_)
    apply Ops.nil
    replace H := H.all
    replace h := Option.some.inj h; subst h
    exact ⟨rfl, ⟨rfl, rfl, rfl, rfl, trivial⟩, H⟩
  ·replace h := cond_F hc1 h
   apply Runs.exit
   replace h := Option.some.inj h; subst h
   exact ⟨nofun, (.inl ⟨_, rfl, rfl, trivial, H⟩)⟩
 ·rintro x e σ (⟨a2, rfl, rfl, he, H⟩ | ⟨r', rfl, rfl, hE⟩)
  ·skip
   replace h := jgo h
   obtain ⟨e, rfl⟩ := he.ex
   apply Runs.then
   refine .regionH 1 rfl H ?_; intro b8 σ H
   refine .assign (v := (vi (-1))) rfl rfl ?_
   apply Ops.nil
   replace H := H.all
   apply Runs.ret
   replace h := Option.some.inj h; subst h
   exact (EndsH.H (xs := [(vi (-1))]) (.inr rfl) H (.tmp (v := (vi (-1))) rfl .nil) (.one (.c (.v _))) 0 rfl)
  ·skip
   replace h := jret h
   replace h := Option.some.inj h; subst h
   exact hE

theorem slices_ContainsFunc_SSSpan_SSpan_fn {s : (List (List Span))} {f : (List Span) → Option Bool} {C : List Res} {cv0 : PV} (hs0 : cv0.still = true) (hp0 : cv0.pure = true → C = []) (hf0 : ∀ z0 y, f z0 = some y → CloH CX cv0 [(vl Span.cs z0)] (vb y) C) {r : Bool} (h : slices_ContainsFunc_SSSpan_SSpan s f = some r) : FnH CX 71 [(vl (cL Span.cs) s), cv0] (vb r) C := by
 refine FnH.of Try.func71 rfl rfl rfl rfl (all_t rfl (all_t hs0 all_nil)) rfl (fun h => hp0 (all_get h 1 rfl)) ?_
 intro σ L hC H
 unfold slices_ContainsFunc_SSSpan_SSpan at h
 apply Runs.then
 refine .regionH 1 rfl H ?_; intro b1 σ H
 refine .assign (v := (vb false)) rfl rfl ?_
 apply Ops.nil
 replace H := H.all
 apply Runs.then
 refine .regionH 5 rfl H ?_; intro b2 σ H
 refine .move (v := (vl (cL Span.cs) s)) rfl rfl (.move (v := cv0) rfl rfl ?_)
 obtain ⟨x1, q1, h⟩ := bind_some h
 refine .callH (ys := [(vl (cL Span.cs) s), cv0]) (r := (vi x1)) H rfl (slices_IndexFunc_SSSpan_SSpan_fn (C := C) hs0 hp0 hf0 q1) hC nofun rfl ?_; intro σ H
 refine .int (m := x1) (m' := 0) (r := .bool (decide (x1 ≥ 0))) rfl rfl rfl rfl rfl (.assign (v := (vb (decide (x1 ≥ 0)))) rfl rfl ?_)
 apply Ops.nil
 replace H := H.all
 apply Runs.ret
 replace h := Option.some.inj h; subst h
 exact (EndsH.H (xs := [(vb (decide (x1 ≥ 0)))]) (.inr rfl) H (.tmp (v := (vb (decide (x1 ≥ 0)))) rfl .nil) (.one (.c (.v _))) 0 rfl)

theorem gran_bare_1_fn {l : (List Span)} {r : Bool} (h : gran_bare_1 l = r) : Fn CX 72 [(vl Span.cs l)] (vb r) := by
 refine Fn.ends Try.func72 rfl rfl rfl rfl rfl rfl ?_
 have H : Hs (⟨0, fun _ => .none⟩ : Heap) [] := Has.nil (Nat.le_refl _)
 generalize (⟨0, fun _ => .none⟩ : Heap) = σ at H ⊢
 unfold gran_bare_1 at h
 apply Runs.then
 refine .regionH 1 rfl H ?_; intro b1 σ H
 refine .assign (v := (vb false)) rfl rfl ?_
 apply Ops.nil
 replace H := H.all
 apply Runs.then
 refine .regionH 4 rfl H ?_; intro b2 σ H
 refine .move (v := (vl Span.cs l)) rfl rfl (.lenPt (c := Span.cs) (xs := l) rfl rfl rfl (.int (m := (l.length : Int)) (m' := 0) (r := .bool (decide ((l.length : Int) > 0))) rfl rfl rfl rfl rfl (.assign (v := (vb (decide ((l.length : Int) > 0)))) rfl rfl ?_)))
 apply Ops.nil
 replace H := H.all
 apply Runs.ret
 subst h
 exact (Ends.H (xs := [(vb (decide ((l.length : Int) > 0)))]) (.inr rfl) H (.tmp (v := (vb (decide ((l.length : Int) > 0)))) rfl .nil) (.one (.c (.v _))))

theorem gran_bare_fn {f : Form} {r : Bool} (h : gran_bare f = some r) : Fn CX 59 [(.agg (vs (Form.cs f)))] (vb r) := by
 refine Fn.ends Try.func59 rfl rfl rfl rfl rfl rfl ?_
 have H : Hs (⟨0, fun _ => .none⟩ : Heap) [] := Has.nil (Nat.le_refl _)
 generalize (⟨0, fun _ => .none⟩ : Heap) = σ at H ⊢
 unfold gran_bare at h
 apply Runs.then
 refine .regionH 2 rfl H ?_; intro b1 σ H
 refine .boxH (cs := (vF f)) H (by omega) (by omega) rfl rfl rfl ?_; intro σ H
 refine .assign (v := (vb false)) rfl rfl ?_
 apply Ops.nil
 replace H := H.all
 apply Runs.then
 refine .regionH 5 rfl H ?_; intro b2 σ H
 refine .fieldAddrH (off := 0) (fo := 2) H 0 rfl rfl rfl rfl rfl nofun rfl (.loadH (off := 2) (v := (vl (cL Span.cs) f.Core)) H 0 rfl rfl rfl rfl rfl nofun rfl ?_)
 obtain ⟨x1, q1, h⟩ := bind_some h
 refine .callH (ys := [(vl (cL Span.cs) f.Core), (.v (.fn 72))]) (r := (vb x1)) H rfl (slices_ContainsFunc_SSSpan_SSpan_fn (C := []) rfl (fun _ => rfl) (fun z0 y hz => (CloH.fn (Fn.toH (gran_bare_1_fn (Option.some.inj hz)) _))) q1) .nil nofun rfl ?_; intro σ H
 refine .not (b := x1) rfl rfl (.assign (v := (vb (!x1))) rfl rfl ?_)
 apply Ops.nil
 replace H := H.all
 apply Runs.ret
 replace h := Option.some.inj h; subst h
 exact (Ends.H (xs := [(vb (!x1))]) (.inr rfl) H (.tmp (v := (vb (!x1))) rfl .nil) (.one (.c (.v _))))

theorem gran_some_fn {f : Form} {i : Int} {r : Bool} (h : gran_some f i = some r) : Fn CX 61 [(.agg (vs (Form.cs f))), (vi i)] (vb r) := by
 refine Fn.ends Try.func61 rfl rfl rfl rfl rfl rfl ?_
 have H : Hs (⟨0, fun _ => .none⟩ : Heap) [] := Has.nil (Nat.le_refl _)
 generalize (⟨0, fun _ => .none⟩ : Heap) = σ at H ⊢
 unfold gran_some at h
 apply Runs.then
 refine .regionH 2 rfl H ?_; intro b1 σ H
 refine .boxH (cs := (vF f)) H (by omega) (by omega) rfl rfl rfl ?_; intro σ H
 refine .assign (v := (vb false)) rfl rfl ?_
 apply Ops.nil
 replace H := H.all
 apply Runs.then
 refine .regionH 10 rfl H ?_; intro b2 σ H
 refine .loadHA (off := 0) (cs := (vF f)) H 0 rfl rfl rfl rfl rfl rfl rfl nofun rfl (.move (v := (vi i)) rfl rfl ?_)
 obtain ⟨x1, q1, h⟩ := bind_some h
 refine .call (ys := [(.agg (vF f)), (vi i)]) (r := (.tup [(vl Span.cs x1.1), (vi x1.2.1), (vi x1.2.2)])) rfl (gran_kept_fn q1) rfl (.move (v := (.tup [(vl Span.cs x1.1), (vi x1.2.1), (vi x1.2.2)])) rfl rfl (.extract (v := (vl Span.cs x1.1)) rfl rfl rfl (.extract (v := (vi x1.2.1)) rfl rfl rfl ?_)))
 refine .extract (v := (vi x1.2.2)) rfl rfl rfl (.assign (v := (vl Span.cs x1.1)) rfl rfl (.assign (v := (vi x1.2.1)) rfl rfl (.assign (v := (vi x1.2.2)) rfl rfl ?_)))
 apply Ops.nil
 replace H := H.all
 apply Runs.then
 refine .regionH 4 rfl H ?_; intro b3 σ H
 refine .move (v := (vl Span.cs x1.1)) rfl rfl (.lenPt (c := Span.cs) (xs := x1.1) rfl rfl rfl (.int (m := (x1.1.length : Int)) (m' := 0) (r := .bool (decide ((x1.1.length : Int) > 0))) rfl rfl rfl rfl rfl (.assign (v := (vb (decide ((x1.1.length : Int) > 0)))) rfl rfl ?_)))
 apply Ops.nil
 replace H := H.all
 apply Runs.ret
 replace h := Option.some.inj h; subst h
 exact (Ends.H (xs := [(vb (decide ((x1.1.length : Int) > 0)))]) (.inr rfl) H (.tmp (v := (vb (decide ((x1.1.length : Int) > 0)))) rfl .nil) (.one (.c (.v _))))

theorem gran_step_fn {f : Form} {from' : Int} {by' : Int} {r : Int × Bool} (h : gran_step f from' by' = some r) : Fn CX 38 [(.agg (vs (Form.cs f))), (vi from'), (vi by')] (.tup [(vi r.1), (vb r.2)]) := by
 refine Fn.ends Try.func38 rfl rfl rfl rfl rfl rfl ?_
 have H : Hs (⟨0, fun _ => .none⟩ : Heap) [] := Has.nil (Nat.le_refl _)
 generalize (⟨0, fun _ => .none⟩ : Heap) = σ at H ⊢
 unfold gran_step at h
 apply Runs.then
 refine .regionH 3 rfl H ?_; intro b1 σ H
 refine .boxH (cs := (vF f)) H (by omega) (by omega) rfl rfl rfl ?_; intro σ H
 refine .assign (v := (vi 0)) rfl rfl (.assign (v := (vb false)) rfl rfl ?_)
 apply Ops.nil
 replace H := H.all
 apply Runs.then
 apply Runs.then
 refine .regionH 2 rfl H ?_; intro b2 σ H
 refine .loadHA (off := 0) (cs := (vF f)) H 0 rfl rfl rfl rfl rfl rfl rfl nofun rfl ?_
 obtain ⟨x1, q1, h⟩ := bind_some h
 refine .call (ys := [(.agg (vF f))]) (r := (vb x1)) rfl (gran_bare_fn q1) rfl ?_
 apply Ops.nil
 replace H := H.all
 refine .whether (v := x1) rfl ?_ ?_ <;> intro hc1
 ·replace h := cond_T hc1 h
  apply Runs.then
  refine .regionH 8 rfl H ?_; intro b3 σ H
  refine .loadHA (off := 0) (cs := (vF f)) H 0 rfl rfl rfl rfl rfl rfl rfl nofun rfl (.move (v := (vi from')) rfl rfl ?_)
  obtain ⟨x2, q2, h⟩ := bind_some h
  refine .call (ys := [(.agg (vF f)), (vi from')]) (r := (.tup [(vi x2.1), (vb x2.2)])) rfl (gran_odd_fn q2) rfl (.move (v := (.tup [(vi x2.1), (vb x2.2)])) rfl rfl (.extract (v := (vi x2.1)) rfl rfl rfl (.extract (v := (vb x2.2)) rfl rfl rfl ?_)))
  refine .assign (v := (vi x2.1)) rfl rfl (.assign (v := (vb x2.2)) rfl rfl ?_)
  apply Ops.nil
  replace H := H.all
  apply Runs.then
  obtain ⟨y1, hj1, h⟩ := bind_some h
  refine .mono (Q := fun x e σ => x = .normal ∧ EnvHas e [(2, (vi by')), (3, (.ptr (b1 + 0) 4 0)), (8, (vi y1))] ∧ Hs σ [.blk (b1 + 0) 25 (vF f)]) ?_ ?_
  ·replace h := hj1
   apply Runs.then
   refine .regionH 6 rfl H ?_; intro b4 σ H
   refine .move (v := (vi by')) rfl rfl (.int (m := by') (m' := 0) (r := .bool (decide (by' < 0))) rfl rfl rfl rfl rfl (.move (v := (vb (decide (by' < 0)))) rfl rfl ?_))
   refine .mid 3 (K1 := fun e σ => EnvHas e [(24, (vb ((decide (by' < 0)) && (!x2.2)))), (2, (vi by')), (3, (.ptr (b1 + 0) 4 0)), (8, (vi x2.1))] ∧ Has σ (b4 + 6) (b4 + 6) [.blk (b1 + 0) 25 (vF f)]) rfl ?_ ?_
   ·refine .split rfl rfl ?_ ?_ <;> intro hc2
    ·skip
     refine .wanted rfl rfl (.move (v := (vb x2.2)) rfl rfl (.wanted rfl rfl (.not (b := x2.2) rfl rfl ?_)))
     refine .pickT (v := (vb (!x2.2))) rfl rfl rfl ?_
     apply Ops.nil
     exact ⟨⟨and_T hc2, rfl, rfl, rfl, trivial⟩, H.weak (by omega) (Nat.le_refl _)⟩
    ·skip
     refine .pass rfl rfl rfl (.pass rfl rfl rfl (.pickF (v := (vb false)) rfl rfl rfl ?_))
     apply Ops.nil
     exact ⟨⟨and_F hc2, rfl, rfl, rfl, trivial⟩, H.weak (by omega) (Nat.le_refl _)⟩
   ·rintro e σ ⟨he, H⟩
    obtain ⟨e, rfl⟩ := he.ex
    apply Ops.nil
    replace H := H.all
    refine .whether (v := ((decide (by' < 0)) && (!x2.2))) rfl ?_ ?_ <;> intro hc3
    ·replace h := cond_T hc3 h
     refine .regionH 3 rfl H ?_; intro b5 σ H
     refine .move (v := (vi x2.1)) rfl rfl (.int (m := x2.1) (m' := 1) (r := .int .i64 (w64 (x2.1 - 1))) rfl rfl rfl rfl rfl (.assign (v := (vi (w64 (x2.1 - 1)))) rfl rfl ?_))
     apply Ops.nil
     replace H := H.all
     replace h := Option.some.inj h; subst h
     exact ⟨rfl, ⟨rfl, rfl, rfl, trivial⟩, H⟩
    ·replace h := cond_F hc3 h
     apply Runs.skip
     replace h := Option.some.inj h; subst h
     exact ⟨rfl, ⟨rfl, rfl, rfl, trivial⟩, H⟩
  ·rintro x e σ ⟨rfl, he, H⟩
   obtain ⟨e, rfl⟩ := he.ex
   apply Runs.then
   apply Runs.inBlock
   obtain ⟨y2, hj2, h⟩ := bind_some h
   obtain ⟨n1, hj2⟩ := loopO_iff.1 hj2
   refine .mono (Runs.loopO hj2 (fun s1 e σ => EnvHas e [(2, (vi by')), (3, (.ptr (b1 + 0) 4 0)), (8, (vi s1))] ∧ Hs σ [.blk (b1 + 0) 25 (vF f)]) (fun y2 x e σ => (∃ a1, y2 = (.go a1) ∧ x = .exit 0 ∧ EnvHas e [] ∧ Hs σ []) ∨ (∃ r', y2 = (.ret r') ∧ x = .ret ∧ Ends CX Try.f38.results.toList (.tup [(vi r'.1), (vb r'.2)]) x e σ)) ⟨⟨rfl, rfl, rfl, trivial⟩, H⟩ ?_) ?_
   ·intro s1 e σ hI z h
    obtain ⟨he, H⟩ := hI
    obtain ⟨e, rfl⟩ := he.ex
    unfold gran_step.s0 at h
    apply Runs.then
    apply Runs.then
    refine .regionH 9 rfl H ?_; intro b6 σ H
    refine .move (v := (vi s1)) rfl rfl (.int (m := s1) (m' := 0) (r := .bool (decide (s1 ≥ 0))) rfl rfl rfl rfl rfl (.move (v := (vb (decide (s1 ≥ 0)))) rfl rfl ?_))
    refine .mid 6 (K1 := fun e σ => EnvHas e [(35, (vb ((decide (s1 ≥ 0)) && (decide (s1 < (f.Odd.length : Int)))))), (2, (vi by')), (3, (.ptr (b1 + 0) 4 0)), (8, (vi s1))] ∧ Has σ (b6 + 9) (b6 + 9) [.blk (b1 + 0) 25 (vF f)]) rfl ?_ ?_
    ·refine .split rfl rfl ?_ ?_ <;> intro hc4
     ·skip
      refine .wanted rfl rfl (.move (v := (vi s1)) rfl rfl (.wanted rfl rfl (.fieldAddrH (off := 0) (fo := 3) H 0 rfl rfl rfl rfl rfl nofun rfl ?_)))
      refine .wanted rfl rfl (.loadH (off := 3) (v := (vl Granule.cs f.Odd)) H 0 rfl rfl rfl rfl rfl nofun rfl (.wanted rfl rfl (.lenPt (c := Granule.cs) (xs := f.Odd) rfl rfl rfl ?_)))
      refine .wanted rfl rfl (.int (m := s1) (m' := (f.Odd.length : Int)) (r := .bool (decide (s1 < (f.Odd.length : Int)))) rfl rfl rfl rfl rfl (.pickT (v := (vb (decide (s1 < (f.Odd.length : Int))))) rfl rfl rfl ?_))
      apply Ops.nil
      exact ⟨⟨and_T hc4, rfl, rfl, rfl, trivial⟩, H.weak (by omega) (Nat.le_refl _)⟩
     ·skip
      refine .pass rfl rfl rfl (.pass rfl rfl rfl (.pass rfl rfl rfl (.pass rfl rfl rfl ?_)))
      refine .pass rfl rfl rfl (.pickF (v := (vb false)) rfl rfl rfl ?_)
      apply Ops.nil
      exact ⟨⟨and_F hc4, rfl, rfl, rfl, trivial⟩, H.weak (by omega) (Nat.le_refl _)⟩
    ·rintro e σ ⟨he, H⟩
     obtain ⟨e, rfl⟩ := he.ex
     apply Ops.nil
     replace H := H.all
     refine .whether (v := ((decide (s1 ≥ 0)) && (decide (s1 < (f.Odd.length : Int))))) rfl ?_ ?_ <;> intro hc5
     ·replace h := cond_T hc5 h
      apply Runs.skip
      apply Runs.then
      apply Runs.inBlock
      apply Runs.then
      refine .regionH 8 rfl H ?_; intro b7 σ H
      refine .fieldAddrH (off := 0) (fo := 3) H 0 rfl rfl rfl rfl rfl nofun rfl (.loadH (off := 3) (v := (vl Granule.cs f.Odd)) H 0 rfl rfl rfl rfl rfl nofun rfl (.move (v := (vi s1)) rfl rfl ?_))
      obtain ⟨x3, q3, h⟩ := bind_some h
      refine .indexP (c := Granule.cs) (u := x3) rfl rfl q3 rfl rfl rfl rfl (.fieldAddrP rfl rfl rfl rfl (.loadP (u := (.sl (x3.Ticks.map Span.cs))) rfl rfl rfl rfl (.lenPt (c := Span.cs) (xs := x3.Ticks) rfl rfl rfl ?_)))
      refine .int (m := (x3.Ticks.length : Int)) (m' := 0) (r := .bool (decide ((x3.Ticks.length : Int) > 0))) rfl rfl rfl rfl rfl ?_
      apply Ops.nil
      replace H := H.all
      refine .whether (v := (decide ((x3.Ticks.length : Int) > 0))) rfl ?_ ?_ <;> intro hc6
      ·replace h := cond_T hc6 h
       apply Runs.then
       refine .regionH 8 rfl H ?_; intro b8 σ H
       refine .fieldAddrH (off := 0) (fo := 3) H 0 rfl rfl rfl rfl rfl nofun rfl (.loadH (off := 3) (v := (vl Granule.cs f.Odd)) H 0 rfl rfl rfl rfl rfl nofun rfl (.move (v := (vi s1)) rfl rfl ?_))
       obtain ⟨x4, q4, h⟩ := bind_some h
       refine .indexP (c := Granule.cs) (u := x4) rfl rfl q4 rfl rfl rfl rfl (.fieldAddrP rfl rfl rfl rfl (.loadP (u := (.int .i64 x4.Index)) rfl rfl rfl rfl (.assign (v := (vi x4.Index)) rfl rfl ?_)))
       refine .assign (v := (vb true)) rfl rfl ?_
       apply Ops.nil
       replace H := H.all
       apply Runs.ret
       replace h := Option.some.inj h; subst h
       exact ⟨nofun, (.inr ⟨_, rfl, rfl, (Ends.H (xs := [(vi x4.Index), (vb true)]) (.inr rfl) H (.tmp (v := (vi x4.Index)) rfl (.tmp (v := (vb true)) rfl .nil)) (.two (.cons (.c (.v _)) (.cons (.c (.v _)) .nil))))⟩)⟩
      ·replace h := cond_F hc6 h
       apply Runs.skip
       refine .regionH 4 rfl H ?_; intro b9 σ H
       refine .move (v := (vi s1)) rfl rfl (.move (v := (vi by')) rfl rfl (.int (m := s1) (m' := by') (r := .int .i64 (w64 (s1 + by'))) rfl rfl rfl rfl rfl (.assign (v := (vi (w64 (s1 + by')))) rfl rfl ?_)))
       apply Ops.nil
       replace H := H.all
       replace h := Option.some.inj h; subst h
       exact ⟨rfl, ⟨rfl, rfl, rfl, trivial⟩, H⟩
     ·replace h := cond_F hc5 h
      apply Runs.exit
      replace h := Option.some.inj h; subst h
      exact ⟨nofun, (.inl ⟨_, rfl, rfl, trivial, (H.erase 0)⟩)⟩
   ·rintro x e σ (⟨a2, rfl, rfl, he, H⟩ | ⟨r', rfl, rfl, hE⟩)
    ·skip
     replace h := jgo h
     obtain ⟨e, rfl⟩ := he.ex
     apply Runs.then
     refine .regionH 2 rfl H ?_; intro b10 σ H
     refine .assign (v := (vi 0)) rfl rfl (.assign (v := (vb false)) rfl rfl ?_)
     apply Ops.nil
     replace H := H.all
     apply Runs.ret
     replace h := Option.some.inj h; subst h
     exact (Ends.H (xs := [(vi 0), (vb false)]) (.inr rfl) H (.tmp (v := (vi 0)) rfl (.tmp (v := (vb false)) rfl .nil)) (.two (.cons (.c (.v _)) (.cons (.c (.v _)) .nil))))
    ·skip
     replace h := jret h
     replace h := Option.some.inj h; subst h
     exact hE
 ·replace h := cond_F hc1 h
  apply Runs.skip
  apply Runs.then
  apply Runs.then
  refine .regionH 2 rfl H ?_; intro b11 σ H
  refine .move (v := (vi from')) rfl rfl (.assign (v := (vi from')) rfl rfl ?_)
  apply Ops.nil
  replace H := H.all
  apply Runs.inBlock
  obtain ⟨y3, hj3, h⟩ := bind_some h
  obtain ⟨n2, hj3⟩ := loopO_iff.1 hj3
  refine .mono (Runs.loopO hj3 (fun s2 e σ => EnvHas e [(2, (vi by')), (3, (.ptr (b1 + 0) 4 0)), (10, (vi s2))] ∧ Hs σ [.blk (b1 + 0) 25 (vF f)]) (fun y3 x e σ => (∃ a3, y3 = (.go a3) ∧ x = .exit 2 ∧ EnvHas e [] ∧ Hs σ []) ∨ (∃ r', y3 = (.ret r') ∧ x = .ret ∧ Ends CX Try.f38.results.toList (.tup [(vi r'.1), (vb r'.2)]) x e σ)) ⟨⟨rfl, rfl, rfl, trivial⟩, H⟩ ?_) ?_
  ·intro s2 e σ hI z h
   obtain ⟨he, H⟩ := hI
   obtain ⟨e, rfl⟩ := he.ex
   unfold gran_step.s1 at h
   apply Runs.then
   apply Runs.then
   refine .regionH 2 rfl H ?_; intro b12 σ H
   refine .move (v := (vi s2)) rfl rfl (.call (ys := [(vi s2)]) (r := (vb (gran_inRange s2))) rfl (gran_inRange_fn rfl) rfl ?_)
   apply Ops.nil
   replace H := H.all
   refine .whether (v := (gran_inRange s2)) rfl ?_ ?_ <;> intro hc7
   ·replace h := cond_T hc7 h
    apply Runs.skip
    apply Runs.then
    apply Runs.inBlock
    apply Runs.then
    refine .regionH 3 rfl H ?_; intro b13 σ H
    refine .loadHA (off := 0) (cs := (vF f)) H 0 rfl rfl rfl rfl rfl rfl rfl nofun rfl (.move (v := (vi s2)) rfl rfl ?_)
    obtain ⟨x5, q5, h⟩ := bind_some h
    refine .call (ys := [(.agg (vF f)), (vi s2)]) (r := (vb x5)) rfl (gran_some_fn q5) rfl ?_
    apply Ops.nil
    replace H := H.all
    refine .whether (v := x5) rfl ?_ ?_ <;> intro hc8
    ·replace h := cond_T hc8 h
     apply Runs.then
     refine .regionH 3 rfl H ?_; intro b14 σ H
     refine .move (v := (vi s2)) rfl rfl (.assign (v := (vi s2)) rfl rfl (.assign (v := (vb true)) rfl rfl ?_))
     apply Ops.nil
     replace H := H.all
     apply Runs.ret
     replace h := Option.some.inj h; subst h
     exact ⟨nofun, (.inr ⟨_, rfl, rfl, (Ends.H (xs := [(vi s2), (vb true)]) (.inr rfl) H (.tmp (v := (vi s2)) rfl (.tmp (v := (vb true)) rfl .nil)) (.two (.cons (.c (.v _)) (.cons (.c (.v _)) .nil))))⟩)⟩
    ·replace h := cond_F hc8 h
     apply Runs.skip
     refine .regionH 4 rfl H ?_; intro b15 σ H
     refine .move (v := (vi s2)) rfl rfl (.move (v := (vi by')) rfl rfl (.int (m := s2) (m' := by') (r := .int .i64 (w64 (s2 + by'))) rfl rfl rfl rfl rfl (.assign (v := (vi (w64 (s2 + by')))) rfl rfl ?_)))
     apply Ops.nil
     replace H := H.all
     replace h := Option.some.inj h; subst h
     exact ⟨rfl, ⟨rfl, rfl, rfl, trivial⟩, H⟩
   ·replace h := cond_F hc7 h
    apply Runs.exit
    replace h := Option.some.inj h; subst h
    exact ⟨nofun, (.inl ⟨_, rfl, rfl, trivial, (H.erase 0)⟩)⟩
  ·rintro x e σ (⟨a4, rfl, rfl, he, H⟩ | ⟨r', rfl, rfl, hE⟩)
   ·skip
    replace h := jgo h
    obtain ⟨e, rfl⟩ := he.ex
    apply Runs.then
    refine .regionH 2 rfl H ?_; intro b16 σ H
    refine .assign (v := (vi 0)) rfl rfl (.assign (v := (vb false)) rfl rfl ?_)
    apply Ops.nil
    replace H := H.all
    apply Runs.ret
    replace h := Option.some.inj h; subst h
    exact (Ends.H (xs := [(vi 0), (vb false)]) (.inr rfl) H (.tmp (v := (vi 0)) rfl (.tmp (v := (vb false)) rfl .nil)) (.two (.cons (.c (.v _)) (.cons (.c (.v _)) .nil))))
   ·skip
    replace h := jret h
    replace h := Option.some.inj h; subst h
    exact hE

theorem gran_Before_fn {f : Form} {i : Int} {r : Int × Bool} (h : gran_Before f i = some r) : Fn CX 15 [(.agg (vs (Form.cs f))), (vi i)] (.tup [(vi r.1), (vb r.2)]) := by
 refine Fn.ends Try.func15 rfl rfl rfl rfl rfl rfl ?_
 have H : Hs (⟨0, fun _ => .none⟩ : Heap) [] := Has.nil (Nat.le_refl _)
 generalize (⟨0, fun _ => .none⟩ : Heap) = σ at H ⊢
 unfold gran_Before at h
 apply Runs.then
 refine .regionH 3 rfl H ?_; intro b1 σ H
 refine .boxH (cs := (vF f)) H (by omega) (by omega) rfl rfl rfl ?_; intro σ H
 refine .assign (v := (vi 0)) rfl rfl (.assign (v := (vb false)) rfl rfl ?_)
 apply Ops.nil
 replace H := H.all
 apply Runs.then
 apply Runs.then
 refine .regionH 2 rfl H ?_; intro b2 σ H
 refine .move (v := (vi i)) rfl rfl (.int (m := i) (m' := (-1099511627776)) (r := .bool (decide (i ≤ (-1099511627776)))) rfl rfl rfl rfl rfl ?_)
 apply Ops.nil
 replace H := H.all
 refine .whether (v := (decide (i ≤ (-1099511627776)))) rfl ?_ ?_ <;> intro hc1
 ·replace h := cond_T hc1 h
  apply Runs.then
  refine .regionH 2 rfl H ?_; intro b3 σ H
  refine .assign (v := (vi 0)) rfl rfl (.assign (v := (vb false)) rfl rfl ?_)
  apply Ops.nil
  replace H := H.all
  apply Runs.ret
  replace h := Option.some.inj h; subst h
  exact (Ends.H (xs := [(vi 0), (vb false)]) (.inr rfl) H (.tmp (v := (vi 0)) rfl (.tmp (v := (vb false)) rfl .nil)) (.two (.cons (.c (.v _)) (.cons (.c (.v _)) .nil))))
 ·replace h := cond_F hc1 h
  apply Runs.skip
  apply Runs.then
  refine .regionH 9 rfl H ?_; intro b4 σ H
  refine .loadHA (off := 0) (cs := (vF f)) H 0 rfl rfl rfl rfl rfl rfl rfl nofun rfl (.move (v := (vi i)) rfl rfl (.int (m := i) (m' := 1) (r := .int .i64 (w64 (i - 1))) rfl rfl rfl rfl rfl (.min2 rfl rfl rfl ?_)))
  obtain ⟨x1, q1, h⟩ := bind_some h
  refine .call (ys := [(.agg (vF f)), (vi (iMin (w64 (i - 1)) 1099511627776)), (vi (-1))]) (r := (.tup [(vi x1.1), (vb x1.2)])) rfl (gran_step_fn q1) rfl (.extract (v := (vi x1.1)) rfl rfl rfl (.extract (v := (vb x1.2)) rfl rfl rfl (.assign (v := (vi x1.1)) rfl rfl ?_)))
  refine .assign (v := (vb x1.2)) rfl rfl ?_
  apply Ops.nil
  replace H := H.all
  apply Runs.ret
  replace h := Option.some.inj h; subst h
  exact (Ends.H (xs := [(vi x1.1), (vb x1.2)]) (.inr rfl) H (.tmp (v := (vi x1.1)) rfl (.tmp (v := (vb x1.2)) rfl .nil)) (.two (.cons (.c (.v _)) (.cons (.c (.v _)) .nil))))

theorem gran_Behind_fn {f : Form} {i : Int} {r : Int × Bool} (h : gran_Behind f i = some r) : Fn CX 14 [(.agg (vs (Form.cs f))), (vi i)] (.tup [(vi r.1), (vb r.2)]) := by
 refine Fn.ends Try.func14 rfl rfl rfl rfl rfl rfl ?_
 have H : Hs (⟨0, fun _ => .none⟩ : Heap) [] := Has.nil (Nat.le_refl _)
 generalize (⟨0, fun _ => .none⟩ : Heap) = σ at H ⊢
 unfold gran_Behind at h
 apply Runs.then
 refine .regionH 3 rfl H ?_; intro b1 σ H
 refine .boxH (cs := (vF f)) H (by omega) (by omega) rfl rfl rfl ?_; intro σ H
 refine .assign (v := (vi 0)) rfl rfl (.assign (v := (vb false)) rfl rfl ?_)
 apply Ops.nil
 replace H := H.all
 apply Runs.then
 apply Runs.then
 refine .regionH 2 rfl H ?_; intro b2 σ H
 refine .move (v := (vi i)) rfl rfl (.int (m := i) (m' := 1099511627776) (r := .bool (decide (i ≥ 1099511627776))) rfl rfl rfl rfl rfl ?_)
 apply Ops.nil
 replace H := H.all
 refine .whether (v := (decide (i ≥ 1099511627776))) rfl ?_ ?_ <;> intro hc1
 ·replace h := cond_T hc1 h
  apply Runs.then
  refine .regionH 2 rfl H ?_; intro b3 σ H
  refine .assign (v := (vi 0)) rfl rfl (.assign (v := (vb false)) rfl rfl ?_)
  apply Ops.nil
  replace H := H.all
  apply Runs.ret
  replace h := Option.some.inj h; subst h
  exact (Ends.H (xs := [(vi 0), (vb false)]) (.inr rfl) H (.tmp (v := (vi 0)) rfl (.tmp (v := (vb false)) rfl .nil)) (.two (.cons (.c (.v _)) (.cons (.c (.v _)) .nil))))
 ·replace h := cond_F hc1 h
  apply Runs.skip
  apply Runs.then
  refine .regionH 9 rfl H ?_; intro b4 σ H
  refine .loadHA (off := 0) (cs := (vF f)) H 0 rfl rfl rfl rfl rfl rfl rfl nofun rfl (.move (v := (vi i)) rfl rfl (.int (m := i) (m' := 1) (r := .int .i64 (w64 (i + 1))) rfl rfl rfl rfl rfl (.max2 rfl rfl rfl ?_)))
  obtain ⟨x1, q1, h⟩ := bind_some h
  refine .call (ys := [(.agg (vF f)), (vi (iMax (w64 (i + 1)) (-1099511627776))), (vi 1)]) (r := (.tup [(vi x1.1), (vb x1.2)])) rfl (gran_step_fn q1) rfl (.extract (v := (vi x1.1)) rfl rfl rfl (.extract (v := (vb x1.2)) rfl rfl rfl (.assign (v := (vi x1.1)) rfl rfl ?_)))
  refine .assign (v := (vb x1.2)) rfl rfl ?_
  apply Ops.nil
  replace H := H.all
  apply Runs.ret
  replace h := Option.some.inj h; subst h
  exact (Ends.H (xs := [(vi x1.1), (vb x1.2)]) (.inr rfl) H (.tmp (v := (vi x1.1)) rfl (.tmp (v := (vb x1.2)) rfl .nil)) (.two (.cons (.c (.v _)) (.cons (.c (.v _)) .nil))))

theorem spans_Ahead_fn {a : (List Span)} {b : (List Span)} {r : Bool} (h : spans_Ahead a b = some r) : Fn CX 19 [(vl Span.cs a), (vl Span.cs b)] (vb r) := by
 refine Fn.ends Try.func19 rfl rfl rfl rfl rfl rfl ?_
 have H : Hs (⟨0, fun _ => .none⟩ : Heap) [] := Has.nil (Nat.le_refl _)
 generalize (⟨0, fun _ => .none⟩ : Heap) = σ at H ⊢
 unfold spans_Ahead at h
 apply Runs.then
 refine .regionH 1 rfl H ?_; intro b1 σ H
 refine .assign (v := (vb false)) rfl rfl ?_
 apply Ops.nil
 replace H := H.all
 apply Runs.then
 refine .drawnH 23 rfl (by kernel_rfl) H ?_; intro b2 σ H B2
 refine .move (v := (vl Span.cs a)) rfl rfl (.lenPt (c := Span.cs) (xs := a) rfl rfl rfl (.int (m := (a.length : Int)) (m' := 0) (r := .bool ((a.length : Int) == 0)) rfl rfl rfl rfl rfl (.move (v := (vb ((a.length : Int) == 0))) rfl rfl ?_)))
 refine .mid 4 (K1 := fun e σ => EnvHas e [(12, (vb (((a.length : Int) == 0) || ((b.length : Int) == 0)))), (0, (vl Span.cs a)), (1, (vl Span.cs b))] ∧ Has σ (b2 + 8) (b2 + 23) []) rfl ?_ ?_
 ·refine .split rfl rfl ?_ ?_ <;> intro hc1
  ·skip
   refine .pass rfl rfl rfl (.pass rfl rfl rfl (.pass rfl rfl rfl (.pickT (v := (vb true)) rfl rfl rfl ?_)))
   apply Ops.nil
   exact ⟨⟨or_T hc1, rfl, rfl, trivial⟩, H.weak (by omega) (Nat.le_refl _)⟩
  ·skip
   refine .wanted rfl rfl (.move (v := (vl Span.cs b)) rfl rfl (.wanted rfl rfl (.lenPt (c := Span.cs) (xs := b) rfl rfl rfl ?_)))
   refine .wanted rfl rfl (.int (m := (b.length : Int)) (m' := 0) (r := .bool ((b.length : Int) == 0)) rfl rfl rfl rfl rfl (.pickF (v := (vb ((b.length : Int) == 0))) rfl rfl rfl ?_))
   apply Ops.nil
   exact ⟨⟨or_F hc1, rfl, rfl, trivial⟩, H.weak (by omega) (Nat.le_refl _)⟩
 ·rintro e σ ⟨he, H⟩
  obtain ⟨e, rfl⟩ := he.ex
  refine .move (v := (vb (((a.length : Int) == 0) || ((b.length : Int) == 0)))) rfl rfl ?_
  obtain ⟨y1, hj1, h⟩ := bind_some h
  refine .mid 13 (K1 := fun e σ => EnvHas e [(26, (vb y1))] ∧ Has σ (b2 + 22) (b2 + 23) []) rfl ?_ ?_
  ·refine .split rfl rfl ?_ ?_ <;> intro hc2
   ·replace h := cond_T hc2 hj1
    refine .pass rfl rfl rfl (.pass rfl rfl rfl (.pass rfl rfl rfl (.pass rfl rfl rfl ?_)))
    refine .pass rfl rfl rfl (.pass rfl rfl rfl (.pass rfl rfl rfl (.pass rfl rfl rfl ?_)))
    refine .pass rfl rfl rfl (.pass rfl rfl rfl (.pass rfl rfl rfl (.pass rfl rfl rfl ?_)))
    refine .pickT (v := (vb true)) rfl rfl rfl ?_
    apply Ops.nil
    replace h := Option.some.inj h; subst h
    exact ⟨⟨rfl, trivial⟩, H.weak (by omega) (Nat.le_refl _)⟩
   ·replace h := cond_F hc2 hj1
    refine .wanted rfl rfl (.move (v := (vl Span.cs a)) rfl rfl (.wanted rfl rfl (.move (v := (vl Span.cs a)) rfl rfl ?_)))
    refine .wanted rfl rfl (.lenPt (c := Span.cs) (xs := a) rfl rfl rfl (.wanted rfl rfl (.int (m := (a.length : Int)) (m' := 1) (r := .int .i64 (w64 ((a.length : Int) - 1))) rfl rfl rfl rfl rfl ?_)))
    refine .wanted rfl rfl ?_
    obtain ⟨x1, q1, h⟩ := bind_some h
    refine .indexP (c := Span.cs) (u := x1) rfl rfl q1 rfl rfl rfl rfl (.wanted rfl rfl (.fieldAddrP rfl rfl rfl rfl (.wanted rfl rfl ?_)))
    refine .loadP (u := (.int .i64 x1.To)) rfl rfl rfl rfl (.wanted rfl rfl (.move (v := (vl Span.cs b)) rfl rfl (.wanted rfl rfl ?_)))
    obtain ⟨x2, q2, h⟩ := bind_some h
    refine .indexP (c := Span.cs) (u := x2) rfl rfl q2 rfl rfl rfl rfl (.wanted rfl rfl (.fieldAddrP rfl rfl rfl rfl (.wanted rfl rfl ?_)))
    refine .loadP (u := (.int .i64 x2.From)) rfl rfl rfl rfl (.wanted rfl rfl (.int (m := x1.To) (m' := x2.From) (r := .bool (decide (x1.To < x2.From))) rfl rfl rfl rfl rfl (.pickF (v := (vb (decide (x1.To < x2.From)))) rfl rfl rfl ?_)))
    apply Ops.nil
    replace h := Option.some.inj h; subst h
    exact ⟨⟨rfl, trivial⟩, H.weak (by omega) (Nat.le_refl _)⟩
  ·rintro e σ ⟨he, H⟩
   obtain ⟨e, rfl⟩ := he.ex
   refine .assign (v := (vb y1)) rfl rfl ?_
   apply Ops.nil
   replace H := H.all
   apply Runs.ret
   replace h := Option.some.inj h; subst h
   exact (Ends.H (xs := [(vb y1)]) (.inr rfl) H (.tmp (v := (vb y1)) rfl .nil) (.one (.c (.v _))))

theorem gran_beside_fn {f : Form} {i : Int} {r : Bool} (h : gran_beside f i = some r) : Fn CX 58 [(.agg (vs (Form.cs f))), (vi i)] (vb r) := by
 refine Fn.ends Try.func58 rfl rfl rfl rfl rfl rfl ?_
 have H : Hs (⟨0, fun _ => .none⟩ : Heap) [] := Has.nil (Nat.le_refl _)
 generalize (⟨0, fun _ => .none⟩ : Heap) = σ at H ⊢
 unfold gran_beside at h
 apply Runs.then
 refine .regionH 2 rfl H ?_; intro b1 σ H
 refine .boxH (cs := (vF f)) H (by omega) (by omega) rfl rfl rfl ?_; intro σ H
 refine .assign (v := (vb false)) rfl rfl ?_
 apply Ops.nil
 replace H := H.all
 apply Runs.then
 refine .regionH 8 rfl H ?_; intro b2 σ H
 refine .loadHA (off := 0) (cs := (vF f)) H 0 rfl rfl rfl rfl rfl rfl rfl nofun rfl (.move (v := (vi i)) rfl rfl ?_)
 obtain ⟨x1, q1, h⟩ := bind_some h
 refine .call (ys := [(.agg (vF f)), (vi i)]) (r := (.tup [(vl Span.cs x1.1), (vi x1.2)])) rfl (gran_Get_fn q1) rfl (.move (v := (.tup [(vl Span.cs x1.1), (vi x1.2)])) rfl rfl (.extract (v := (vl Span.cs x1.1)) rfl rfl rfl (.extract (v := (vi x1.2)) rfl rfl rfl ?_)))
 refine .assign (v := (vl Span.cs x1.1)) rfl rfl (.assign (v := (vi x1.2)) rfl rfl ?_)
 apply Ops.nil
 replace H := H.all
 apply Runs.then
 apply Runs.then
 refine .regionH 2 rfl H ?_; intro b3 σ H
 refine .move (v := (vi x1.2)) rfl rfl (.int (m := x1.2) (m' := 0) (r := .bool (x1.2 != 0)) rfl rfl rfl rfl rfl ?_)
 apply Ops.nil
 replace H := H.all
 refine .whether (v := (x1.2 != 0)) rfl ?_ ?_ <;> intro hc1
 ·replace h := cond_T hc1 h
  apply Runs.then
  refine .regionH 1 rfl H ?_; intro b4 σ H
  refine .assign (v := (vb false)) rfl rfl ?_
  apply Ops.nil
  replace H := H.all
  apply Runs.ret
  replace h := Option.some.inj h; subst h
  exact (Ends.H (xs := [(vb false)]) (.inr rfl) H (.tmp (v := (vb false)) rfl .nil) (.one (.c (.v _))))
 ·replace h := cond_F hc1 h
  apply Runs.skip
  apply Runs.then
  refine .regionH 8 rfl H ?_; intro b5 σ H
  refine .loadHA (off := 0) (cs := (vF f)) H 0 rfl rfl rfl rfl rfl rfl rfl nofun rfl (.move (v := (vi i)) rfl rfl ?_)
  obtain ⟨x2, q2, h⟩ := bind_some h
  refine .call (ys := [(.agg (vF f)), (vi i)]) (r := (.tup [(vi x2.1), (vb x2.2)])) rfl (gran_Before_fn q2) rfl (.move (v := (.tup [(vi x2.1), (vb x2.2)])) rfl rfl (.extract (v := (vi x2.1)) rfl rfl rfl (.extract (v := (vb x2.2)) rfl rfl rfl ?_)))
  refine .assign (v := (vi x2.1)) rfl rfl (.assign (v := (vb x2.2)) rfl rfl ?_)
  apply Ops.nil
  replace H := H.all
  apply Runs.then
  refine .regionH 8 rfl H ?_; intro b6 σ H
  refine .loadHA (off := 0) (cs := (vF f)) H 0 rfl rfl rfl rfl rfl rfl rfl nofun rfl (.move (v := (vi i)) rfl rfl ?_)
  obtain ⟨x3, q3, h⟩ := bind_some h
  refine .call (ys := [(.agg (vF f)), (vi i)]) (r := (.tup [(vi x3.1), (vb x3.2)])) rfl (gran_Behind_fn q3) rfl (.move (v := (.tup [(vi x3.1), (vb x3.2)])) rfl rfl (.extract (v := (vi x3.1)) rfl rfl rfl (.extract (v := (vb x3.2)) rfl rfl rfl ?_)))
  refine .assign (v := (vi x3.1)) rfl rfl (.assign (v := (vb x3.2)) rfl rfl ?_)
  apply Ops.nil
  replace H := H.all
  apply Runs.then
  refine .regionH 2 rfl H ?_; intro b7 σ H
  refine .assign (v := .nils) rfl rfl (.assign (v := .nils) rfl rfl ?_)
  apply Ops.nil
  replace H := H.all
  apply Runs.then
  obtain ⟨y1, hj1, h⟩ := bind_some h
  refine .mono (Q := fun x e σ => (∃ a1, ∃ (w1 : PV), RO w1 (a1.map Span.cs) ∧ y1 = (.go a1) ∧ x = .normal ∧ EnvHas e [(2, (.ptr (b1 + 0) 4 0)), (5, (vl Span.cs x1.1)), (9, (vi x3.1)), (10, (vb x3.2)), (11, w1), (12, .nils)] ∧ Hs σ [.blk (b1 + 0) 25 (vF f)]) ∨ (∃ r', y1 = (.ret r') ∧ x = .ret ∧ Ends CX Try.f58.results.toList (vb r') x e σ)) ?_ ?_
  ·replace h := hj1
   apply Runs.then
   refine .regionH 1 rfl H ?_; intro b8 σ H
   refine .move (v := (vb x2.2)) rfl rfl ?_
   apply Ops.nil
   replace H := H.all
   refine .whether (v := x2.2) rfl ?_ ?_ <;> intro hc2
   ·replace h := cond_T hc2 h
    apply Runs.then
    refine .regionH 8 rfl H ?_; intro b9 σ H
    refine .loadHA (off := 0) (cs := (vF f)) H 0 rfl rfl rfl rfl rfl rfl rfl nofun rfl (.move (v := (vi x2.1)) rfl rfl ?_)
    obtain ⟨x4, q4, h⟩ := bind_some h
    refine .call (ys := [(.agg (vF f)), (vi x2.1)]) (r := (.tup [(vl Span.cs x4.1), (vi x4.2)])) rfl (gran_Get_fn q4) rfl (.move (v := (.tup [(vl Span.cs x4.1), (vi x4.2)])) rfl rfl (.extract (v := (vl Span.cs x4.1)) rfl rfl rfl (.extract (v := (vi x4.2)) rfl rfl rfl ?_)))
    refine .assign (v := (vl Span.cs x4.1)) rfl rfl (.assign (v := (vi x4.2)) rfl rfl ?_)
    apply Ops.nil
    replace H := H.all
    apply Runs.then
    refine .regionH 2 rfl H ?_; intro b10 σ H
    refine .move (v := (vi x4.2)) rfl rfl (.int (m := x4.2) (m' := 0) (r := .bool (x4.2 != 0)) rfl rfl rfl rfl rfl ?_)
    apply Ops.nil
    replace H := H.all
    refine .whether (v := (x4.2 != 0)) rfl ?_ ?_ <;> intro hc3
    ·replace h := cond_T hc3 h
     apply Runs.then
     refine .regionH 1 rfl H ?_; intro b11 σ H
     refine .assign (v := (vb false)) rfl rfl ?_
     apply Ops.nil
     replace H := H.all
     apply Runs.ret
     replace h := Option.some.inj h; subst h
     exact (.inr ⟨_, rfl, rfl, (Ends.H (xs := [(vb false)]) (.inr rfl) H (.tmp (v := (vb false)) rfl .nil) (.one (.c (.v _))))⟩)
    ·replace h := cond_F hc3 h
     apply Runs.skip
     replace h := Option.some.inj h; subst h
     exact (.inl ⟨_, (vl Span.cs x4.1), .inr rfl, rfl, rfl, ⟨rfl, rfl, rfl, rfl, rfl, rfl, trivial⟩, H⟩)
   ·replace h := cond_F hc2 h
    apply Runs.skip
    replace h := Option.some.inj h; subst h
    exact (.inl ⟨_, .nils, .inl ⟨rfl, rfl⟩, rfl, rfl, ⟨rfl, rfl, rfl, rfl, rfl, rfl, trivial⟩, H⟩)
  ·rintro x e σ (⟨a2, w2, hw2, rfl, rfl, he, H⟩ | ⟨r', rfl, rfl, hE⟩)
   ·skip
    replace h := jgo h
    obtain ⟨e, rfl⟩ := he.ex
    apply Runs.then
    obtain ⟨y2, hj2, h⟩ := bind_some h
    refine .mono (Q := fun x e σ => (∃ a3, ∃ (w3 : PV), RO w3 (a3.map Span.cs) ∧ y2 = (.go a3) ∧ x = .normal ∧ EnvHas e [(5, (vl Span.cs x1.1)), (11, w2), (12, w3)] ∧ Hs σ []) ∨ (∃ r', y2 = (.ret r') ∧ x = .ret ∧ Ends CX Try.f58.results.toList (vb r') x e σ)) ?_ ?_
    ·replace h := hj2
     apply Runs.then
     refine .regionH 1 rfl H ?_; intro b12 σ H
     refine .move (v := (vb x3.2)) rfl rfl ?_
     apply Ops.nil
     replace H := H.all
     refine .whether (v := x3.2) rfl ?_ ?_ <;> intro hc4
     ·replace h := cond_T hc4 h
      apply Runs.then
      refine .regionH 8 rfl H ?_; intro b13 σ H
      refine .loadHA (off := 0) (cs := (vF f)) H 0 rfl rfl rfl rfl rfl rfl rfl nofun rfl (.move (v := (vi x3.1)) rfl rfl ?_)
      obtain ⟨x5, q5, h⟩ := bind_some h
      refine .call (ys := [(.agg (vF f)), (vi x3.1)]) (r := (.tup [(vl Span.cs x5.1), (vi x5.2)])) rfl (gran_Get_fn q5) rfl (.move (v := (.tup [(vl Span.cs x5.1), (vi x5.2)])) rfl rfl (.extract (v := (vl Span.cs x5.1)) rfl rfl rfl (.extract (v := (vi x5.2)) rfl rfl rfl ?_)))
      refine .assign (v := (vl Span.cs x5.1)) rfl rfl (.assign (v := (vi x5.2)) rfl rfl ?_)
      apply Ops.nil
      replace H := H.all
      apply Runs.then
      refine .regionH 2 rfl H ?_; intro b14 σ H
      refine .move (v := (vi x5.2)) rfl rfl (.int (m := x5.2) (m' := 0) (r := .bool (x5.2 != 0)) rfl rfl rfl rfl rfl ?_)
      apply Ops.nil
      replace H := H.all
      refine .whether (v := (x5.2 != 0)) rfl ?_ ?_ <;> intro hc5
      ·replace h := cond_T hc5 h
       apply Runs.then
       refine .regionH 1 rfl H ?_; intro b15 σ H
       refine .assign (v := (vb false)) rfl rfl ?_
       apply Ops.nil
       replace H := H.all
       apply Runs.ret
       replace h := Option.some.inj h; subst h
       exact (.inr ⟨_, rfl, rfl, (Ends.H (xs := [(vb false)]) (.inr rfl) H (.tmp (v := (vb false)) rfl .nil) (.one (.c (.v _))))⟩)
      ·replace h := cond_F hc5 h
       apply Runs.skip
       replace h := Option.some.inj h; subst h
       exact (.inl ⟨_, (vl Span.cs x5.1), .inr rfl, rfl, rfl, ⟨rfl, rfl, rfl, trivial⟩, (H.erase 0)⟩)
     ·replace h := cond_F hc4 h
      apply Runs.skip
      replace h := Option.some.inj h; subst h
      exact (.inl ⟨_, .nils, .inl ⟨rfl, rfl⟩, rfl, rfl, ⟨rfl, rfl, rfl, trivial⟩, (H.erase 0)⟩)
    ·rintro x e σ (⟨a4, w4, hw4, rfl, rfl, he, H⟩ | ⟨r', rfl, rfl, hE⟩)
     ·skip
      replace h := jgo h
      obtain ⟨e, rfl⟩ := he.ex
      apply Runs.then
      refine .regionH 14 rfl H ?_; intro b16 σ H
      refine .move (v := w2) rfl rfl (.move (v := (vl Span.cs x1.1)) rfl rfl ?_)
      obtain ⟨x6, q6, h⟩ := bind_some h
      refine .callX (xs := [w2, (vl Span.cs x1.1)]) (ys := [(vl Span.cs a2), (vl Span.cs x1.1)]) H rfl (.cons (.c (.ro hw2)) (.cons (.c (.v _)) .nil)) (spans_Ahead_fn q6) rfl rfl nofun rfl ?_; intro σ H
      refine .move (v := (vb x6)) rfl rfl ?_
      obtain ⟨y3, hj3, h⟩ := bind_some h
      refine .mid 4 (K1 := fun e σ => EnvHas e [(58, (vb y3)), (11, w2), (12, w4)] ∧ Has σ (b16 + 8) (b16 + 14) []) rfl ?_ ?_
      ·refine .split rfl rfl ?_ ?_ <;> intro hc6
       ·replace h := cond_T hc6 hj3
        refine .wanted rfl rfl (.move (v := (vl Span.cs x1.1)) rfl rfl (.wanted rfl rfl (.move (v := w4) rfl rfl ?_)))
        refine .wanted rfl rfl ?_
        obtain ⟨x7, q7, h⟩ := bind_some h
        refine .callX (xs := [(vl Span.cs x1.1), w4]) (ys := [(vl Span.cs x1.1), (vl Span.cs a4)]) H rfl (.cons (.c (.v _)) (.cons (.c (.ro hw4)) .nil)) (spans_Ahead_fn q7) rfl rfl nofun rfl ?_; intro σ H
        refine .pickT (v := (vb x7)) rfl rfl rfl ?_
        apply Ops.nil
        replace h := Option.some.inj h; subst h
        exact ⟨⟨rfl, rfl, rfl, trivial⟩, H.weak (by omega) (Nat.le_refl _)⟩
       ·replace h := cond_F hc6 hj3
        refine .pass rfl rfl rfl (.pass rfl rfl rfl (.pass rfl rfl rfl (.pickF (v := (vb false)) rfl rfl rfl ?_)))
        apply Ops.nil
        replace h := Option.some.inj h; subst h
        exact ⟨⟨rfl, rfl, rfl, trivial⟩, H.weak (by omega) (Nat.le_refl _)⟩
      ·rintro e σ ⟨he, H⟩
       obtain ⟨e, rfl⟩ := he.ex
       refine .move (v := (vb y3)) rfl rfl ?_
       obtain ⟨y4, hj4, h⟩ := bind_some h
       refine .mid 4 (K1 := fun e σ => EnvHas e [(63, (vb y4))] ∧ Has σ (b16 + 13) (b16 + 14) []) rfl ?_ ?_
       ·refine .split rfl rfl ?_ ?_ <;> intro hc7
        ·replace h := cond_T hc7 hj4
         refine .wanted rfl rfl (.move (v := w2) rfl rfl (.wanted rfl rfl (.move (v := w4) rfl rfl ?_)))
         refine .wanted rfl rfl ?_
         obtain ⟨x8, q8, h⟩ := bind_some h
         refine .callX (xs := [w2, w4]) (ys := [(vl Span.cs a2), (vl Span.cs a4)]) H rfl (.cons (.c (.ro hw2)) (.cons (.c (.ro hw4)) .nil)) (spans_Ahead_fn q8) rfl rfl nofun rfl ?_; intro σ H
         refine .pickT (v := (vb x8)) rfl rfl rfl ?_
         apply Ops.nil
         replace h := Option.some.inj h; subst h
         exact ⟨⟨rfl, trivial⟩, H.weak (by omega) (Nat.le_refl _)⟩
        ·replace h := cond_F hc7 hj4
         refine .pass rfl rfl rfl (.pass rfl rfl rfl (.pass rfl rfl rfl (.pickF (v := (vb false)) rfl rfl rfl ?_)))
         apply Ops.nil
         replace h := Option.some.inj h; subst h
         exact ⟨⟨rfl, trivial⟩, H.weak (by omega) (Nat.le_refl _)⟩
       ·rintro e σ ⟨he, H⟩
        obtain ⟨e, rfl⟩ := he.ex
        refine .assign (v := (vb y4)) rfl rfl ?_
        apply Ops.nil
        replace H := H.all
        apply Runs.ret
        replace h := Option.some.inj h; subst h
        exact (Ends.H (xs := [(vb y4)]) (.inr rfl) H (.tmp (v := (vb y4)) rfl .nil) (.one (.c (.v _))))
     ·skip
      replace h := jret h
      replace h := Option.some.inj h; subst h
      exact hE
   ·skip
    replace h := jret h
    replace h := Option.some.inj h; subst h
    exact hE

theorem gran_Right_fn {f : Form} {r : Int} (h : gran_Right f = some r) : Fn CX 32 [(.agg (vs (Form.cs f)))] (vi r) := by
 refine Fn.ends Try.func32 rfl rfl rfl rfl rfl rfl ?_
 have H : Hs (⟨0, fun _ => .none⟩ : Heap) [] := Has.nil (Nat.le_refl _)
 generalize (⟨0, fun _ => .none⟩ : Heap) = σ at H ⊢
 unfold gran_Right at h
 apply Runs.then
 refine .regionH 2 rfl H ?_; intro b1 σ H
 refine .boxH (cs := (vF f)) H (by omega) (by omega) rfl rfl rfl ?_; intro σ H
 refine .assign (v := (vi 0)) rfl rfl ?_
 apply Ops.nil
 replace H := H.all
 apply Runs.then
 apply Runs.then
 refine .regionH 15 rfl H ?_; intro b2 σ H
 refine .fieldAddrH (off := 0) (fo := 2) H 0 rfl rfl rfl rfl rfl nofun rfl (.loadH (off := 2) (v := (vl (cL Span.cs) f.Core)) H 0 rfl rfl rfl rfl rfl nofun rfl (.lenPt (c := (cL Span.cs)) (xs := f.Core) rfl rfl rfl (.int (m := (f.Core.length : Int)) (m' := 6000) (r := .bool (decide ((f.Core.length : Int) > 6000))) rfl rfl rfl rfl rfl ?_)))
 refine .move (v := (vb (decide ((f.Core.length : Int) > 6000)))) rfl rfl ?_
 refine .mid 5 (K1 := fun e σ => EnvHas e [(14, (vb ((decide ((f.Core.length : Int) > 6000)) || (decide ((f.Odd.length : Int) > 6000))))), (1, (.ptr (b1 + 0) 4 0))] ∧ Has σ (b2 + 10) (b2 + 15) [.blk (b1 + 0) 25 (vF f)]) rfl ?_ ?_
 ·refine .split rfl rfl ?_ ?_ <;> intro hc1
  ·skip
   refine .pass rfl rfl rfl (.pass rfl rfl rfl (.pass rfl rfl rfl (.pass rfl rfl rfl ?_)))
   refine .pickT (v := (vb true)) rfl rfl rfl ?_
   apply Ops.nil
   exact ⟨⟨or_T hc1, rfl, trivial⟩, H.weak (by omega) (Nat.le_refl _)⟩
  ·skip
   refine .wanted rfl rfl (.fieldAddrH (off := 0) (fo := 3) H 0 rfl rfl rfl rfl rfl nofun rfl (.wanted rfl rfl (.loadH (off := 3) (v := (vl Granule.cs f.Odd)) H 0 rfl rfl rfl rfl rfl nofun rfl ?_)))
   refine .wanted rfl rfl (.lenPt (c := Granule.cs) (xs := f.Odd) rfl rfl rfl (.wanted rfl rfl (.int (m := (f.Odd.length : Int)) (m' := 6000) (r := .bool (decide ((f.Odd.length : Int) > 6000))) rfl rfl rfl rfl rfl ?_)))
   refine .pickF (v := (vb (decide ((f.Odd.length : Int) > 6000)))) rfl rfl rfl ?_
   apply Ops.nil
   exact ⟨⟨or_F hc1, rfl, trivial⟩, H.weak (by omega) (Nat.le_refl _)⟩
 ·rintro e σ ⟨he, H⟩
  obtain ⟨e, rfl⟩ := he.ex
  refine .move (v := (vb ((decide ((f.Core.length : Int) > 6000)) || (decide ((f.Odd.length : Int) > 6000))))) rfl rfl ?_
  obtain ⟨y1, hj1, h⟩ := bind_some h
  refine .mid 4 (K1 := fun e σ => EnvHas e [(19, (vb y1)), (1, (.ptr (b1 + 0) 4 0))] ∧ Has σ (b2 + 15) (b2 + 15) [.blk (b1 + 0) 25 (vF f)]) rfl ?_ ?_
  ·refine .split rfl rfl ?_ ?_ <;> intro hc2
   ·replace h := cond_T hc2 hj1
    refine .pass rfl rfl rfl (.pass rfl rfl rfl (.pass rfl rfl rfl (.pickT (v := (vb true)) rfl rfl rfl ?_)))
    apply Ops.nil
    replace h := Option.some.inj h; subst h
    exact ⟨⟨rfl, rfl, trivial⟩, H.weak (by omega) (Nat.le_refl _)⟩
   ·replace h := cond_F hc2 hj1
    refine .wanted rfl rfl (.loadHA (off := 0) (cs := (vF f)) H 0 rfl rfl rfl rfl rfl rfl rfl nofun rfl (.wanted rfl rfl ?_))
    obtain ⟨x1, q1, h⟩ := bind_some h
    refine .call (ys := [(.agg (vF f))]) (r := (vi x1)) rfl (gran_Size_fn q1) rfl (.wanted rfl rfl (.int (m := x1) (m' := 60000) (r := .bool (decide (x1 > 60000))) rfl rfl rfl rfl rfl (.pickF (v := (vb (decide (x1 > 60000)))) rfl rfl rfl ?_)))
    apply Ops.nil
    replace h := Option.some.inj h; subst h
    exact ⟨⟨rfl, rfl, trivial⟩, H.weak (by omega) (Nat.le_refl _)⟩
  ·rintro e σ ⟨he, H⟩
   obtain ⟨e, rfl⟩ := he.ex
   apply Ops.nil
   replace H := H.all
   refine .whether (v := y1) rfl ?_ ?_ <;> intro hc3
   ·replace h := cond_T hc3 h
    apply Runs.then
    refine .regionH 1 rfl H ?_; intro b3 σ H
    refine .assign (v := (vi 3)) rfl rfl ?_
    apply Ops.nil
    replace H := H.all
    apply Runs.ret
    replace h := Option.some.inj h; subst h
    exact (Ends.H (xs := [(vi 3)]) (.inr rfl) H (.tmp (v := (vi 3)) rfl .nil) (.one (.c (.v _))))
   ·replace h := cond_F hc3 h
    apply Runs.skip
    apply Runs.then
    apply Runs.then
    refine .regionH 8 rfl H ?_; intro b4 σ H
    refine .loadHA (off := 0) (cs := (vF f)) H 0 rfl rfl rfl rfl rfl rfl rfl nofun rfl ?_
    obtain ⟨x2, q2, h⟩ := bind_some h
    refine .call (ys := [(.agg (vF f))]) (r := (vb x2)) rfl (gran_shape_fn q2) rfl (.not (b := x2) rfl rfl (.move (v := (vb (!x2))) rfl rfl ?_))
    obtain ⟨y2, hj2, h⟩ := bind_some h
    refine .mid 4 (K1 := fun e σ => EnvHas e [(27, (vb y2)), (1, (.ptr (b1 + 0) 4 0))] ∧ Has σ (b4 + 8) (b4 + 8) [.blk (b1 + 0) 25 (vF f)]) rfl ?_ ?_
    ·refine .split rfl rfl ?_ ?_ <;> intro hc4
     ·replace h := cond_T hc4 hj2
      refine .pass rfl rfl rfl (.pass rfl rfl rfl (.pass rfl rfl rfl (.pickT (v := (vb true)) rfl rfl rfl ?_)))
      apply Ops.nil
      replace h := Option.some.inj h; subst h
      exact ⟨⟨rfl, rfl, trivial⟩, H.weak (by omega) (Nat.le_refl _)⟩
     ·replace h := cond_F hc4 hj2
      refine .wanted rfl rfl (.loadHA (off := 0) (cs := (vF f)) H 0 rfl rfl rfl rfl rfl rfl rfl nofun rfl (.wanted rfl rfl ?_))
      obtain ⟨x3, q3, h⟩ := bind_some h
      refine .call (ys := [(.agg (vF f))]) (r := (vb x3)) rfl (gran_turns_fn q3) rfl (.wanted rfl rfl (.not (b := x3) rfl rfl (.pickF (v := (vb (!x3))) rfl rfl rfl ?_)))
      apply Ops.nil
      replace h := Option.some.inj h; subst h
      exact ⟨⟨rfl, rfl, trivial⟩, H.weak (by omega) (Nat.le_refl _)⟩
    ·rintro e σ ⟨he, H⟩
     obtain ⟨e, rfl⟩ := he.ex
     apply Ops.nil
     replace H := H.all
     refine .whether (v := y2) rfl ?_ ?_ <;> intro hc5
     ·replace h := cond_T hc5 h
      apply Runs.then
      refine .regionH 1 rfl H ?_; intro b5 σ H
      refine .assign (v := (vi 50)) rfl rfl ?_
      apply Ops.nil
      replace H := H.all
      apply Runs.ret
      replace h := Option.some.inj h; subst h
      exact (Ends.H (xs := [(vi 50)]) (.inr rfl) H (.tmp (v := (vi 50)) rfl .nil) (.one (.c (.v _))))
     ·replace h := cond_F hc5 h
      apply Runs.skip
      apply Runs.then
      apply Runs.then
      refine .regionH 4 rfl H ?_; intro b6 σ H
      refine .fieldAddrH (off := 0) (fo := 3) H 0 rfl rfl rfl rfl rfl nofun rfl (.loadH (off := 3) (v := (vl Granule.cs f.Odd)) H 0 rfl rfl rfl rfl rfl nofun rfl (.lenPt (c := Granule.cs) (xs := f.Odd) rfl rfl rfl (.move (v := (vi 0)) rfl rfl ?_)))
      apply Ops.nil
      replace H := H.all
      apply Runs.inBlock
      obtain ⟨y3, hj3, h⟩ := bind_some h
      obtain ⟨n1, hj3⟩ := loopO_iff.1 hj3
      refine .mono (Runs.loopO hj3 (fun s1 e σ => EnvHas e [(1, (.ptr (b1 + 0) 4 0)), (29, (vl Granule.cs f.Odd)), (30, (vi (f.Odd.length : Int))), (31, (vi s1))] ∧ Hs σ [.blk (b1 + 0) 25 (vF f)]) (fun y3 x e σ => (∃ a1, y3 = (.go a1) ∧ x = .exit 0 ∧ EnvHas e [] ∧ Hs σ []) ∨ (∃ r', y3 = (.ret r') ∧ x = .ret ∧ Ends CX Try.f32.results.toList (vi r') x e σ)) ⟨⟨rfl, rfl, rfl, rfl, trivial⟩, H⟩ ?_) ?_
      ·intro s1 e σ hI z h
       obtain ⟨he, H⟩ := hI
       obtain ⟨e, rfl⟩ := he.ex
       unfold gran_Right.s0 at h
       apply Runs.then
       refine .regionH 1 rfl H ?_; intro b7 σ H
       refine .int (m := s1) (m' := (f.Odd.length : Int)) (r := .bool (decide (s1 < (f.Odd.length : Int)))) rfl rfl rfl rfl rfl ?_
       apply Ops.nil
       replace H := H.all
       apply Runs.then
       refine .whether (v := (decide (s1 < (f.Odd.length : Int)))) rfl ?_ ?_ <;> intro hc6
       ·replace h := cond_T hc6 h
        apply Runs.skip
        apply Runs.then
        apply Runs.inBlock
        apply Runs.then
        refine .regionH 4 rfl H ?_; intro b8 σ H
        obtain ⟨x4, q4, h⟩ := bind_some h
        refine .indexP (c := Granule.cs) (u := x4) rfl rfl q4 rfl rfl rfl rfl (.loadPA (cs := [(.int .i64 x4.Index), (.sl (x4.Ticks.map Span.cs))]) rfl rfl rfl rfl rfl rfl (.allocH (cs := [(vi 0), .nils]) H (by omega) (by omega) rfl rfl ?_)); intro σ H
        refine .storeH (off := 0) (cells' := [(vi x4.Index), (vl Span.cs x4.Ticks)]) H 0 rfl rfl rfl rfl rfl rfl rfl rfl rfl nofun ?_; intro σ H
        apply Ops.nil
        replace H := H.all
        apply Runs.then
        refine .regionH 5 rfl H ?_; intro b9 σ H
        refine .loadHA (off := 0) (cs := (vF f)) H 1 rfl rfl rfl rfl rfl rfl rfl nofun rfl (.fieldAddrH (off := 0) (fo := 0) H 0 rfl rfl rfl rfl rfl nofun rfl (.loadH (off := 0) (v := (vi x4.Index)) H 0 rfl rfl rfl rfl rfl nofun rfl ?_))
        obtain ⟨x5, q5, h⟩ := bind_some h
        refine .call (ys := [(.agg (vF f)), (vi x4.Index)]) (r := (vb x5)) rfl (gran_beside_fn q5) rfl (.not (b := x5) rfl rfl ?_)
        apply Ops.nil
        replace H := H.all
        refine .whether (v := (!x5)) rfl ?_ ?_ <;> intro hc7
        ·replace h := cond_T hc7 h
         apply Runs.then
         refine .regionH 1 rfl H ?_; intro b10 σ H
         refine .assign (v := (vi 50)) rfl rfl ?_
         apply Ops.nil
         replace H := H.all
         apply Runs.ret
         replace h := Option.some.inj h; subst h
         exact ⟨nofun, (.inr ⟨_, rfl, rfl, (Ends.H (xs := [(vi 50)]) (.inr rfl) H (.tmp (v := (vi 50)) rfl .nil) (.one (.c (.v _))))⟩)⟩
        ·replace h := cond_F hc7 h
         apply Runs.skip
         refine .regionH 2 rfl H ?_; intro b11 σ H
         refine .int (m := s1) (m' := 1) (r := .int .i64 (w64 (s1 + 1))) rfl rfl rfl rfl rfl (.move (v := (vi (w64 (s1 + 1)))) rfl rfl ?_)
         apply Ops.nil
         replace H := H.all
         replace h := Option.some.inj h; subst h
         exact ⟨rfl, ⟨rfl, rfl, rfl, rfl, trivial⟩, (H.erase 0)⟩
       ·replace h := cond_F hc6 h
        apply Runs.exit
        replace h := Option.some.inj h; subst h
        exact ⟨nofun, (.inl ⟨_, rfl, rfl, trivial, (H.erase 0)⟩)⟩
      ·rintro x e σ (⟨a2, rfl, rfl, he, H⟩ | ⟨r', rfl, rfl, hE⟩)
       ·skip
        replace h := jgo h
        obtain ⟨e, rfl⟩ := he.ex
        apply Runs.then
        refine .regionH 1 rfl H ?_; intro b12 σ H
        refine .assign (v := (vi 0)) rfl rfl ?_
        apply Ops.nil
        replace H := H.all
        apply Runs.ret
        replace h := Option.some.inj h; subst h
        exact (Ends.H (xs := [(vi 0)]) (.inr rfl) H (.tmp (v := (vi 0)) rfl .nil) (.one (.c (.v _))))
       ·skip
        replace h := jret h
        replace h := Option.some.inj h; subst h
        exact hE

theorem epactlaw06_right_fn {f : Form} {r : Bool} (h : epactlaw06_right f = some r) : Fn CX 25 [(.agg (vs (Form.cs f)))] (vb r) := by
 refine Fn.ends Try.func25 rfl rfl rfl rfl rfl rfl ?_
 have H : Hs (⟨0, fun _ => .none⟩ : Heap) [] := Has.nil (Nat.le_refl _)
 generalize (⟨0, fun _ => .none⟩ : Heap) = σ at H ⊢
 unfold epactlaw06_right at h
 apply Runs.then
 refine .regionH 2 rfl H ?_; intro b1 σ H
 refine .boxH (cs := (vF f)) H (by omega) (by omega) rfl rfl rfl ?_; intro σ H
 refine .assign (v := (vb false)) rfl rfl ?_
 apply Ops.nil
 replace H := H.all
 apply Runs.then
 refine .regionH 8 rfl H ?_; intro b2 σ H
 refine .loadHA (off := 0) (cs := (vF f)) H 0 rfl rfl rfl rfl rfl rfl rfl nofun rfl ?_
 obtain ⟨x1, q1, h⟩ := bind_some h
 refine .call (ys := [(.agg (vF f))]) (r := (vb x1)) rfl (epactlaw05_Small_fn q1) rfl (.move (v := (vb x1)) rfl rfl ?_)
 obtain ⟨y1, hj1, h⟩ := bind_some h
 refine .mid 4 (K1 := fun e σ => EnvHas e [(9, (vb y1))] ∧ Has σ (b2 + 7) (b2 + 8) []) rfl ?_ ?_
 ·refine .split rfl rfl ?_ ?_ <;> intro hc1
  ·replace h := cond_T hc1 hj1
   refine .wanted rfl rfl (.loadHA (off := 0) (cs := (vF f)) H 0 rfl rfl rfl rfl rfl rfl rfl nofun rfl (.wanted rfl rfl ?_))
   obtain ⟨x2, q2, h⟩ := bind_some h
   refine .call (ys := [(.agg (vF f))]) (r := (vi x2)) rfl (gran_Right_fn q2) rfl (.wanted rfl rfl (.int (m := x2) (m' := 0) (r := .bool (x2 == 0)) rfl rfl rfl rfl rfl (.pickT (v := (vb (x2 == 0))) rfl rfl rfl ?_)))
   apply Ops.nil
   replace h := Option.some.inj h; subst h
   exact ⟨⟨rfl, trivial⟩, (H.erase 0).weak (by omega) (Nat.le_refl _)⟩
  ·replace h := cond_F hc1 hj1
   refine .pass rfl rfl rfl (.pass rfl rfl rfl (.pass rfl rfl rfl (.pickF (v := (vb false)) rfl rfl rfl ?_)))
   apply Ops.nil
   replace h := Option.some.inj h; subst h
   exact ⟨⟨rfl, trivial⟩, (H.erase 0).weak (by omega) (Nat.le_refl _)⟩
 ·rintro e σ ⟨he, H⟩
  obtain ⟨e, rfl⟩ := he.ex
  refine .assign (v := (vb y1)) rfl rfl ?_
  apply Ops.nil
  replace H := H.all
  apply Runs.ret
  replace h := Option.some.inj h; subst h
  exact (Ends.H (xs := [(vb y1)]) (.inr rfl) H (.tmp (v := (vb y1)) rfl .nil) (.one (.c (.v _))))

theorem epactlaw06_awake_fn {r : Bool} (h : epactlaw06_awake = r) : Fn CX 26 [] (vb r) := by
 subst h
 exact Fn.intr (by rfl) rfl rfl rfl

theorem epactlow_Anew_fn {l : (List Span)} {r : (List Span)} (h : epactlow_Anew l = some r) : Fn CX 44 [(vl Span.cs l)] (vl Span.cs r) := by
 refine Fn.ends Try.func44 rfl rfl rfl rfl rfl rfl ?_
 have H : Hs (⟨0, fun _ => .none⟩ : Heap) [] := Has.nil (Nat.le_refl _)
 generalize (⟨0, fun _ => .none⟩ : Heap) = σ at H ⊢
 unfold epactlow_Anew at h
 apply Runs.then
 refine .regionH 1 rfl H ?_; intro b1 σ H
 refine .assign (v := .nils) rfl rfl ?_
 apply Ops.nil
 replace H := H.all
 apply Runs.then
 refine .regionH 4 rfl H ?_; intro b2 σ H
 refine .move (v := (vl Span.cs l)) rfl rfl (.lenPt (c := Span.cs) (xs := l) rfl rfl rfl ?_)
 obtain ⟨x1, q1, h⟩ := bind_some h
 refine .makeS (zs := [(.int .i64 0), (.int .i64 0)]) (cc := Span.cs) H (by omega) (by omega) rfl rfl q1 rfl rfl rfl rfl rfl rfl rfl ?_; intro σ H
 refine .assign (v := (.buf (b2 + 2) ((l.length : Int)).toNat 2)) rfl rfl ?_
 apply Ops.nil
 replace H := H.all
 apply Runs.then
 refine .regionH 3 rfl H ?_; intro b3 σ H
 refine .move (v := (.buf (b2 + 2) ((l.length : Int)).toNat 2)) rfl rfl (.move (v := (vl Span.cs l)) rfl rfl (.copyS (c := Span.cs) (w := (vl Span.cs l)) (xs := x1) (ys := l) H 0 rfl rfl rfl rfl (.m (fun _ => rfl)) rfl rfl nofun rfl ?_)); intro σ H
 apply Ops.nil
 replace H := H.all
 apply Runs.then
 refine .regionH 2 rfl H ?_; intro b4 σ H
 refine .move (v := (.buf (b2 + 2) ((l.length : Int)).toNat 2)) rfl rfl (.assign (v := (.buf (b2 + 2) ((l.length : Int)).toNat 2)) rfl rfl ?_)
 apply Ops.nil
 replace H := H.all
 apply Runs.ret
 replace h := Option.some.inj h; subst h
 exact (Ends.H (xs := [(.buf (b2 + 2) ((l.length : Int)).toNat 2)]) (.inr rfl) H (.tmp (v := (.buf (b2 + 2) ((l.length : Int)).toNat 2)) rfl .nil) (.one (.c (.s 0 rfl))))

theorem epactlow_AnewForm_fn {f : Form} {r : Form} (h : epactlow_AnewForm f = some r) : FnO CX 22 [(.agg (vs (Form.cs f)))] (fun q A => ∃ (w13 : PV) (w14 : PV), q = (.agg [(vi r.Period), (vi r.Count), w13, w14]) ∧ A = [.sl w13 31 1 (r.Core.map (cL Span.cs)) true, .sl w14 45 2 (r.Odd.map Granule.cs) true]) := by
 refine FnO.of Try.func22 rfl rfl rfl rfl rfl rfl ?_
 intro σ T H
 unfold epactlow_AnewForm at h
 apply Runs.then
 refine .regionH 2 rfl H ?_; intro b1 σ H
 refine .boxH (cs := (vF f)) H (by omega) (by omega) rfl rfl rfl ?_; intro σ H
 refine .allocH (cs := [(vi 0), (vi 0), .nils, .nils]) H (by omega) (by omega) rfl rfl ?_; intro σ H
 apply Ops.nil
 replace H := H.all
 apply Runs.then
 refine .regionH 7 rfl H ?_; intro b2 σ H
 refine .fieldAddrH (off := 0) (fo := 0) H 1 rfl rfl rfl rfl rfl nofun rfl (.loadH (off := 0) (v := (vi f.Period)) H 1 rfl rfl rfl rfl rfl nofun rfl (.fieldAddrH (off := 0) (fo := 1) H 1 rfl rfl rfl rfl rfl nofun rfl (.loadH (off := 1) (v := (vi f.Count)) H 1 rfl rfl rfl rfl rfl nofun rfl ?_)))
 refine .buildA (cs := [(vi f.Period), (vi f.Count), .nils, .nils]) rfl rfl (.allocH (cs := [(vi 0), (vi 0), .nils, .nils]) H (by omega) (by omega) rfl rfl ?_); intro σ H
 refine .storeH (off := 0) (cells' := [(vi f.Period), (vi f.Count), .nils, .nils]) H 0 rfl rfl rfl rfl rfl rfl rfl rfl rfl nofun ?_; intro σ H
 apply Ops.nil
 replace H := H.all
 apply Runs.then
 apply Runs.then
 refine .regionH 4 rfl H ?_; intro b3 σ H
 refine .fieldAddrH (off := 0) (fo := 2) H 2 rfl rfl rfl rfl rfl nofun rfl (.loadH (off := 2) (v := (vl (cL Span.cs) f.Core)) H 2 rfl rfl rfl rfl rfl nofun rfl (.lenPt (c := (cL Span.cs)) (xs := f.Core) rfl rfl rfl (.move (v := (vi 0)) rfl rfl ?_)))
 apply Ops.nil
 replace H := H.all
 apply Runs.inBlock
 replace H := H.pushNil 31 1 true
 obtain ⟨y1, hj1, h⟩ := bind_some h
 obtain ⟨n1, hj1⟩ := loopO_iff.1 hj1
 refine .mono (Runs.loopO hj1 (fun s2 e σ => ∃ (w3 : PV), EnvHas e [(1, (.ptr (b1 + 0) 4 0)), (2, (.ptr (b1 + 1) 4 0)), (3, (.ptr (b2 + 5) 4 0)), (14, (vl (cL Span.cs) f.Core)), (15, (vi (f.Core.length : Int))), (16, (vi s2.1))] ∧ Hs σ (.sl w3 31 1 (s2.2.map (cL Span.cs)) true :: .blk (b2 + 5) 25 [(vi f.Period), (vi f.Count), w3, .nils] :: .blk (b1 + 1) 25 [(vi 0), (vi 0), .nils, .nils] :: .blk (b1 + 0) 25 (vF f) :: T)) (fun y1 x e σ => ∃ (w4 : PV), x = .exit 0 ∧ EnvHas e [(1, (.ptr (b1 + 0) 4 0)), (2, (.ptr (b1 + 1) 4 0)), (3, (.ptr (b2 + 5) 4 0))] ∧ Hs σ (.sl w4 31 1 (y1.map (cL Span.cs)) true :: .blk (b2 + 5) 25 [(vi f.Period), (vi f.Count), w4, .nils] :: .blk (b1 + 1) 25 [(vi 0), (vi 0), .nils, .nils] :: .blk (b1 + 0) 25 (vF f) :: T)) ⟨.nils, ⟨rfl, rfl, rfl, rfl, rfl, rfl, trivial⟩, H⟩ ?_) ?_
 ·intro s2 e σ hI z h
  obtain ⟨w3, he, H⟩ := hI
  obtain ⟨e, rfl⟩ := he.ex
  unfold epactlow_AnewForm.s0 at h
  apply Runs.then
  refine .regionH 1 rfl H ?_; intro b4 σ H
  refine .int (m := s2.1) (m' := (f.Core.length : Int)) (r := .bool (decide (s2.1 < (f.Core.length : Int)))) rfl rfl rfl rfl rfl ?_
  apply Ops.nil
  replace H := H.all
  apply Runs.then
  refine .whether (v := (decide (s2.1 < (f.Core.length : Int)))) rfl ?_ ?_ <;> intro hc1
  ·replace h := cond_T hc1 h
   apply Runs.skip
   apply Runs.then
   apply Runs.inBlock
   apply Runs.then
   refine .regionH 3 rfl H ?_; intro b5 σ H
   obtain ⟨x1, q1, h⟩ := bind_some h
   refine .indexP (c := (cL Span.cs)) (u := x1) rfl rfl q1 rfl rfl rfl rfl (.loadP (u := (.sl (x1.map Span.cs))) rfl rfl rfl rfl (.assign (v := (vl Span.cs x1)) rfl rfl ?_))
   apply Ops.nil
   replace H := H.all
   refine .drawnH 8 rfl (by kernel_rfl) H ?_; intro b6 σ H B6
   refine .fieldAddrH (off := 0) (fo := 2) H 1 rfl rfl rfl rfl rfl (fun _ => .inl ⟨B6 1 _ rfl _ rfl, nofun, (fun _ => by kernel_rfl)⟩) rfl (.loadH (off := 2) (v := w3) H 1 rfl rfl rfl rfl rfl (fun _ => .inl ⟨B6 1 _ rfl _ rfl, nofun, (fun _ => by kernel_rfl)⟩) rfl (.move (v := (vl Span.cs x1)) rfl rfl ?_))
   obtain ⟨x2, q2, h⟩ := bind_some h
   refine .call (ys := [(vl Span.cs x1)]) (r := (vl Span.cs x2)) rfl (epactlow_Anew_fn q2) rfl (.buildS (sz := 1) ([x2].map (cL Span.cs)) H (by omega) (by omega) rfl rfl rfl rfl rfl rfl rfl rfl rfl ?_); intro σ H
   obtain ⟨x3, q3, h⟩ := bind_some h
   refine .appendSt (c := (cL Span.cs)) (v := w3) (w := (.buf (b6 + 4) 1 1)) (xs := s2.2) (ys := [x2]) H (by omega) (by omega) 1 rfl rfl rfl (.s 0 rfl) q3 rfl rfl rfl rfl rfl (fun h => ⟨(fun id ho => .inl ⟨B6 0 _ rfl id ho, (fun _ => by kernel_rfl), nofun⟩), (fun id ho => .inr ⟨4, (by cases ho; rfl), (fun h => nomatch h), by kernel_rfl, by decide⟩)⟩) rfl ?_; intro w5 σ H
   refine .fieldAddrH (off := 0) (fo := 2) H 2 rfl rfl rfl rfl rfl (fun _ => .inl ⟨B6 1 _ rfl _ rfl, nofun, (fun _ => by kernel_rfl)⟩) rfl (.storeH (off := 2) (v := w5) (ys := [w5]) (cells' := [(vi f.Period), (vi f.Count), w5, .nils]) H 2 rfl rfl rfl rfl (H.slCells (k := 1) rfl) rfl rfl rfl rfl (fun _ => .inl ⟨B6 1 _ rfl _ rfl, (fresh_static (by kernel_rfl))⟩) ?_); intro σ H
   apply Ops.nil
   replace H := H.all
   refine .regionH 2 rfl H ?_; intro b7 σ H
   refine .int (m := s2.1) (m' := 1) (r := .int .i64 (w64 (s2.1 + 1))) rfl rfl rfl rfl rfl (.move (v := (vi (w64 (s2.1 + 1)))) rfl rfl ?_)
   apply Ops.nil
   replace H := H.all
   replace h := Option.some.inj h; subst h
   exact ⟨rfl, w5, ⟨rfl, rfl, rfl, rfl, rfl, rfl, trivial⟩, (H.erase 0)⟩
  ·replace h := cond_F hc1 h
   apply Runs.exit
   replace h := Option.some.inj h; subst h
   exact ⟨nofun, ⟨w3, rfl, ⟨rfl, rfl, rfl, trivial⟩, H⟩⟩
 ·rintro x e σ ⟨w6, rfl, he, H⟩
  obtain ⟨e, rfl⟩ := he.ex
  apply Runs.then
  apply Runs.then
  refine .regionH 4 rfl H ?_; intro b8 σ H
  refine .fieldAddrH (off := 0) (fo := 3) H 3 rfl rfl rfl rfl rfl nofun rfl (.loadH (off := 3) (v := (vl Granule.cs f.Odd)) H 3 rfl rfl rfl rfl rfl nofun rfl (.lenPt (c := Granule.cs) (xs := f.Odd) rfl rfl rfl (.move (v := (vi 0)) rfl rfl ?_)))
  apply Ops.nil
  replace H := H.all
  apply Runs.inBlock
  replace H := H.pushNil 45 2 true
  obtain ⟨y2, hj2, h⟩ := bind_some h
  obtain ⟨n2, hj2⟩ := loopO_iff.1 hj2
  refine .mono (Runs.loopO hj2 (fun s4 e σ => ∃ (w9 : PV), EnvHas e [(2, (.ptr (b1 + 1) 4 0)), (3, (.ptr (b2 + 5) 4 0)), (29, (vl Granule.cs f.Odd)), (30, (vi (f.Odd.length : Int))), (31, (vi s4.1))] ∧ Hs σ (.sl w9 45 2 (s4.2.map Granule.cs) true :: .sl w6 31 1 (y1.map (cL Span.cs)) true :: .blk (b2 + 5) 25 [(vi f.Period), (vi f.Count), w6, w9] :: .blk (b1 + 1) 25 [(vi 0), (vi 0), .nils, .nils] :: T)) (fun y2 x e σ => ∃ (w10 : PV), x = .exit 2 ∧ EnvHas e [(2, (.ptr (b1 + 1) 4 0)), (3, (.ptr (b2 + 5) 4 0))] ∧ Hs σ (.sl w10 45 2 (y2.map Granule.cs) true :: .sl w6 31 1 (y1.map (cL Span.cs)) true :: .blk (b2 + 5) 25 [(vi f.Period), (vi f.Count), w6, w10] :: .blk (b1 + 1) 25 [(vi 0), (vi 0), .nils, .nils] :: T)) ⟨.nils, ⟨rfl, rfl, rfl, rfl, rfl, trivial⟩, (H.erase 4)⟩ ?_) ?_
  ·intro s4 e σ hI z h
   obtain ⟨w9, he, H⟩ := hI
   obtain ⟨e, rfl⟩ := he.ex
   unfold epactlow_AnewForm.s1 at h
   apply Runs.then
   refine .regionH 1 rfl H ?_; intro b9 σ H
   refine .int (m := s4.1) (m' := (f.Odd.length : Int)) (r := .bool (decide (s4.1 < (f.Odd.length : Int)))) rfl rfl rfl rfl rfl ?_
   apply Ops.nil
   replace H := H.all
   apply Runs.then
   refine .whether (v := (decide (s4.1 < (f.Odd.length : Int)))) rfl ?_ ?_ <;> intro hc2
   ·replace h := cond_T hc2 h
    apply Runs.skip
    apply Runs.then
    apply Runs.inBlock
    apply Runs.then
    refine .regionH 4 rfl H ?_; intro b10 σ H
    obtain ⟨x4, q4, h⟩ := bind_some h
    refine .indexP (c := Granule.cs) (u := x4) rfl rfl q4 rfl rfl rfl rfl (.loadPA (cs := [(.int .i64 x4.Index), (.sl (x4.Ticks.map Span.cs))]) rfl rfl rfl rfl rfl rfl (.allocH (cs := [(vi 0), .nils]) H (by omega) (by omega) rfl rfl ?_)); intro σ H
    refine .storeH (off := 0) (cells' := [(vi x4.Index), (vl Span.cs x4.Ticks)]) H 0 rfl rfl rfl rfl rfl rfl rfl rfl rfl nofun ?_; intro σ H
    apply Ops.nil
    replace H := H.all
    refine .drawnH 12 rfl (by kernel_rfl) H ?_; intro b11 σ H B11
    refine .fieldAddrH (off := 0) (fo := 3) H 3 rfl rfl rfl rfl rfl (fun _ => .inl ⟨B11 3 _ rfl _ rfl, nofun, (fun _ => by kernel_rfl)⟩) rfl (.loadH (off := 3) (v := w9) H 3 rfl rfl rfl rfl rfl (fun _ => .inl ⟨B11 3 _ rfl _ rfl, nofun, (fun _ => by kernel_rfl)⟩) rfl (.fieldAddrH (off := 0) (fo := 0) H 0 rfl rfl rfl rfl rfl (fun _ => .inl ⟨B11 0 _ rfl _ rfl, nofun, (fun _ => by kernel_rfl)⟩) rfl (.loadH (off := 0) (v := (vi x4.Index)) H 0 rfl rfl rfl rfl rfl (fun _ => .inl ⟨B11 0 _ rfl _ rfl, nofun, (fun _ => by kernel_rfl)⟩) rfl ?_)))
    refine .fieldAddrH (off := 0) (fo := 1) H 0 rfl rfl rfl rfl rfl (fun _ => .inl ⟨B11 0 _ rfl _ rfl, nofun, (fun _ => by kernel_rfl)⟩) rfl (.loadH (off := 1) (v := (vl Span.cs x4.Ticks)) H 0 rfl rfl rfl rfl rfl (fun _ => .inl ⟨B11 0 _ rfl _ rfl, nofun, (fun _ => by kernel_rfl)⟩) rfl ?_)
    obtain ⟨x5, q5, h⟩ := bind_some h
    refine .call (ys := [(vl Span.cs x4.Ticks)]) (r := (vl Span.cs x5)) rfl (epactlow_Anew_fn q5) rfl (.buildA (cs := [(vi x4.Index), (vl Span.cs x5)]) rfl rfl (.buildS (sz := 2) ([(Granule.mk x4.Index x5)].map Granule.cs) H (by omega) (by omega) rfl rfl rfl rfl rfl rfl rfl rfl rfl ?_)); intro σ H
    obtain ⟨x6, q6, h⟩ := bind_some h
    refine .appendSt (c := Granule.cs) (v := w9) (w := (.buf (b11 + 8) 1 2)) (xs := s4.2) (ys := [(Granule.mk x4.Index x5)]) H (by omega) (by omega) 2 rfl rfl rfl (.s 0 rfl) q6 rfl rfl rfl rfl rfl (fun h => ⟨(fun id ho => .inl ⟨B11 1 _ rfl id ho, (fun _ => by kernel_rfl), nofun⟩), (fun id ho => .inr ⟨8, (by cases ho; rfl), (fun h => nomatch h), by kernel_rfl, by decide⟩)⟩) rfl ?_; intro w11 σ H
    refine .fieldAddrH (off := 0) (fo := 3) H 4 rfl rfl rfl rfl rfl (fun _ => .inl ⟨B11 3 _ rfl _ rfl, nofun, (fun _ => by kernel_rfl)⟩) rfl (.storeH (off := 3) (v := w11) (ys := [w11]) (cells' := [(vi f.Period), (vi f.Count), w6, w11]) H 4 rfl rfl rfl rfl (H.slCells (k := 2) rfl) rfl rfl rfl rfl (fun _ => .inl ⟨B11 3 _ rfl _ rfl, (fresh_static (by kernel_rfl))⟩) ?_); intro σ H
    apply Ops.nil
    replace H := H.all
    refine .regionH 2 rfl H ?_; intro b12 σ H
    refine .int (m := s4.1) (m' := 1) (r := .int .i64 (w64 (s4.1 + 1))) rfl rfl rfl rfl rfl (.move (v := (vi (w64 (s4.1 + 1)))) rfl rfl ?_)
    apply Ops.nil
    replace H := H.all
    replace h := Option.some.inj h; subst h
    exact ⟨rfl, w11, ⟨rfl, rfl, rfl, rfl, rfl, trivial⟩, ((H.erase 1).erase 0)⟩
   ·replace h := cond_F hc2 h
    apply Runs.exit
    replace h := Option.some.inj h; subst h
    exact ⟨nofun, ⟨w9, rfl, ⟨rfl, rfl, trivial⟩, H⟩⟩
  ·rintro x e σ ⟨w12, rfl, he, H⟩
   obtain ⟨e, rfl⟩ := he.ex
   apply Runs.then
   refine .regionH 2 rfl H ?_; intro b13 σ H
   refine .loadHA (off := 0) (cs := [(vi f.Period), (vi f.Count), w6, w12]) H 2 rfl rfl rfl rfl rfl rfl rfl nofun rfl (.storeH (off := 0) (cells' := [(vi f.Period), (vi f.Count), w6, w12]) H 3 rfl rfl rfl rfl rfl rfl rfl rfl rfl nofun ?_); intro σ H
   apply Ops.nil
   replace H := H.all
   apply Runs.ret
   replace h := Option.some.inj h; subst h
   exact ⟨.inr rfl, _, resD_ok H (.agg (cs := [(vi f.Period), (vi f.Count), w6, w12]) (off := 0) 3 rfl rfl rfl rfl rfl rfl rfl .nil), _, ⟨w6, w12, rfl, rfl⟩, (Has.pickT [.sl w12 45 2 (y2.map Granule.cs) true, .sl w6 31 1 (y1.map (cL Span.cs)) true, .blk (b2 + 5) 25 [(vi f.Period), (vi f.Count), w6, w12], .blk (b1 + 1) 25 [(vi f.Period), (vi f.Count), w6, w12]] [1, 0] (by decide) rfl H)⟩

theorem epactlaw06_twice_fn {f : Form} {times : Int} {r : Form × Bool} (h : epactlaw06_twice f times = some r) : Fn CX 34 [(.agg (vs (Form.cs f))), (vi times)] (.tup [(.agg (vs (Form.cs r.1))), (vb r.2)]) := by
 refine Fn.ends Try.func34 rfl rfl rfl rfl rfl rfl ?_
 have H : Hs (⟨0, fun _ => .none⟩ : Heap) [] := Has.nil (Nat.le_refl _)
 generalize (⟨0, fun _ => .none⟩ : Heap) = σ at H ⊢
 unfold epactlaw06_twice at h
 apply Runs.then
 refine .regionH 3 rfl H ?_; intro b1 σ H
 refine .boxH (cs := (vF f)) H (by omega) (by omega) rfl rfl rfl ?_; intro σ H
 refine .allocH (cs := [(vi 0), (vi 0), .nils, .nils]) H (by omega) (by omega) rfl rfl ?_; intro σ H
 refine .assign (v := (vb false)) rfl rfl ?_
 apply Ops.nil
 replace H := H.all
 apply Runs.then
 refine .regionH 4 rfl H ?_; intro b2 σ H
 refine .loadHA (off := 0) (cs := (vF f)) H 1 rfl rfl rfl rfl rfl rfl rfl nofun rfl ?_
 obtain ⟨x1, q1, h⟩ := bind_some h
 refine .callFO (ys := [(.agg (vs (Form.cs f)))]) H rfl (epactlow_AnewForm_fn q1) nofun rfl ?_; rintro _ _ σ ⟨w1, w2, rfl, rfl⟩ H
 refine .allocH (cs := [(vi 0), (vi 0), .nils, .nils]) H (by omega) (by omega) rfl rfl ?_; intro σ H
 refine .storeH (off := 0) (cells' := [(vi x1.Period), (vi x1.Count), w1, w2]) H 0 rfl rfl rfl rfl rfl rfl rfl rfl rfl nofun ?_; intro σ H
 apply Ops.nil
 replace H := H.all
 apply Runs.then
 apply Runs.then
 refine .regionH 1 rfl H ?_; intro b3 σ H
 refine .assign (v := (vi 1)) rfl rfl ?_
 apply Ops.nil
 replace H := H.all
 apply Runs.inBlock
 obtain ⟨y1, hj1, h⟩ := bind_some h
 obtain ⟨n1, hj1⟩ := loopO_iff.1 hj1
 refine .mono (Runs.loopO hj1 (fun s1 e σ => ∃ (w5 : PV), EnvHas e [(1, (vi times)), (2, (.ptr (b1 + 0) 4 0)), (4, (.ptr (b1 + 1) 4 0)), (6, (.ptr (b2 + 2) 4 0)), (7, (vi s1.1))] ∧ Hs σ [.blk (b2 + 2) 25 [(vi x1.Period), (vi x1.Count), w5, w2], .sl w5 31 1 (s1.2.map (cL Span.cs)) true, .sl w2 45 2 (x1.Odd.map Granule.cs) true, .blk (b1 + 1) 25 [(vi 0), (vi 0), .nils, .nils], .blk (b1 + 0) 25 (vF f)]) (fun y1 x e σ => (∃ a1, ∃ (w6 : PV), y1 = (.go a1) ∧ x = .exit 0 ∧ EnvHas e [(1, (vi times)), (2, (.ptr (b1 + 0) 4 0)), (4, (.ptr (b1 + 1) 4 0)), (6, (.ptr (b2 + 2) 4 0))] ∧ Hs σ [.blk (b2 + 2) 25 [(vi x1.Period), (vi x1.Count), w6, w2], .sl w6 31 1 (a1.map (cL Span.cs)) true, .sl w2 45 2 (x1.Odd.map Granule.cs) true, .blk (b1 + 1) 25 [(vi 0), (vi 0), .nils, .nils], .blk (b1 + 0) 25 (vF f)]) ∨ (∃ r', y1 = (.ret r') ∧ x = .ret ∧ Ends CX Try.f34.results.toList (.tup [(.agg (vs (Form.cs r'.1))), (vb r'.2)]) x e σ)) ⟨w1, ⟨rfl, rfl, rfl, rfl, rfl, trivial⟩, H⟩ ?_) ?_
 ·intro s1 e σ hI z h
  obtain ⟨w5, he, H⟩ := hI
  obtain ⟨e, rfl⟩ := he.ex
  unfold epactlaw06_twice.s0 at h
  apply Runs.then
  apply Runs.then
  refine .regionH 3 rfl H ?_; intro b4 σ H
  refine .move (v := (vi s1.1)) rfl rfl (.move (v := (vi times)) rfl rfl (.int (m := s1.1) (m' := times) (r := .bool (decide (s1.1 < times))) rfl rfl rfl rfl rfl ?_))
  apply Ops.nil
  replace H := H.all
  refine .whether (v := (decide (s1.1 < times))) rfl ?_ ?_ <;> intro hc1
  ·replace h := cond_T hc1 h
   apply Runs.skip
   apply Runs.then
   apply Runs.inBlock
   apply Runs.then
   refine .regionH 4 rfl H ?_; intro b5 σ H
   refine .fieldAddrH (off := 0) (fo := 2) H 4 rfl rfl rfl rfl rfl nofun rfl (.loadH (off := 2) (v := (vl (cL Span.cs) f.Core)) H 4 rfl rfl rfl rfl rfl nofun rfl (.lenPt (c := (cL Span.cs)) (xs := f.Core) rfl rfl rfl (.move (v := (vi 0)) rfl rfl ?_)))
   apply Ops.nil
   replace H := H.all
   apply Runs.inBlock
   obtain ⟨y2, hj2, h⟩ := bind_some h
   obtain ⟨n2, hj2⟩ := loopO_iff.1 hj2
   refine .mono (Runs.loopO hj2 (fun s2 e σ => ∃ (w9 : PV), EnvHas e [(1, (vi times)), (2, (.ptr (b1 + 0) 4 0)), (4, (.ptr (b1 + 1) 4 0)), (6, (.ptr (b2 + 2) 4 0)), (7, (vi s1.1)), (20, (vl (cL Span.cs) f.Core)), (21, (vi (f.Core.length : Int))), (22, (vi s2.1))] ∧ Hs σ [.blk (b2 + 2) 25 [(vi x1.Period), (vi x1.Count), w9, w2], .sl w9 31 1 (s2.2.map (cL Span.cs)) true, .sl w2 45 2 (x1.Odd.map Granule.cs) true, .blk (b1 + 1) 25 [(vi 0), (vi 0), .nils, .nils], .blk (b1 + 0) 25 (vF f)]) (fun y2 x e σ => (∃ a2, ∃ (w10 : PV), y2 = (.go a2) ∧ x = .exit 2 ∧ EnvHas e [(1, (vi times)), (2, (.ptr (b1 + 0) 4 0)), (4, (.ptr (b1 + 1) 4 0)), (6, (.ptr (b2 + 2) 4 0)), (7, (vi s1.1))] ∧ Hs σ [.blk (b2 + 2) 25 [(vi x1.Period), (vi x1.Count), w10, w2], .sl w10 31 1 (a2.map (cL Span.cs)) true, .sl w2 45 2 (x1.Odd.map Granule.cs) true, .blk (b1 + 1) 25 [(vi 0), (vi 0), .nils, .nils], .blk (b1 + 0) 25 (vF f)]) ∨ (∃ r', y2 = (.ret r') ∧ x = .ret ∧ Ends CX Try.f34.results.toList (.tup [(.agg (vs (Form.cs r'.1))), (vb r'.2)]) x e σ)) ⟨w5, ⟨rfl, rfl, rfl, rfl, rfl, rfl, rfl, rfl, trivial⟩, H⟩ ?_) ?_
   ·intro s2 e σ hI z h
    obtain ⟨w9, he, H⟩ := hI
    obtain ⟨e, rfl⟩ := he.ex
    unfold epactlaw06_twice.s1 at h
    apply Runs.then
    refine .regionH 1 rfl H ?_; intro b6 σ H
    refine .int (m := s2.1) (m' := (f.Core.length : Int)) (r := .bool (decide (s2.1 < (f.Core.length : Int)))) rfl rfl rfl rfl rfl ?_
    apply Ops.nil
    replace H := H.all
    apply Runs.then
    refine .whether (v := (decide (s2.1 < (f.Core.length : Int)))) rfl ?_ ?_ <;> intro hc2
    ·replace h := cond_T hc2 h
     apply Runs.skip
     apply Runs.then
     apply Runs.inBlock
     apply Runs.then
     refine .regionH 3 rfl H ?_; intro b7 σ H
     obtain ⟨x2, q2, h⟩ := bind_some h
     refine .indexP (c := (cL Span.cs)) (u := x2) rfl rfl q2 rfl rfl rfl rfl (.loadP (u := (.sl (x2.map Span.cs))) rfl rfl rfl rfl (.assign (v := (vl Span.cs x2)) rfl rfl ?_))
     apply Ops.nil
     replace H := H.all
     apply Runs.then
     refine .regionH 11 rfl H ?_; intro b8 σ H
     refine .move (v := (vl Span.cs x2)) rfl rfl (.move (v := (vi s1.1)) rfl rfl (.fieldAddrH (off := 0) (fo := 0) H 4 rfl rfl rfl rfl rfl nofun rfl (.loadH (off := 0) (v := (vi f.Period)) H 4 rfl rfl rfl rfl rfl nofun rfl ?_)))
     refine .int (m := s1.1) (m' := f.Period) (r := .int .i64 (w64 (s1.1 * f.Period))) rfl rfl rfl rfl rfl ?_
     obtain ⟨x3, q3, h⟩ := bind_some h
     refine .call (ys := [(vl Span.cs x2), (vi (w64 (s1.1 * f.Period)))]) (r := (.tup [(vl Span.cs x3.1), (vi x3.2)])) rfl (spans_Move_fn q3) rfl (.move (v := (.tup [(vl Span.cs x3.1), (vi x3.2)])) rfl rfl (.extract (v := (vl Span.cs x3.1)) rfl rfl rfl (.extract (v := (vi x3.2)) rfl rfl rfl ?_)))
     refine .assign (v := (vl Span.cs x3.1)) rfl rfl (.assign (v := (vi x3.2)) rfl rfl ?_)
     apply Ops.nil
     replace H := H.all
     apply Runs.then
     apply Runs.then
     refine .regionH 2 rfl H ?_; intro b9 σ H
     refine .move (v := (vi x3.2)) rfl rfl (.int (m := x3.2) (m' := 0) (r := .bool (x3.2 != 0)) rfl rfl rfl rfl rfl ?_)
     apply Ops.nil
     replace H := H.all
     refine .whether (v := (x3.2 != 0)) rfl ?_ ?_ <;> intro hc3
     ·replace h := cond_T hc3 h
      apply Runs.then
      refine .regionH 3 rfl H ?_; intro b10 σ H
      refine .loadHA (off := 0) (cs := (vF f)) H 4 rfl rfl rfl rfl rfl rfl rfl nofun rfl (.storeH (off := 0) (cells' := (vF f)) H 3 rfl rfl rfl rfl rfl rfl rfl rfl rfl nofun ?_); intro σ H
      refine .assign (v := (vb false)) rfl rfl ?_
      apply Ops.nil
      replace H := H.all
      apply Runs.ret
      replace h := Option.some.inj h; subst h
      exact ⟨nofun, (.inr ⟨_, rfl, rfl, (Ends.H (xs := [(.agg (vF f)), (vb false)]) (.inr rfl) H (.agg (cs := (vF f)) (off := 0) 3 rfl rfl rfl rfl rfl rfl rfl (.tmp (v := (vb false)) rfl .nil)) (.two (.cons (.p rfl) (.cons (.c (.v _)) .nil))))⟩)⟩
     ·replace h := cond_F hc3 h
      apply Runs.skip
      refine .regionH 7 rfl H ?_; intro b11 σ H
      refine .fieldAddrH (off := 0) (fo := 2) H 0 rfl rfl rfl rfl rfl nofun rfl (.loadH (off := 2) (v := w9) H 0 rfl rfl rfl rfl rfl nofun rfl (.move (v := (vl Span.cs x3.1)) rfl rfl (.buildS (sz := 1) ([x3.1].map (cL Span.cs)) H (by omega) (by omega) rfl rfl rfl rfl rfl rfl rfl rfl rfl ?_))); intro σ H
      obtain ⟨x4, q4, h⟩ := bind_some h
      refine .appendSt (c := (cL Span.cs)) (v := w9) (w := (.buf (b11 + 3) 1 1)) (xs := s2.2) (ys := [x3.1]) H (by omega) (by omega) 2 rfl rfl rfl (.s 0 rfl) q4 rfl rfl rfl rfl rfl nofun rfl ?_; intro w11 σ H
      refine .fieldAddrH (off := 0) (fo := 2) H 1 rfl rfl rfl rfl rfl nofun rfl (.storeH (off := 2) (v := w11) (ys := [w11]) (cells' := [(vi x1.Period), (vi x1.Count), w11, w2]) H 1 rfl rfl rfl rfl (H.slCells (k := 2) rfl) rfl rfl rfl rfl nofun ?_); intro σ H
      apply Ops.nil
      replace H := H.all
      refine .regionH 2 rfl H ?_; intro b12 σ H
      refine .int (m := s2.1) (m' := 1) (r := .int .i64 (w64 (s2.1 + 1))) rfl rfl rfl rfl rfl (.move (v := (vi (w64 (s2.1 + 1)))) rfl rfl ?_)
      apply Ops.nil
      replace H := H.all
      replace h := Option.some.inj h; subst h
      exact ⟨rfl, w11, ⟨rfl, rfl, rfl, rfl, rfl, rfl, rfl, rfl, trivial⟩, (H.erase 0)⟩
    ·replace h := cond_F hc2 h
     apply Runs.exit
     replace h := Option.some.inj h; subst h
     exact ⟨nofun, (.inl ⟨_, w9, rfl, rfl, ⟨rfl, rfl, rfl, rfl, rfl, trivial⟩, H⟩)⟩
   ·rintro x e σ (⟨a3, w12, rfl, rfl, he, H⟩ | ⟨r', rfl, rfl, hE⟩)
    ·skip
     replace h := jgo h
     obtain ⟨e, rfl⟩ := he.ex
     refine .regionH 3 rfl H ?_; intro b13 σ H
     refine .move (v := (vi s1.1)) rfl rfl (.int (m := s1.1) (m' := 1) (r := .int .i64 (w64 (s1.1 + 1))) rfl rfl rfl rfl rfl (.assign (v := (vi (w64 (s1.1 + 1)))) rfl rfl ?_))
     apply Ops.nil
     replace H := H.all
     replace h := Option.some.inj h; subst h
     exact ⟨rfl, w12, ⟨rfl, rfl, rfl, rfl, rfl, trivial⟩, H⟩
    ·skip
     replace h := jret h
     replace h := Option.some.inj h; subst h
     exact ⟨nofun, (.inr ⟨_, rfl, rfl, hE⟩)⟩
  ·replace h := cond_F hc1 h
   apply Runs.exit
   replace h := Option.some.inj h; subst h
   exact ⟨nofun, (.inl ⟨_, w5, rfl, rfl, ⟨rfl, rfl, rfl, rfl, trivial⟩, H⟩)⟩
 ·rintro x e σ (⟨a4, w13, rfl, rfl, he, H⟩ | ⟨r', rfl, rfl, hE⟩)
  ·skip
   replace h := jgo h
   obtain ⟨e, rfl⟩ := he.ex
   apply Runs.then
   refine .drawnH 12 rfl (by kernel_rfl) H ?_; intro b14 σ H B14
   refine .fieldAddrH (off := 0) (fo := 1) H 4 rfl rfl rfl rfl rfl (fun _ => .inl ⟨B14 4 _ rfl _ rfl, nofun, (fun _ => by kernel_rfl)⟩) rfl (.loadH (off := 1) (v := (vi f.Count)) H 4 rfl rfl rfl rfl rfl (fun _ => .inl ⟨B14 4 _ rfl _ rfl, nofun, (fun _ => by kernel_rfl)⟩) rfl (.move (v := (vi times)) rfl rfl (.int (m := f.Count) (m' := times) (r := .int .i64 (w64 (f.Count * times))) rfl rfl rfl rfl rfl ?_)))
   refine .fieldAddrH (off := 0) (fo := 0) H 4 rfl rfl rfl rfl rfl (fun _ => .inl ⟨B14 4 _ rfl _ rfl, nofun, (fun _ => by kernel_rfl)⟩) rfl (.loadHR (off := 0) (v := (vi f.Period)) H 4 rfl rfl rfl rfl rfl (fun _ => ⟨B14 4 _ rfl _ rfl, _, rfl, mem_one⟩) rfl (.move (v := (vi times)) rfl rfl (.int (m := f.Period) (m' := times) (r := .int .i64 (w64 (f.Period * times))) rfl rfl rfl rfl rfl ?_)))
   refine .fieldAddrH (off := 0) (fo := 1) H 0 rfl rfl rfl rfl rfl (fun _ => .inl ⟨B14 0 _ rfl _ rfl, nofun, (fun _ => by kernel_rfl)⟩) rfl (.storeH (off := 1) (cells' := [(vi x1.Period), (vi (w64 (f.Count * times))), w13, w2]) H 0 rfl rfl rfl rfl rfl rfl rfl rfl rfl (fun _ => .inl ⟨B14 0 _ rfl _ rfl, (fresh_else [4, 5] (by kernel_rfl) (.cons rfl rfl (ne_one (H.ne (j := 0) (k := 4) rfl rfl rfl rfl rfl)) (.cons rfl rfl (ne_one (H.ne (j := 0) (k := 4) rfl rfl rfl rfl rfl)) .nil)))⟩) ?_); intro σ H
   refine .fieldAddrH (off := 0) (fo := 0) H 0 rfl rfl rfl rfl rfl (fun _ => .inl ⟨B14 0 _ rfl _ rfl, nofun, (fun _ => by kernel_rfl)⟩) rfl (.storeH (off := 0) (cells' := [(vi (w64 (f.Period * times))), (vi (w64 (f.Count * times))), w13, w2]) H 0 rfl rfl rfl rfl rfl rfl rfl rfl rfl (fun _ => .inl ⟨B14 0 _ rfl _ rfl, (fresh_static (by kernel_rfl))⟩) ?_); intro σ H
   apply Ops.nil
   replace H := H.all
   apply Runs.then
   refine .regionH 3 rfl H ?_; intro b15 σ H
   refine .loadHA (off := 0) (cs := [(vi (w64 (f.Period * times))), (vi (w64 (f.Count * times))), w13, w2]) H 0 rfl rfl rfl rfl rfl rfl rfl nofun rfl (.storeH (off := 0) (cells' := [(vi (w64 (f.Period * times))), (vi (w64 (f.Count * times))), w13, w2]) H 3 rfl rfl rfl rfl rfl rfl rfl rfl rfl nofun ?_); intro σ H
   refine .assign (v := (vb true)) rfl rfl ?_
   apply Ops.nil
   replace H := H.all
   apply Runs.ret
   replace h := Option.some.inj h; subst h
   exact (Ends.H (xs := [(.agg [(vi (w64 (f.Period * times))), (vi (w64 (f.Count * times))), w13, w2]), (vb true)]) (.inr rfl) H (.agg (cs := [(vi (w64 (f.Period * times))), (vi (w64 (f.Count * times))), w13, w2]) (off := 0) 3 rfl rfl rfl rfl rfl rfl rfl (.tmp (v := (vb true)) rfl .nil)) (.two (.cons (.a (.cons (.v _) (.cons (.v _) (.cons (.s 1 rfl) (.cons (.s 2 rfl) .nil))))) (.cons (.c (.v _)) .nil))))
  ·skip
   replace h := jret h
   replace h := Option.some.inj h; subst h
   exact hE

theorem canon_bare_1_fn {l : (List Span)} {r : Bool} (h : canon_bare_1 l = r) : Fn CX 79 [(vl Span.cs l)] (vb r) := by
 refine Fn.ends Try.func79 rfl rfl rfl rfl rfl rfl ?_
 have H : Hs (⟨0, fun _ => .none⟩ : Heap) [] := Has.nil (Nat.le_refl _)
 generalize (⟨0, fun _ => .none⟩ : Heap) = σ at H ⊢
 unfold canon_bare_1 at h
 apply Runs.then
 refine .regionH 1 rfl H ?_; intro b1 σ H
 refine .assign (v := (vb false)) rfl rfl ?_
 apply Ops.nil
 replace H := H.all
 apply Runs.then
 refine .regionH 4 rfl H ?_; intro b2 σ H
 refine .move (v := (vl Span.cs l)) rfl rfl (.lenPt (c := Span.cs) (xs := l) rfl rfl rfl (.int (m := (l.length : Int)) (m' := 0) (r := .bool (decide ((l.length : Int) > 0))) rfl rfl rfl rfl rfl (.assign (v := (vb (decide ((l.length : Int) > 0)))) rfl rfl ?_)))
 apply Ops.nil
 replace H := H.all
 apply Runs.ret
 subst h
 exact (Ends.H (xs := [(vb (decide ((l.length : Int) > 0)))]) (.inr rfl) H (.tmp (v := (vb (decide ((l.length : Int) > 0)))) rfl .nil) (.one (.c (.v _))))

theorem canon_bare_fn {f : Form} {r : Bool} (h : canon_bare f = some r) : Fn CX 64 [(.agg (vs (Form.cs f)))] (vb r) := by
 refine Fn.ends Try.func64 rfl rfl rfl rfl rfl rfl ?_
 have H : Hs (⟨0, fun _ => .none⟩ : Heap) [] := Has.nil (Nat.le_refl _)
 generalize (⟨0, fun _ => .none⟩ : Heap) = σ at H ⊢
 unfold canon_bare at h
 apply Runs.then
 refine .regionH 2 rfl H ?_; intro b1 σ H
 refine .boxH (cs := (vF f)) H (by omega) (by omega) rfl rfl rfl ?_; intro σ H
 refine .assign (v := (vb false)) rfl rfl ?_
 apply Ops.nil
 replace H := H.all
 apply Runs.then
 refine .regionH 5 rfl H ?_; intro b2 σ H
 refine .fieldAddrH (off := 0) (fo := 2) H 0 rfl rfl rfl rfl rfl nofun rfl (.loadH (off := 2) (v := (vl (cL Span.cs) f.Core)) H 0 rfl rfl rfl rfl rfl nofun rfl ?_)
 obtain ⟨x1, q1, h⟩ := bind_some h
 refine .callH (ys := [(vl (cL Span.cs) f.Core), (.v (.fn 79))]) (r := (vb x1)) H rfl (slices_ContainsFunc_SSSpan_SSpan_fn (C := []) rfl (fun _ => rfl) (fun z0 y hz => (CloH.fn (Fn.toH (canon_bare_1_fn (Option.some.inj hz)) _))) q1) .nil nofun rfl ?_; intro σ H
 refine .not (b := x1) rfl rfl (.assign (v := (vb (!x1))) rfl rfl ?_)
 apply Ops.nil
 replace H := H.all
 apply Runs.ret
 replace h := Option.some.inj h; subst h
 exact (Ends.H (xs := [(vb (!x1))]) (.inr rfl) H (.tmp (v := (vb (!x1))) rfl .nil) (.one (.c (.v _))))

theorem canon_divisors_fn {n : Int} {σ : Heap} {lo hi : Nat} {L : List Res} (H : Has σ lo hi L) : ∃ r σ', callL CX (.fn 65) [(vi n)] σ = some (r, σ') ∧ ∃ i0' : Nat, r = (.clo 80 [] [(.ptr i0' 1 0)]) ∧ Hs σ' (.blk i0' 3 [(vi n)] :: L) := by
 refine callO_of (Post := fun r σ' => ∃ i0' : Nat, r = (.clo 80 [] [(.ptr i0' 1 0)]) ∧ Hs σ' (.blk i0' 3 [(vi n)] :: L)) Try.func65 rfl rfl rfl rfl rfl rfl ?_
 replace H := H.all
 apply Runs.then
 refine .regionH 2 rfl H ?_; intro b1 σ H
 refine .boxH (cs := [(vi n)]) H (by omega) (by omega) rfl rfl rfl ?_; intro σ H
 refine .assign (v := (.v .nilf)) rfl rfl ?_
 apply Ops.nil
 replace H := H.all
 apply Runs.then
 refine .regionH 2 rfl H ?_; intro b2 σ H
 refine .makeClo (fs := []) (cs := [(.ptr (b1 + 0) 1 0)]) rfl rfl rfl rfl (.assign (v := (.clo 80 [] [(.ptr (b1 + 0) 1 0)])) rfl rfl ?_)
 apply Ops.nil
 replace H := H.all
 apply Runs.ret
 exact ⟨.inr rfl, [(.clo 80 [] [(.ptr (b1 + 0) 1 0)])], resD_ok H (.tmp (v := (.clo 80 [] [(.ptr (b1 + 0) 1 0)])) rfl .nil), (b1 + 0), rfl, H.all⟩

theorem canon_divisors_1_fn {p1' : Int} {S : Type} {C : S → List Res → Prop} {yield : S → Int → Option (S × Bool)} {yid : Nat} {id0' : Nat} (hy : YldH CX yid C (fun z => [(vi z)]) yield) (hcap : ∀ s L, C s L → Sub [.blk id0' 3 [(vi p1')]] L) {st' r : S} (h : canon_divisors_1 p1' yield st' = some r) : ItF CX 80 [(.yld yid), (.ptr id0' 1 0)] C st' r := by
 refine ItF.of Try.func80 rfl rfl rfl rfl rfl rfl rfl rfl ?_
 intro σ L hC H
 have hc0 := hcap _ _ hC
 obtain ⟨k0', hk0', hc0⟩ := hc0.inv
 unfold canon_divisors_1 at h
 apply Runs.then
 refine .regionH 1 rfl H ?_; intro b1 σ H
 refine .assign (v := (vi 1)) rfl rfl ?_
 apply Ops.nil
 replace H := H.all
 apply Runs.inBlock
 obtain ⟨y1, hj1, h⟩ := bind_some h
 obtain ⟨n1, hj1⟩ := loopO_iff.1 hj1
 refine .mono (Runs.loopO hj1 (fun s1 e σ => ∃ (L : List Res), C s1.2 L ∧ EnvHas e [(0, (.yld yid)), (1, (.ptr id0' 1 0)), (3, (vi s1.1))] ∧ Hs σ (L)) (fun y1 x e σ => (∃ a1, ∃ (L : List Res), C a1 L ∧ y1 = (.go a1) ∧ x = .exit 0 ∧ EnvHas e [] ∧ Hs σ (L)) ∨ (∃ r', y1 = (.ret r') ∧ x = .ret ∧ EndsI C r' x e σ)) ⟨_, hC, ⟨rfl, rfl, rfl, trivial⟩, H⟩ ?_) ?_
 ·intro s1 e σ hI z h
  obtain ⟨L, hC, he, H⟩ := hI
  obtain ⟨e, rfl⟩ := he.ex
  have hc0 := hcap _ _ hC
  obtain ⟨k0', hk0', hc0⟩ := hc0.inv
  unfold canon_divisors_1.s0 at h
  apply Runs.then
  apply Runs.then
  refine .regionH 3 rfl H ?_; intro b2 σ H
  refine .move (v := (vi s1.1)) rfl rfl (.loadH (off := 0) (v := (vi p1')) H k0' hk0' rfl rfl rfl rfl nofun rfl (.int (m := s1.1) (m' := p1') (r := .bool (decide (s1.1 ≤ p1'))) rfl rfl rfl rfl rfl ?_))
  apply Ops.nil
  replace H := H.all
  refine .whether (v := (decide (s1.1 ≤ p1'))) rfl ?_ ?_ <;> intro hc1
  ·replace h := cond_T hc1 h
   apply Runs.skip
   apply Runs.then
   apply Runs.inBlock
   apply Runs.then
   refine .regionH 10 rfl H ?_; intro b3 σ H
   refine .loadH (off := 0) (v := (vi p1')) H k0' hk0' rfl rfl rfl rfl nofun rfl (.move (v := (vi s1.1)) rfl rfl ?_)
   obtain ⟨u1, q1, h⟩ := bind_some h
   refine .rem (m := p1') (m' := s1.1) rfl rfl (nz_ne q1) rfl (.int (m := (p1'.tmod s1.1)) (m' := 0) (r := .bool ((p1'.tmod s1.1) == 0)) rfl rfl rfl rfl rfl (.move (v := (vb ((p1'.tmod s1.1) == 0))) rfl rfl ?_))
   obtain ⟨y2, hj2, h⟩ := bind_some h
   refine .mid 5 (K1 := fun e σ => ∃ L, C y2.2 L ∧ EnvHas e [(18, (vb y2.1)), (0, (.yld yid)), (1, (.ptr id0' 1 0)), (3, (vi s1.1))] ∧ Hs σ (L)) rfl ?_ ?_
   ·refine .split rfl rfl ?_ ?_ <;> intro hc2
    ·replace h := cond_T hc2 hj2
     refine .wanted rfl rfl (.move (v := (.yld yid)) rfl rfl (.wanted rfl rfl (.move (v := (vi s1.1)) rfl rfl ?_)))
     refine .wanted rfl rfl ?_
     obtain ⟨x1, q2, h⟩ := bind_some h
     refine .callY (z := s1.1) (s' := x1.1) (b := x1.2) [] H hC rfl rfl hy q2 rfl rfl ?_; intro σ L hC H
     have hc0 := hcap _ _ hC
     obtain ⟨k0', hk0', hc0⟩ := hc0.inv
     refine .wanted rfl rfl (.not (b := x1.2) rfl rfl (.pickT (v := (vb (!x1.2))) rfl rfl rfl ?_))
     apply Ops.nil
     replace h := Option.some.inj h; subst h
     exact ⟨_, hC, ⟨rfl, rfl, rfl, rfl, trivial⟩, H.all⟩
    ·replace h := cond_F hc2 hj2
     refine .pass rfl rfl rfl (.pass rfl rfl rfl (.pass rfl rfl rfl (.pass rfl rfl rfl ?_)))
     refine .pickF (v := (vb false)) rfl rfl rfl ?_
     apply Ops.nil
     replace h := Option.some.inj h; subst h
     exact ⟨_, hC, ⟨rfl, rfl, rfl, rfl, trivial⟩, H.all⟩
   ·rintro e σ ⟨L, hC, he, H⟩
    obtain ⟨e, rfl⟩ := he.ex
    have hc0 := hcap _ _ hC
    obtain ⟨k0', hk0', hc0⟩ := hc0.inv
    apply Ops.nil
    replace H := H.all
    refine .whether (v := y2.1) rfl ?_ ?_ <;> intro hc3
    ·replace h := cond_T hc3 h
     apply Runs.ret
     replace h := Option.some.inj h; subst h
     exact ⟨nofun, (.inr ⟨_, rfl, rfl, (EndsI.H (.inr rfl) H 0 rfl hC)⟩)⟩
    ·replace h := cond_F hc3 h
     apply Runs.skip
     refine .regionH 3 rfl H ?_; intro b4 σ H
     refine .move (v := (vi s1.1)) rfl rfl (.int (m := s1.1) (m' := 1) (r := .int .i64 (w64 (s1.1 + 1))) rfl rfl rfl rfl rfl (.assign (v := (vi (w64 (s1.1 + 1)))) rfl rfl ?_))
     apply Ops.nil
     replace H := H.all
     replace h := Option.some.inj h; subst h
     exact ⟨rfl, _, hC, ⟨rfl, rfl, rfl, trivial⟩, H⟩
  ·replace h := cond_F hc1 h
   apply Runs.exit
   replace h := Option.some.inj h; subst h
   exact ⟨nofun, (.inl ⟨_, _, hC, rfl, rfl, trivial, H⟩)⟩
 ·rintro x e σ (⟨a2, L, hC, rfl, rfl, he, H⟩ | ⟨r', rfl, rfl, hE⟩)
  ·skip
   replace h := jgo h
   obtain ⟨e, rfl⟩ := he.ex
   have hc0 := hcap _ _ hC
   obtain ⟨k0', hk0', hc0⟩ := hc0.inv
   replace h := Option.some.inj h; subst h
   exact (EndsI.H (.inl rfl) H 0 rfl hC)
  ·skip
   replace h := jret h
   replace h := Option.some.inj h; subst h
   exact hE

theorem slices_EqualFunc_SSpan_SSpan_Span_Span_fn {s1' : (List Span)} {s2' : (List Span)} {eq : Span → Span → Option Bool} {C : List Res} {cv0 : PV} (hs0 : cv0.still = true) (hp0 : cv0.pure = true → C = []) (hf0 : ∀ z0 z1 y, eq z0 z1 = some y → CloH CX cv0 [(.agg (vs (Span.cs z0))), (.agg (vs (Span.cs z1)))] (vb y) C) {r : Bool} (h : slices_EqualFunc_SSpan_SSpan_Span_Span s1' s2' eq = some r) : FnH CX 84 [(vl Span.cs s1'), (vl Span.cs s2'), cv0] (vb r) C := by
 refine FnH.of Try.func84 rfl rfl rfl rfl (all_t rfl (all_t rfl (all_t hs0 all_nil))) rfl (fun h => hp0 (all_get h 2 rfl)) ?_
 intro σ L hC H
 unfold slices_EqualFunc_SSpan_SSpan_Span_Span at h
 apply Runs.then
 refine .regionH 1 rfl H ?_; intro b1 σ H
 refine .assign (v := (vb false)) rfl rfl ?_
 apply Ops.nil
 replace H := H.all
 apply Runs.then
 apply Runs.then
 refine .regionH 5 rfl H ?_; intro b2 σ H
 refine .move (v := (vl Span.cs s1')) rfl rfl (.lenPt (c := Span.cs) (xs := s1') rfl rfl rfl (.move (v := (vl Span.cs s2')) rfl rfl (.lenPt (c := Span.cs) (xs := s2') rfl rfl rfl ?_)))
 refine .int (m := (s1'.length : Int)) (m' := (s2'.length : Int)) (r := .bool ((s1'.length : Int) != (s2'.length : Int))) rfl rfl rfl rfl rfl ?_
 apply Ops.nil
 replace H := H.all
 refine .whether (v := ((s1'.length : Int) != (s2'.length : Int))) rfl ?_ ?_ <;> intro hc1
 ·replace h := cond_T hc1 h
  apply Runs.then
  refine .regionH 1 rfl H ?_; intro b3 σ H
  refine .assign (v := (vb false)) rfl rfl ?_
  apply Ops.nil
  replace H := H.all
  apply Runs.ret
  replace h := Option.some.inj h; subst h
  exact (EndsH.H (xs := [(vb false)]) (.inr rfl) H (.tmp (v := (vb false)) rfl .nil) (.one (.c (.v _))) 0 rfl)
 ·replace h := cond_F hc1 h
  apply Runs.skip
  apply Runs.then
  apply Runs.then
  refine .regionH 3 rfl H ?_; intro b4 σ H
  refine .move (v := (vl Span.cs s1')) rfl rfl (.lenPt (c := Span.cs) (xs := s1') rfl rfl rfl (.move (v := (vi 0)) rfl rfl ?_))
  apply Ops.nil
  replace H := H.all
  apply Runs.inBlock
  obtain ⟨y1, hj1, h⟩ := bind_some h
  obtain ⟨n1, hj1⟩ := loopO_iff.1 hj1
  refine .mono (Runs.loopO hj1 (fun s1 e σ => EnvHas e [(1, (vl Span.cs s2')), (2, cv0), (15, (vl Span.cs s1')), (16, (vi (s1'.length : Int))), (17, (vi s1))] ∧ Hs σ (L)) (fun y1 x e σ => (∃ a1, y1 = (.go a1) ∧ x = .exit 0 ∧ EnvHas e [] ∧ Hs σ (L)) ∨ (∃ r', y1 = (.ret r') ∧ x = .ret ∧ EndsH CX Try.f84.results.toList (vb r') L x e σ)) ⟨⟨rfl, rfl, rfl, rfl, rfl, trivial⟩, H⟩ ?_) ?_
  ·intro s1 e σ hI z h
   obtain ⟨he, H⟩ := hI
   obtain ⟨e, rfl⟩ := he.ex
   unfold slices_EqualFunc_SSpan_SSpan_Span_Span.s0 at h
   apply Runs.then
   refine .regionH 1 rfl H ?_; intro b5 σ H
   refine .int (m := s1) (m' := (s1'.length : Int)) (r := .bool (decide (s1 < (s1'.length : Int)))) rfl rfl rfl rfl rfl ?_
   apply Ops.nil
   replace H := H.all
   apply Runs.then
   refine .whether (v := (decide (s1 < (s1'.length : Int)))) rfl ?_ ?_ <;> intro hc2
   ·replace h := cond_T hc2 h
    apply Runs.skip
    apply Runs.then
    apply Runs.inBlock
    apply Runs.then
    refine .regionH 6 rfl H ?_; intro b6 σ H
    refine .move (v := (vi s1)) rfl rfl ?_
    obtain ⟨x1, q1, h⟩ := bind_some h
    refine .indexP (c := Span.cs) (u := x1) rfl rfl q1 rfl rfl rfl rfl (.loadPA (cs := [(.int .i64 x1.From), (.int .i64 x1.To)]) rfl rfl rfl rfl rfl rfl (.allocH (cs := [(vi 0), (vi 0)]) H (by omega) (by omega) rfl rfl ?_)); intro σ H
    refine .assign (v := (vi s1)) rfl rfl (.storeH (off := 0) (cells' := [(vi x1.From), (vi x1.To)]) H 0 rfl rfl rfl rfl rfl rfl rfl rfl rfl nofun ?_); intro σ H
    apply Ops.nil
    replace H := H.all
    apply Runs.then
    refine .regionH 6 rfl H ?_; intro b7 σ H
    refine .move (v := (vl Span.cs s2')) rfl rfl (.move (v := (vi s1)) rfl rfl ?_)
    obtain ⟨x2, q2, h⟩ := bind_some h
    refine .indexP (c := Span.cs) (u := x2) rfl rfl q2 rfl rfl rfl rfl (.loadPA (cs := [(.int .i64 x2.From), (.int .i64 x2.To)]) rfl rfl rfl rfl rfl rfl (.allocH (cs := [(vi 0), (vi 0)]) H (by omega) (by omega) rfl rfl ?_)); intro σ H
    refine .storeH (off := 0) (cells' := [(vi x2.From), (vi x2.To)]) H 0 rfl rfl rfl rfl rfl rfl rfl rfl rfl nofun ?_; intro σ H
    apply Ops.nil
    replace H := H.all
    apply Runs.then
    refine .regionH 5 rfl H ?_; intro b8 σ H
    refine .move (v := cv0) rfl rfl (.loadHA (off := 0) (cs := [(vi x1.From), (vi x1.To)]) H 1 rfl rfl rfl rfl rfl rfl rfl nofun rfl (.loadHA (off := 0) (cs := [(vi x2.From), (vi x2.To)]) H 0 rfl rfl rfl rfl rfl rfl rfl nofun rfl ?_))
    obtain ⟨x3, q3, h⟩ := bind_some h
    refine .callV (cv := cv0) (ys := [(.agg (vs (Span.cs x1))), (.agg (vs (Span.cs x2)))]) (r := (vb x3)) H rfl rfl (hf0 x1 x2 _ q3) hC.push.push nofun rfl ?_; intro σ H
    refine .not (b := x3) rfl rfl ?_
    apply Ops.nil
    replace H := H.all
    refine .whether (v := (!x3)) rfl ?_ ?_ <;> intro hc3
    ·replace h := cond_T hc3 h
     apply Runs.then
     refine .regionH 1 rfl H ?_; intro b9 σ H
     refine .assign (v := (vb false)) rfl rfl ?_
     apply Ops.nil
     replace H := H.all
     apply Runs.ret
     replace h := Option.some.inj h; subst h
     exact ⟨nofun, (.inr ⟨_, rfl, rfl, (EndsH.H (xs := [(vb false)]) (.inr rfl) H (.tmp (v := (vb false)) rfl .nil) (.one (.c (.v _))) 2 rfl)⟩)⟩
    ·replace h := cond_F hc3 h
     apply Runs.skip
     refine .regionH 2 rfl H ?_; intro b10 σ H
     refine .int (m := s1) (m' := 1) (r := .int .i64 (w64 (s1 + 1))) rfl rfl rfl rfl rfl (.move (v := (vi (w64 (s1 + 1)))) rfl rfl ?_)
     apply Ops.nil
     replace H := H.all
     replace h := Option.some.inj h; subst h
     exact ⟨rfl, ⟨rfl, rfl, rfl, rfl, rfl, trivial⟩, ((H.erase 1).erase 0)⟩
   ·replace h := cond_F hc2 h
    apply Runs.exit
    replace h := Option.some.inj h; subst h
    exact ⟨nofun, (.inl ⟨_, rfl, rfl, trivial, H⟩)⟩
  ·rintro x e σ (⟨a2, rfl, rfl, he, H⟩ | ⟨r', rfl, rfl, hE⟩)
   ·skip
    replace h := jgo h
    obtain ⟨e, rfl⟩ := he.ex
    apply Runs.then
    refine .regionH 1 rfl H ?_; intro b11 σ H
    refine .assign (v := (vb true)) rfl rfl ?_
    apply Ops.nil
    replace H := H.all
    apply Runs.ret
    replace h := Option.some.inj h; subst h
    exact (EndsH.H (xs := [(vb true)]) (.inr rfl) H (.tmp (v := (vb true)) rfl .nil) (.one (.c (.v _))) 0 rfl)
   ·skip
    replace h := jret h
    replace h := Option.some.inj h; subst h
    exact hE

theorem canon_shifted_1_fn {x' : Span} {y : Span} {p2' : Int} {id0' : Nat} {r : Bool} (h : canon_shifted_1 x' y p2' = r) : FnH CX 85 [(.agg (vs (Span.cs x'))), (.agg (vs (Span.cs y))), (.ptr id0' 1 0)] (vb r) [.blk id0' 3 [(vi p2')]] := by
 refine FnH.of Try.func85 rfl rfl rfl rfl rfl rfl (fun h => by have := all_get h 2 rfl; cases this) ?_
 intro σ L hC H
 have hC0 := hC
 obtain ⟨k0', hk0', hC⟩ := hC.inv
 unfold canon_shifted_1 at h
 apply Runs.then
 refine .regionH 3 rfl H ?_; intro b1 σ H
 refine .boxH (cs := [(vi x'.From), (vi x'.To)]) H (by omega) (by omega) rfl rfl rfl ?_; intro σ H
 refine .boxH (cs := [(vi y.From), (vi y.To)]) H (by omega) (by omega) rfl rfl rfl ?_; intro σ H
 refine .assign (v := (vb false)) rfl rfl ?_
 apply Ops.nil
 replace H := H.all
 apply Runs.then
 refine .regionH 17 rfl H ?_; intro b2 σ H
 refine .fieldAddrH (off := 0) (fo := 0) H 0 rfl rfl rfl rfl rfl nofun rfl (.loadH (off := 0) (v := (vi y.From)) H 0 rfl rfl rfl rfl rfl nofun rfl (.fieldAddrH (off := 0) (fo := 0) H 1 rfl rfl rfl rfl rfl nofun rfl (.loadH (off := 0) (v := (vi x'.From)) H 1 rfl rfl rfl rfl rfl nofun rfl ?_)))
 refine .int (m := y.From) (m' := x'.From) (r := .int .i64 (w64 (y.From - x'.From))) rfl rfl rfl rfl rfl (.loadH (off := 0) (v := (vi p2')) H (k0' + 2) hk0' rfl rfl rfl rfl nofun rfl (.int (m := (w64 (y.From - x'.From))) (m' := p2') (r := .bool ((w64 (y.From - x'.From)) == p2')) rfl rfl rfl rfl rfl (.move (v := (vb ((w64 (y.From - x'.From)) == p2'))) rfl rfl ?_)))
 refine .mid 8 (K1 := fun e σ => EnvHas e [(21, (vb (((w64 (y.From - x'.From)) == p2') && ((w64 (y.To - x'.To)) == p2'))))] ∧ Has σ (b2 + 16) (b2 + 17) (L)) rfl ?_ ?_
 ·refine .split rfl rfl ?_ ?_ <;> intro hc1
  ·skip
   refine .wanted rfl rfl (.fieldAddrH (off := 0) (fo := 1) H 0 rfl rfl rfl rfl rfl nofun rfl (.wanted rfl rfl (.loadH (off := 1) (v := (vi y.To)) H 0 rfl rfl rfl rfl rfl nofun rfl ?_)))
   refine .wanted rfl rfl (.fieldAddrH (off := 0) (fo := 1) H 1 rfl rfl rfl rfl rfl nofun rfl (.wanted rfl rfl (.loadH (off := 1) (v := (vi x'.To)) H 1 rfl rfl rfl rfl rfl nofun rfl ?_)))
   refine .wanted rfl rfl (.int (m := y.To) (m' := x'.To) (r := .int .i64 (w64 (y.To - x'.To))) rfl rfl rfl rfl rfl (.wanted rfl rfl (.loadH (off := 0) (v := (vi p2')) H (k0' + 2) hk0' rfl rfl rfl rfl nofun rfl ?_)))
   refine .wanted rfl rfl (.int (m := (w64 (y.To - x'.To))) (m' := p2') (r := .bool ((w64 (y.To - x'.To)) == p2')) rfl rfl rfl rfl rfl (.pickT (v := (vb ((w64 (y.To - x'.To)) == p2'))) rfl rfl rfl ?_))
   apply Ops.nil
   exact ⟨⟨and_T hc1, trivial⟩, ((H.erase 1).erase 0).weak (by omega) (Nat.le_refl _)⟩
  ·skip
   refine .pass rfl rfl rfl (.pass rfl rfl rfl (.pass rfl rfl rfl (.pass rfl rfl rfl ?_)))
   refine .pass rfl rfl rfl (.pass rfl rfl rfl (.pass rfl rfl rfl (.pickF (v := (vb false)) rfl rfl rfl ?_)))
   apply Ops.nil
   exact ⟨⟨and_F hc1, trivial⟩, ((H.erase 1).erase 0).weak (by omega) (Nat.le_refl _)⟩
 ·rintro e σ ⟨he, H⟩
  obtain ⟨e, rfl⟩ := he.ex
  refine .assign (v := (vb (((w64 (y.From - x'.From)) == p2') && ((w64 (y.To - x'.To)) == p2')))) rfl rfl ?_
  apply Ops.nil
  replace H := H.all
  apply Runs.ret
  subst h
  exact (EndsH.H (xs := [(vb (((w64 (y.From - x'.From)) == p2') && ((w64 (y.To - x'.To)) == p2')))]) (.inr rfl) H (.tmp (v := (vb (((w64 (y.From - x'.From)) == p2') && ((w64 (y.To - x'.To)) == p2')))) rfl .nil) (.one (.c (.v _))) 0 rfl)

theorem canon_shifted_fn {a : (List Span)} {b : (List Span)} {by' : Int} {r : Bool} (h : canon_shifted a b by' = some r) : Fn CX 81 [(vl Span.cs a), (vl Span.cs b), (vi by')] (vb r) := by
 refine Fn.ends Try.func81 rfl rfl rfl rfl rfl rfl ?_
 have H : Hs (⟨0, fun _ => .none⟩ : Heap) [] := Has.nil (Nat.le_refl _)
 generalize (⟨0, fun _ => .none⟩ : Heap) = σ at H ⊢
 unfold canon_shifted at h
 apply Runs.then
 refine .regionH 2 rfl H ?_; intro b1 σ H
 refine .boxH (cs := [(vi by')]) H (by omega) (by omega) rfl rfl rfl ?_; intro σ H
 refine .assign (v := (vb false)) rfl rfl ?_
 apply Ops.nil
 replace H := H.all
 apply Runs.then
 refine .regionH 5 rfl H ?_; intro b2 σ H
 refine .move (v := (vl Span.cs a)) rfl rfl (.move (v := (vl Span.cs b)) rfl rfl (.makeClo (fs := []) (cs := [(.ptr (b1 + 0) 1 0)]) rfl rfl rfl rfl ?_))
 obtain ⟨x1, q1, h⟩ := bind_some h
 refine .callH (ys := [(vl Span.cs a), (vl Span.cs b), (.clo 85 [] [(.ptr (b1 + 0) 1 0)])]) (r := (vb x1)) H rfl (slices_EqualFunc_SSpan_SSpan_Span_Span_fn (C := [.blk (b1 + 0) 3 [(vi by')]]) rfl (fun h => by simp [PV.pure] at h) (fun z0 z1 y hz => (CloH.clo (canon_shifted_1_fn (Option.some.inj hz)))) q1) (.cons 0 rfl .nil) nofun rfl ?_; intro σ H
 refine .assign (v := (vb x1)) rfl rfl ?_
 apply Ops.nil
 replace H := H.all
 apply Runs.ret
 replace h := Option.some.inj h; subst h
 exact (Ends.H (xs := [(vb x1)]) (.inr rfl) H (.tmp (v := (vb x1)) rfl .nil) (.one (.c (.v _))))

end Go.Dn

namespace Go.Dn
open Go Go.Proofs
set_option maxRecDepth 100000
set_option maxHeartbeats 4000000

theorem canon_turn_fn {f : Form} {d : Int} {by' : Int} {r : Bool} (h : canon_turn f d by' = some r) : Fn CX 66 [(.agg (vs (Form.cs f))), (vi d), (vi by')] (vb r) := by
 refine Fn.ends Try.func66 rfl rfl rfl rfl rfl rfl ?_
 have H : Hs (⟨0, fun _ => .none⟩ : Heap) [] := Has.nil (Nat.le_refl _)
 generalize (⟨0, fun _ => .none⟩ : Heap) = σ at H ⊢
 unfold canon_turn at h
 apply Runs.then
 refine .regionH 2 rfl H ?_; intro b1 σ H
 refine .boxH (cs := (vF f)) H (by omega) (by omega) rfl rfl rfl ?_; intro σ H
 refine .assign (v := (vb false)) rfl rfl ?_
 apply Ops.nil
 replace H := H.all
 apply Runs.then
 apply Runs.then
 refine .regionH 4 rfl H ?_; intro b2 σ H
 refine .fieldAddrH (off := 0) (fo := 2) H 0 rfl rfl rfl rfl rfl nofun rfl (.loadH (off := 2) (v := (vl (cL Span.cs) f.Core)) H 0 rfl rfl rfl rfl rfl nofun rfl (.lenPt (c := (cL Span.cs)) (xs := f.Core) rfl rfl rfl (.move (v := (vi 0)) rfl rfl ?_)))
 apply Ops.nil
 replace H := H.all
 apply Runs.inBlock
 obtain ⟨y1, hj1, h⟩ := bind_some h
 obtain ⟨n1, hj1⟩ := loopO_iff.1 hj1
 refine .mono (Runs.loopO hj1 (fun s1 e σ => EnvHas e [(1, (vi d)), (2, (vi by')), (3, (.ptr (b1 + 0) 4 0)), (12, (vl (cL Span.cs) f.Core)), (13, (vi (f.Core.length : Int))), (14, (vi s1))] ∧ Hs σ [.blk (b1 + 0) 25 (vF f)]) (fun y1 x e σ => (∃ a1, y1 = (.go a1) ∧ x = .exit 0 ∧ EnvHas e [] ∧ Hs σ []) ∨ (∃ r', y1 = (.ret r') ∧ x = .ret ∧ Ends CX Try.f66.results.toList (vb r') x e σ)) ⟨⟨rfl, rfl, rfl, rfl, rfl, rfl, trivial⟩, H⟩ ?_) ?_
 ·intro s1 e σ hI z h
  obtain ⟨he, H⟩ := hI
  obtain ⟨e, rfl⟩ := he.ex
  unfold canon_turn.s0 at h
  apply Runs.then
  refine .regionH 1 rfl H ?_; intro b3 σ H
  refine .int (m := s1) (m' := (f.Core.length : Int)) (r := .bool (decide (s1 < (f.Core.length : Int)))) rfl rfl rfl rfl rfl ?_
  apply Ops.nil
  replace H := H.all
  apply Runs.then
  refine .whether (v := (decide (s1 < (f.Core.length : Int)))) rfl ?_ ?_ <;> intro hc1
  ·replace h := cond_T hc1 h
   apply Runs.skip
   apply Runs.then
   obtain ⟨y2, hj2, h⟩ := bind_some h
   refine .mono (Q := fun x e σ => (∃ a2, y2 = (.go a2) ∧ x = .normal ∧ EnvHas e [(1, (vi d)), (2, (vi by')), (3, (.ptr (b1 + 0) 4 0)), (12, (vl (cL Span.cs) f.Core)), (13, (vi (f.Core.length : Int))), (14, (vi s1))] ∧ Hs σ [.blk (b1 + 0) 25 (vF f)]) ∨ (∃ r', y2 = (.ret r') ∧ x = .ret ∧ Ends CX Try.f66.results.toList (vb r') x e σ)) ?_ ?_
   ·replace h := hj2
    apply Runs.inBlock
    obtain ⟨y3, hj3, h⟩ := bind_some h
    refine .mono (Q := fun x e σ => (∃ a3, y3 = (.go a3) ∧ x = .normal ∧ EnvHas e [(1, (vi d)), (2, (vi by')), (3, (.ptr (b1 + 0) 4 0)), (12, (vl (cL Span.cs) f.Core)), (13, (vi (f.Core.length : Int))), (14, (vi s1))] ∧ Hs σ [.blk (b1 + 0) 25 (vF f)]) ∨ (∃ r', y3 = (.ret r') ∧ x = .ret ∧ Ends CX Try.f66.results.toList (vb r') x e σ)) ?_ ?_
    ·replace h := hj3
     apply Runs.then
     refine .regionH 5 rfl H ?_; intro b4 σ H
     refine .move (v := (vi s1)) rfl rfl ?_
     obtain ⟨x1, q1, h⟩ := bind_some h
     refine .indexP (c := (cL Span.cs)) (u := x1) rfl rfl q1 rfl rfl rfl rfl (.loadP (u := (.sl (x1.map Span.cs))) rfl rfl rfl rfl (.assign (v := (vi s1)) rfl rfl (.assign (v := (vl Span.cs x1)) rfl rfl ?_)))
     apply Ops.nil
     replace H := H.all
     apply Runs.then
     refine .regionH 4 rfl H ?_; intro b5 σ H
     refine .move (v := (vi s1)) rfl rfl (.move (v := (vi d)) rfl rfl (.int (m := s1) (m' := d) (r := .int .i64 (w64 (s1 + d))) rfl rfl rfl rfl rfl (.assign (v := (vi (w64 (s1 + d)))) rfl rfl ?_)))
     apply Ops.nil
     replace H := H.all
     apply Runs.then
     refine .regionH 1 rfl H ?_; intro b6 σ H
     refine .assign (v := (vi 0)) rfl rfl ?_
     apply Ops.nil
     replace H := H.all
     apply Runs.then
     obtain ⟨y4, hj4, h⟩ := bind_some h
     refine .mono (Q := fun x e σ => x = .normal ∧ EnvHas e [(1, (vi d)), (2, (vi by')), (3, (.ptr (b1 + 0) 4 0)), (8, (vl Span.cs x1)), (9, (vi y4.1)), (10, (vi y4.2)), (12, (vl (cL Span.cs) f.Core)), (13, (vi (f.Core.length : Int))), (14, (vi s1))] ∧ Hs σ [.blk (b1 + 0) 25 (vF f)]) ?_ ?_
     ·replace h := hj4
      apply Runs.then
      refine .regionH 4 rfl H ?_; intro b7 σ H
      refine .move (v := (vi (w64 (s1 + d)))) rfl rfl (.fieldAddrH (off := 0) (fo := 1) H 0 rfl rfl rfl rfl rfl nofun rfl (.loadH (off := 1) (v := (vi f.Count)) H 0 rfl rfl rfl rfl rfl nofun rfl (.int (m := (w64 (s1 + d))) (m' := f.Count) (r := .bool (decide ((w64 (s1 + d)) ≥ f.Count))) rfl rfl rfl rfl rfl ?_)))
      apply Ops.nil
      replace H := H.all
      refine .whether (v := (decide ((w64 (s1 + d)) ≥ f.Count))) rfl ?_ ?_ <;> intro hc2
      ·replace h := cond_T hc2 h
       refine .drawnH 8 rfl (by kernel_rfl) H ?_; intro b8 σ H B8
       refine .move (v := (vi (w64 (s1 + d)))) rfl rfl (.fieldAddrH (off := 0) (fo := 1) H 0 rfl rfl rfl rfl rfl (fun _ => .inl ⟨B8 0 _ rfl _ rfl, nofun, (fun _ => by kernel_rfl)⟩) rfl (.loadH (off := 1) (v := (vi f.Count)) H 0 rfl rfl rfl rfl rfl (fun _ => .inl ⟨B8 0 _ rfl _ rfl, nofun, (fun _ => by kernel_rfl)⟩) rfl (.int (m := (w64 (s1 + d))) (m' := f.Count) (r := .int .i64 (w64 ((w64 (s1 + d)) - f.Count))) rfl rfl rfl rfl rfl ?_)))
       refine .fieldAddrH (off := 0) (fo := 0) H 0 rfl rfl rfl rfl rfl (fun _ => .inl ⟨B8 0 _ rfl _ rfl, nofun, (fun _ => by kernel_rfl)⟩) rfl (.loadH (off := 0) (v := (vi f.Period)) H 0 rfl rfl rfl rfl rfl (fun _ => .inl ⟨B8 0 _ rfl _ rfl, nofun, (fun _ => by kernel_rfl)⟩) rfl (.assign (v := (vi (w64 ((w64 (s1 + d)) - f.Count)))) rfl rfl (.assign (v := (vi f.Period)) rfl rfl ?_)))
       apply Ops.nil
       replace H := H.all
       replace h := Option.some.inj h; subst h
       exact ⟨rfl, ⟨rfl, rfl, rfl, rfl, rfl, rfl, rfl, rfl, rfl, trivial⟩, H⟩
      ·replace h := cond_F hc2 h
       apply Runs.skip
       replace h := Option.some.inj h; subst h
       exact ⟨rfl, ⟨rfl, rfl, rfl, rfl, rfl, rfl, rfl, rfl, rfl, trivial⟩, H⟩
     ·rintro x e σ ⟨rfl, he, H⟩
      obtain ⟨e, rfl⟩ := he.ex
      apply Runs.then
      refine .regionH 11 rfl H ?_; intro b9 σ H
      refine .move (v := (vl Span.cs x1)) rfl rfl (.fieldAddrH (off := 0) (fo := 2) H 0 rfl rfl rfl rfl rfl nofun rfl (.loadH (off := 2) (v := (vl (cL Span.cs) f.Core)) H 0 rfl rfl rfl rfl rfl nofun rfl (.move (v := (vi y4.1)) rfl rfl ?_)))
      obtain ⟨x2, q2, h⟩ := bind_some h
      refine .indexP (c := (cL Span.cs)) (u := x2) rfl rfl q2 rfl rfl rfl rfl (.loadP (u := (.sl (x2.map Span.cs))) rfl rfl rfl rfl (.move (v := (vi by')) rfl rfl (.move (v := (vi y4.2)) rfl rfl ?_)))
      refine .int (m := by') (m' := y4.2) (r := .int .i64 (w64 (by' - y4.2))) rfl rfl rfl rfl rfl ?_
      obtain ⟨x3, q3, h⟩ := bind_some h
      refine .call (ys := [(vl Span.cs x1), (vl Span.cs x2), (vi (w64 (by' - y4.2)))]) (r := (vb x3)) rfl (canon_shifted_fn q3) rfl (.not (b := x3) rfl rfl ?_)
      apply Ops.nil
      replace H := H.all
      refine .whether (v := (!x3)) rfl ?_ ?_ <;> intro hc3
      ·replace h := cond_T hc3 h
       apply Runs.then
       refine .regionH 1 rfl H ?_; intro b10 σ H
       refine .assign (v := (vb false)) rfl rfl ?_
       apply Ops.nil
       replace H := H.all
       apply Runs.ret
       replace h := Option.some.inj h; subst h
       exact (.inr ⟨_, rfl, rfl, (Ends.H (xs := [(vb false)]) (.inr rfl) H (.tmp (v := (vb false)) rfl .nil) (.one (.c (.v _))))⟩)
      ·replace h := cond_F hc3 h
       apply Runs.skip
       replace h := Option.some.inj h; subst h
       exact (.inl ⟨_, rfl, rfl, ⟨rfl, rfl, rfl, rfl, rfl, rfl, trivial⟩, H⟩)
    ·rintro x e σ (⟨a4, rfl, rfl, he, H⟩ | ⟨r', rfl, rfl, hE⟩)
     ·skip
      replace h := jgo h
      obtain ⟨e, rfl⟩ := he.ex
      replace h := Option.some.inj h; subst h
      exact (.inl ⟨_, rfl, rfl, ⟨rfl, rfl, rfl, rfl, rfl, rfl, trivial⟩, H⟩)
     ·skip
      replace h := jret h
      replace h := Option.some.inj h; subst h
      exact (.inr ⟨_, rfl, rfl, hE⟩)
   ·rintro x e σ (⟨a5, rfl, rfl, he, H⟩ | ⟨r', rfl, rfl, hE⟩)
    ·skip
     replace h := jgo h
     obtain ⟨e, rfl⟩ := he.ex
     refine .regionH 2 rfl H ?_; intro b11 σ H
     refine .int (m := s1) (m' := 1) (r := .int .i64 (w64 (s1 + 1))) rfl rfl rfl rfl rfl (.move (v := (vi (w64 (s1 + 1)))) rfl rfl ?_)
     apply Ops.nil
     replace H := H.all
     replace h := Option.some.inj h; subst h
     exact ⟨rfl, ⟨rfl, rfl, rfl, rfl, rfl, rfl, trivial⟩, H⟩
    ·skip
     replace h := jret h
     replace h := Option.some.inj h; subst h
     exact ⟨nofun, (.inr ⟨_, rfl, rfl, hE⟩)⟩
  ·replace h := cond_F hc1 h
   apply Runs.exit
   replace h := Option.some.inj h; subst h
   exact ⟨nofun, (.inl ⟨_, rfl, rfl, trivial, (H.erase 0)⟩)⟩
 ·rintro x e σ (⟨a6, rfl, rfl, he, H⟩ | ⟨r', rfl, rfl, hE⟩)
  ·skip
   replace h := jgo h
   obtain ⟨e, rfl⟩ := he.ex
   apply Runs.then
   refine .regionH 1 rfl H ?_; intro b12 σ H
   refine .assign (v := (vb true)) rfl rfl ?_
   apply Ops.nil
   replace H := H.all
   apply Runs.ret
   replace h := Option.some.inj h; subst h
   exact (Ends.H (xs := [(vb true)]) (.inr rfl) H (.tmp (v := (vb true)) rfl .nil) (.one (.c (.v _))))
  ·skip
   replace h := jret h
   replace h := Option.some.inj h; subst h
   exact hE

theorem slices_Clone_SSpan_Span_fn {l : List Span} {r : List Span} (h : clone? 16 l = some r) : Fn CX 47 [(vl Span.cs l)] (vl Span.cs r) := by
 obtain ⟨h1, rfl⟩ := clone_some h
 refine Fn.intr ?_ rfl rfl rfl
 rw [cx_intr47]
 unfold cloneV
 dsimp only
 rw [if_pos ⟨by simp [Span.cs], by simpa using h1⟩]

theorem canon_core_fn {f : Form} {r : Form} (h : canon_core f = some r) : Fn CX 49 [(.agg (vs (Form.cs f)))] (.agg (vs (Form.cs r))) := by
 refine Fn.ends Try.func49 rfl rfl rfl rfl rfl rfl ?_
 have H : Hs (⟨0, fun _ => .none⟩ : Heap) [] := Has.nil (Nat.le_refl _)
 generalize (⟨0, fun _ => .none⟩ : Heap) = σ at H ⊢
 unfold canon_core at h
 apply Runs.then
 refine .regionH 2 rfl H ?_; intro b1 σ H
 refine .boxH (cs := (vF f)) H (by omega) (by omega) rfl rfl rfl ?_; intro σ H
 refine .allocH (cs := [(vi 0), (vi 0), .nils, .nils]) H (by omega) (by omega) rfl rfl ?_; intro σ H
 apply Ops.nil
 replace H := H.all
 apply Runs.scope
 apply Runs.then
 refine .regionH 3 rfl H ?_; intro b2 σ H
 refine .buildA (cs := [(vi 0), (vi 0), .nils, .nils]) rfl rfl (.allocH (cs := [(vi 0), (vi 0), .nils, .nils]) H (by omega) (by omega) rfl rfl ?_); intro σ H
 refine .storeH (off := 0) (cells' := [(vi 0), (vi 0), .nils, .nils]) H 0 rfl rfl rfl rfl rfl rfl rfl rfl rfl nofun ?_; intro σ H
 apply Ops.nil
 replace H := H.all
 apply Runs.then
 apply Runs.then
 refine .regionH 2 rfl H ?_; intro b3 σ H
 refine .loadHA (off := 0) (cs := (vF f)) H 2 rfl rfl rfl rfl rfl rfl rfl nofun rfl ?_
 obtain ⟨x1, q1, h⟩ := bind_some h
 refine .call (ys := [(.agg (vF f))]) (r := (vb x1)) rfl (canon_bare_fn q1) rfl ?_
 apply Ops.nil
 replace H := H.all
 refine .whether (v := x1) rfl ?_ ?_ <;> intro hc1
 ·replace h := cond_T hc1 h
  apply Runs.then
  refine .regionH 2 rfl H ?_; intro b4 σ H
  refine .loadHA (off := 0) (cs := [(vi 0), (vi 0), .nils, .nils]) H 0 rfl rfl rfl rfl rfl rfl rfl nofun rfl (.storeH (off := 0) (cells' := [(vi 0), (vi 0), .nils, .nils]) H 1 rfl rfl rfl rfl rfl rfl rfl rfl rfl nofun ?_); intro σ H
  apply Ops.nil
  replace H := H.all
  apply Runs.ret
  replace h := Option.some.inj h; subst h
  exact (Ends.H (xs := [(.agg [(vi 0), (vi 0), .nils, .nils])]) (.inr rfl) H (.agg (cs := [(vi 0), (vi 0), .nils, .nils]) (off := 0) 1 rfl rfl rfl rfl rfl rfl rfl .nil) (.one (.a (.cons (.v _) (.cons (.v _) (.cons .n (.cons .n .nil)))))))
 ·replace h := cond_F hc1 h
  apply Runs.skip
  apply Runs.then
  apply Runs.label
  apply Runs.then
  obtain ⟨y1, hj1, h⟩ := bind_some h
  refine .mono (Q := fun x e σ => ∃ (w1 : PV), x = .normal ∧ EnvHas e [(2, (.ptr (b1 + 1) 4 0)), (3, (.ptr (b2 + 1) 4 0))] ∧ Hs σ [.sl w1 31 1 (y1.1.map (cL Span.cs)) true, .blk (b2 + 1) 25 [(vi y1.2.1), (vi y1.2.2), w1, .nils], .blk (b1 + 1) 25 [(vi 0), (vi 0), .nils, .nils]]) ?_ ?_
  ·replace h := hj1
   apply Runs.then
   refine .regionH 3 rfl H ?_; intro b5 σ H
   refine .fieldAddrH (off := 0) (fo := 1) H 2 rfl rfl rfl rfl rfl nofun rfl (.loadH (off := 1) (v := (vi f.Count)) H 2 rfl rfl rfl rfl rfl nofun rfl ?_)
   refine .callO (ys := [(vi f.Count)]) rfl (canon_divisors_fn H) nofun rfl ?_; rintro _ σ ⟨id1, rfl, H⟩
   apply Ops.nil
   replace H := H.all
   apply Runs.inBlock
   replace H := H.pushNil 31 1 true
   obtain ⟨y2, hj2, h⟩ := bind_some h
   refine .rangeH H rfl (fun s2 M => ∃ (w4 : PV), M = [.sl w4 31 1 (s2.1.map (cL Span.cs)) true, .blk id1 3 [(vi f.Count)], .blk (b2 + 1) 25 [(vi s2.2.1), (vi s2.2.2), w4, .nils], .blk (b1 + 1) 25 [(vi 0), (vi 0), .nils, .nils], .blk (b1 + 0) 25 (vF f)]) (fun z2 => [(vi z2)]) (canon_core.b0 f) (fun p => if p = 0 then none else some (.exit 0)) rfl (fun p => by (repeat' split) <;> exact ⟨_, rfl⟩) (r := y2) ⟨.nils, rfl⟩ (fun _ => rfl) (fun _ => rfl) ?_ (fun id hy => canon_divisors_1_fn hy (fun s L hL => by obtain ⟨M, hM, rfl⟩ := hL; obtain ⟨_, rfl⟩ := hM; exact (.cons 2 rfl .nil)) hj2) ?_
   ·intro R0 R1 s2 z2 s' p h σ M O hM H
    obtain ⟨w4, rfl⟩ := hM
    unfold canon_core.b0 at h
    refine .env [(17, (vi z2)), (1, (.ptr (b1 + 0) 4 0)), (2, (.ptr (b1 + 1) 4 0)), (3, (.ptr (b2 + 1) 4 0)), (16, (.clo 80 [] [(.ptr id1 1 0)]))] ⟨rfl, rfl, rfl, rfl, rfl, trivial⟩ fun e => (.regionH 1 rfl H ?_); intro b6 σ H
    refine .assign (v := (vi z2)) rfl rfl ?_
    apply Ops.nil
    replace H := H.all
    refine ⟨rfl, [.sl w4 31 1 (s2.1.map (cL Span.cs)) true, .blk id1 3 [(vi f.Count)], .blk (b2 + 1) 25 [(vi s2.2.1), (vi s2.2.2), w4, .nils], .blk (b1 + 1) 25 [(vi 0), (vi 0), .nils, .nils], .blk (b1 + 0) 25 (vF f)], H, ?_⟩; intro σ H
    apply Runs.inBlock
    apply Runs.then
    refine .drawnH 14 rfl (by kernel_rfl) H ?_; intro b7 σ H B7
    refine .fieldAddrH (off := 0) (fo := 0) H 5 rfl rfl rfl rfl rfl (fun _ => .inl ⟨B7 5 _ rfl _ rfl, nofun, (fun _ => by kernel_rfl)⟩) rfl (.loadH (off := 0) (v := (vi f.Period)) H 5 rfl rfl rfl rfl rfl (fun _ => .inl ⟨B7 5 _ rfl _ rfl, nofun, (fun _ => by kernel_rfl)⟩) rfl (.fieldAddrH (off := 0) (fo := 1) H 5 rfl rfl rfl rfl rfl (fun _ => .inl ⟨B7 5 _ rfl _ rfl, nofun, (fun _ => by kernel_rfl)⟩) rfl (.loadH (off := 1) (v := (vi f.Count)) H 5 rfl rfl rfl rfl rfl (fun _ => .inl ⟨B7 5 _ rfl _ rfl, nofun, (fun _ => by kernel_rfl)⟩) rfl ?_)))
    refine .move (v := (vi z2)) rfl rfl ?_
    obtain ⟨u1, q2, h⟩ := bind_some h
    refine .quo (m := f.Count) (m' := z2) rfl rfl (nz_ne q2) rfl ?_
    obtain ⟨x2, q3, h⟩ := bind_some h
    refine .call (ys := [(vi f.Period), (vi (w64 (f.Count.tdiv z2)))]) (r := (.tup [(vi x2.1), (vi x2.2.1), (vi x2.2.2)])) rfl (safe_Floor_fn q3) rfl (.move (v := (.tup [(vi x2.1), (vi x2.2.1), (vi x2.2.2)])) rfl rfl (.extract (v := (vi x2.1)) rfl rfl rfl (.extract (v := (vi x2.2.1)) rfl rfl rfl ?_)))
    refine .extract (v := (vi x2.2.2)) rfl rfl rfl (.assign (v := (vi x2.1)) rfl rfl (.assign (v := (vi x2.2.1)) rfl rfl (.assign (v := (vi x2.2.2)) rfl rfl ?_)))
    apply Ops.nil
    replace H := H.all
    apply Runs.then
    apply Runs.then
    refine .regionH 9 rfl H ?_; intro b8 σ H
    refine .move (v := (vi x2.2.1)) rfl rfl (.int (m := x2.2.1) (m' := 0) (r := .bool (x2.2.1 != 0)) rfl rfl rfl rfl rfl (.move (v := (vb (x2.2.1 != 0))) rfl rfl ?_))
    obtain ⟨y3, hj3, h⟩ := bind_some h
    refine .mid 6 (K1 := fun e σ => EnvHas e [(37, (vb y3)), (1, (.ptr (b1 + 0) 4 0)), (2, (.ptr (b1 + 1) 4 0)), (3, (.ptr (b2 + 1) 4 0)), (4, (vi z2)), (5, (vi x2.1))] ∧ Has σ (b8 + 9) (b8 + 9) (R1 :: .sl w4 31 1 (s2.1.map (cL Span.cs)) true :: .blk id1 3 [(vi f.Count)] :: .blk (b2 + 1) 25 [(vi s2.2.1), (vi s2.2.2), w4, .nils] :: .blk (b1 + 1) 25 [(vi 0), (vi 0), .nils, .nils] :: .blk (b1 + 0) 25 (vF f) :: O)) rfl ?_ ?_
    ·refine .split rfl rfl ?_ ?_ <;> intro hc2
     ·replace h := cond_T hc2 hj3
      refine .pass rfl rfl rfl (.pass rfl rfl rfl (.pass rfl rfl rfl (.pass rfl rfl rfl ?_)))
      refine .pass rfl rfl rfl (.pickT (v := (vb true)) rfl rfl rfl ?_)
      apply Ops.nil
      replace h := Option.some.inj h; subst h
      exact ⟨⟨rfl, rfl, rfl, rfl, rfl, rfl, trivial⟩, H.weak (by omega) (Nat.le_refl _)⟩
     ·replace h := cond_F hc2 hj3
      refine .wanted rfl rfl (.loadHA (off := 0) (cs := (vF f)) H 5 rfl rfl rfl rfl rfl rfl rfl nofun rfl (.wanted rfl rfl (.move (v := (vi z2)) rfl rfl ?_)))
      refine .wanted rfl rfl (.move (v := (vi x2.1)) rfl rfl (.wanted rfl rfl ?_))
      obtain ⟨x3, q4, h⟩ := bind_some h
      refine .call (ys := [(.agg (vF f)), (vi z2), (vi x2.1)]) (r := (vb x3)) rfl (canon_turn_fn q4) rfl (.wanted rfl rfl (.not (b := x3) rfl rfl (.pickF (v := (vb (!x3))) rfl rfl rfl ?_)))
      apply Ops.nil
      replace h := Option.some.inj h; subst h
      exact ⟨⟨rfl, rfl, rfl, rfl, rfl, rfl, trivial⟩, H.weak (by omega) (Nat.le_refl _)⟩
    ·rintro e σ ⟨he, H⟩
     obtain ⟨e, rfl⟩ := he.ex
     apply Ops.nil
     replace H := H.all
     refine .whether (v := y3) rfl ?_ ?_ <;> intro hc3
     ·replace h := cond_T hc3 h
      apply Runs.exit
      obtain ⟨rfl, rfl⟩ := Prod.mk.inj (Option.some.inj h)
      exact ⟨⟨rfl, (iff_of_true rfl rfl)⟩, _, ⟨w4, rfl⟩, H⟩
     ·replace h := cond_F hc3 h
      apply Runs.skip
      apply Runs.then
      refine .regionH 6 rfl H ?_; intro b9 σ H
      refine .move (v := (vi x2.1)) rfl rfl (.move (v := (vi z2)) rfl rfl (.fieldAddrH (off := 0) (fo := 0) H 3 rfl rfl rfl rfl rfl nofun rfl (.storeH (off := 0) (cells' := [(vi x2.1), (vi s2.2.2), w4, .nils]) H 3 rfl rfl rfl rfl rfl rfl rfl rfl rfl nofun ?_))); intro σ H
      refine .fieldAddrH (off := 0) (fo := 1) H 3 rfl rfl rfl rfl rfl nofun rfl (.storeH (off := 1) (cells' := [(vi x2.1), (vi z2), w4, .nils]) H 3 rfl rfl rfl rfl rfl rfl rfl rfl rfl nofun ?_); intro σ H
      apply Ops.nil
      replace H := H.all
      apply Runs.then
      apply Runs.then
      refine .regionH 6 rfl H ?_; intro b10 σ H
      refine .fieldAddrH (off := 0) (fo := 2) H 5 rfl rfl rfl rfl rfl nofun rfl (.loadH (off := 2) (v := (vl (cL Span.cs) f.Core)) H 5 rfl rfl rfl rfl rfl nofun rfl (.move (v := (vi z2)) rfl rfl ?_))
      obtain ⟨x4, q5, h⟩ := bind_some h
      refine .sliceP01 (c := (cL Span.cs)) q5 rfl rfl rfl rfl (fun _ => rfl) rfl (.lenPt (c := (cL Span.cs)) (xs := x4) rfl rfl rfl (.move (v := (vi 0)) rfl rfl ?_))
      apply Ops.nil
      replace H := H.all
      apply Runs.inBlock
      obtain ⟨y4, hj4, h⟩ := bind_some h
      obtain ⟨n1, hj4⟩ := loopO_iff.1 hj4
      refine .mono (Runs.loopO hj4 (fun s3 e σ => ∃ (w7 : PV), EnvHas e [(2, (.ptr (b1 + 1) 4 0)), (3, (.ptr (b2 + 1) 4 0)), (45, (vl (cL Span.cs) x4)), (46, (vi (x4.length : Int))), (47, (vi s3.1))] ∧ Hs σ (R1 :: .sl w7 31 1 (s3.2.map (cL Span.cs)) true :: .blk id1 3 [(vi f.Count)] :: .blk (b2 + 1) 25 [(vi x2.1), (vi z2), w7, .nils] :: .blk (b1 + 1) 25 [(vi 0), (vi 0), .nils, .nils] :: .blk (b1 + 0) 25 (vF f) :: O)) (fun y4 x e σ => ∃ (w8 : PV), x = .exit 2 ∧ EnvHas e [(2, (.ptr (b1 + 1) 4 0)), (3, (.ptr (b2 + 1) 4 0))] ∧ Hs σ (R1 :: .sl w8 31 1 (y4.map (cL Span.cs)) true :: .blk id1 3 [(vi f.Count)] :: .blk (b2 + 1) 25 [(vi x2.1), (vi z2), w8, .nils] :: .blk (b1 + 1) 25 [(vi 0), (vi 0), .nils, .nils] :: .blk (b1 + 0) 25 (vF f) :: O)) ⟨w4, ⟨rfl, rfl, rfl, rfl, rfl, trivial⟩, H⟩ ?_) ?_
      ·intro s3 e σ hI z h
       obtain ⟨w7, he, H⟩ := hI
       obtain ⟨e, rfl⟩ := he.ex
       unfold canon_core.s1 at h
       apply Runs.then
       refine .regionH 1 rfl H ?_; intro b11 σ H
       refine .int (m := s3.1) (m' := (x4.length : Int)) (r := .bool (decide (s3.1 < (x4.length : Int)))) rfl rfl rfl rfl rfl ?_
       apply Ops.nil
       replace H := H.all
       apply Runs.then
       refine .whether (v := (decide (s3.1 < (x4.length : Int)))) rfl ?_ ?_ <;> intro hc4
       ·replace h := cond_T hc4 h
        apply Runs.skip
        apply Runs.then
        apply Runs.inBlock
        apply Runs.then
        refine .regionH 3 rfl H ?_; intro b12 σ H
        obtain ⟨x5, q6, h⟩ := bind_some h
        refine .indexP (c := (cL Span.cs)) (u := x5) rfl rfl q6 rfl rfl rfl rfl (.loadP (u := (.sl (x5.map Span.cs))) rfl rfl rfl rfl (.assign (v := (vl Span.cs x5)) rfl rfl ?_))
        apply Ops.nil
        replace H := H.all
        refine .drawnH 8 rfl (by kernel_rfl) H ?_; intro b13 σ H B13
        refine .fieldAddrH (off := 0) (fo := 2) H 3 rfl rfl rfl rfl rfl (fun _ => .inl ⟨B13 3 _ rfl _ rfl, nofun, (fun _ => by kernel_rfl)⟩) rfl (.loadH (off := 2) (v := w7) H 3 rfl rfl rfl rfl rfl (fun _ => .inl ⟨B13 3 _ rfl _ rfl, nofun, (fun _ => by kernel_rfl)⟩) rfl (.move (v := (vl Span.cs x5)) rfl rfl ?_))
        obtain ⟨x6, q7, h⟩ := bind_some h
        refine .call (ys := [(vl Span.cs x5)]) (r := (vl Span.cs x6)) rfl (slices_Clone_SSpan_Span_fn q7) rfl (.buildS (sz := 1) ([x6].map (cL Span.cs)) H (by omega) (by omega) rfl rfl rfl rfl rfl rfl rfl rfl rfl ?_); intro σ H
        obtain ⟨x7, q8, h⟩ := bind_some h
        refine .appendSt (c := (cL Span.cs)) (v := w7) (w := (.buf (b13 + 4) 1 1)) (xs := s3.2) (ys := [x6]) H (by omega) (by omega) 2 rfl rfl rfl (.s 0 rfl) q8 rfl rfl rfl rfl rfl (fun h => ⟨(fun id ho => .inl ⟨B13 1 _ rfl id ho, (fun _ => by kernel_rfl), nofun⟩), (fun id ho => .inr ⟨4, (by cases ho; rfl), (fun h => nomatch h), by kernel_rfl, by decide⟩)⟩) rfl ?_; intro w9 σ H
        refine .fieldAddrH (off := 0) (fo := 2) H 4 rfl rfl rfl rfl rfl (fun _ => .inl ⟨B13 3 _ rfl _ rfl, nofun, (fun _ => by kernel_rfl)⟩) rfl (.storeH (off := 2) (v := w9) (ys := [w9]) (cells' := [(vi x2.1), (vi z2), w9, .nils]) H 4 rfl rfl rfl rfl (H.slCells (k := 2) rfl) rfl rfl rfl rfl (fun _ => .inl ⟨B13 3 _ rfl _ rfl, (fresh_static (by kernel_rfl))⟩) ?_); intro σ H
        apply Ops.nil
        replace H := H.all
        refine .regionH 2 rfl H ?_; intro b14 σ H
        refine .int (m := s3.1) (m' := 1) (r := .int .i64 (w64 (s3.1 + 1))) rfl rfl rfl rfl rfl (.move (v := (vi (w64 (s3.1 + 1)))) rfl rfl ?_)
        apply Ops.nil
        replace H := H.all
        replace h := Option.some.inj h; subst h
        exact ⟨rfl, w9, ⟨rfl, rfl, rfl, rfl, rfl, trivial⟩, (H.erase 0)⟩
       ·replace h := cond_F hc4 h
        apply Runs.exit
        replace h := Option.some.inj h; subst h
        exact ⟨nofun, ⟨w7, rfl, ⟨rfl, rfl, trivial⟩, H⟩⟩
      ·rintro x e σ ⟨w10, rfl, he, H⟩
       obtain ⟨e, rfl⟩ := he.ex
       apply Runs.exit
       obtain ⟨rfl, rfl⟩ := Prod.mk.inj (Option.some.inj h)
       exact ⟨⟨rfl, (iff_of_false nofun nofun)⟩, _, ⟨w10, rfl⟩, H⟩
   ·intro x σ M hx hM H
    obtain ⟨w11, rfl⟩ := hM
    cases hc0_ : (y2.2 == 0)
    ·replace h := cond_F hc0_ h
     have hx : x = .exit 0 := by simpa [ne_of_beq_false hc0_, jumpD] using hx.symm
     subst hx
     replace h := Option.some.inj h; subst h
     exact ⟨w11, rfl, ⟨rfl, rfl, trivial⟩, ((H.erase 4).erase 1)⟩
    ·replace h := cond_T hc0_ h
     have hx : x = .normal := by rw [eq_of_beq hc0_] at hx; exact (Option.some.inj hx).symm
     subst hx
     replace h := Option.some.inj h; subst h
     exact ⟨w11, rfl, ⟨rfl, rfl, trivial⟩, ((H.erase 4).erase 1)⟩
  ·rintro x e σ ⟨w12, rfl, he, H⟩
   obtain ⟨e, rfl⟩ := he.ex
   apply Runs.then
   refine .regionH 2 rfl H ?_; intro b15 σ H
   refine .loadHA (off := 0) (cs := [(vi y1.2.1), (vi y1.2.2), w12, .nils]) H 1 rfl rfl rfl rfl rfl rfl rfl nofun rfl (.storeH (off := 0) (cells' := [(vi y1.2.1), (vi y1.2.2), w12, .nils]) H 2 rfl rfl rfl rfl rfl rfl rfl rfl rfl nofun ?_); intro σ H
   apply Ops.nil
   replace H := H.all
   apply Runs.ret
   replace h := Option.some.inj h; subst h
   exact (Ends.H (xs := [(.agg [(vi y1.2.1), (vi y1.2.2), w12, .nils])]) (.inr rfl) H (.agg (cs := [(vi y1.2.1), (vi y1.2.2), w12, .nils]) (off := 0) 2 rfl rfl rfl rfl rfl rfl rfl .nil) (.one (.a (.cons (.v _) (.cons (.v _) (.cons (.s 0 rfl) (.cons .n .nil)))))))

theorem slices_Equal_SSpan_Span_fn {s1' : (List Span)} {s2' : (List Span)} {r : Bool} (h : slices_Equal_SSpan_Span s1' s2' = some r) : Fn CX 42 [(vl Span.cs s1'), (vl Span.cs s2')] (vb r) := by
 refine Fn.ends Try.func42 rfl rfl rfl rfl rfl rfl ?_
 have H : Hs (⟨0, fun _ => .none⟩ : Heap) [] := Has.nil (Nat.le_refl _)
 generalize (⟨0, fun _ => .none⟩ : Heap) = σ at H ⊢
 unfold slices_Equal_SSpan_Span at h
 apply Runs.then
 refine .regionH 1 rfl H ?_; intro b1 σ H
 refine .assign (v := (vb false)) rfl rfl ?_
 apply Ops.nil
 replace H := H.all
 apply Runs.then
 apply Runs.then
 refine .regionH 5 rfl H ?_; intro b2 σ H
 refine .move (v := (vl Span.cs s1')) rfl rfl (.lenPt (c := Span.cs) (xs := s1') rfl rfl rfl (.move (v := (vl Span.cs s2')) rfl rfl (.lenPt (c := Span.cs) (xs := s2') rfl rfl rfl ?_)))
 refine .int (m := (s1'.length : Int)) (m' := (s2'.length : Int)) (r := .bool ((s1'.length : Int) != (s2'.length : Int))) rfl rfl rfl rfl rfl ?_
 apply Ops.nil
 replace H := H.all
 refine .whether (v := ((s1'.length : Int) != (s2'.length : Int))) rfl ?_ ?_ <;> intro hc1
 ·replace h := cond_T hc1 h
  apply Runs.then
  refine .regionH 1 rfl H ?_; intro b3 σ H
  refine .assign (v := (vb false)) rfl rfl ?_
  apply Ops.nil
  replace H := H.all
  apply Runs.ret
  replace h := Option.some.inj h; subst h
  exact (Ends.H (xs := [(vb false)]) (.inr rfl) H (.tmp (v := (vb false)) rfl .nil) (.one (.c (.v _))))
 ·replace h := cond_F hc1 h
  apply Runs.skip
  apply Runs.then
  apply Runs.then
  refine .regionH 3 rfl H ?_; intro b4 σ H
  refine .move (v := (vl Span.cs s1')) rfl rfl (.lenPt (c := Span.cs) (xs := s1') rfl rfl rfl (.move (v := (vi 0)) rfl rfl ?_))
  apply Ops.nil
  replace H := H.all
  apply Runs.inBlock
  obtain ⟨y1, hj1, h⟩ := bind_some h
  obtain ⟨n1, hj1⟩ := loopO_iff.1 hj1
  refine .mono (Runs.loopO hj1 (fun s1 e σ => EnvHas e [(0, (vl Span.cs s1')), (1, (vl Span.cs s2')), (12, (vi (s1'.length : Int))), (13, (vi s1))] ∧ Hs σ []) (fun y1 x e σ => (∃ a1, y1 = (.go a1) ∧ x = .exit 0 ∧ EnvHas e [] ∧ Hs σ []) ∨ (∃ r', y1 = (.ret r') ∧ x = .ret ∧ Ends CX Try.f42.results.toList (vb r') x e σ)) ⟨⟨rfl, rfl, rfl, rfl, trivial⟩, H⟩ ?_) ?_
  ·intro s1 e σ hI z h
   obtain ⟨he, H⟩ := hI
   obtain ⟨e, rfl⟩ := he.ex
   unfold slices_Equal_SSpan_Span.s0 at h
   apply Runs.then
   refine .regionH 1 rfl H ?_; intro b5 σ H
   refine .int (m := s1) (m' := (s1'.length : Int)) (r := .bool (decide (s1 < (s1'.length : Int)))) rfl rfl rfl rfl rfl ?_
   apply Ops.nil
   replace H := H.all
   apply Runs.then
   refine .whether (v := (decide (s1 < (s1'.length : Int)))) rfl ?_ ?_ <;> intro hc2
   ·replace h := cond_T hc2 h
    apply Runs.skip
    apply Runs.then
    apply Runs.inBlock
    apply Runs.then
    refine .regionH 2 rfl H ?_; intro b6 σ H
    refine .move (v := (vi s1)) rfl rfl (.assign (v := (vi s1)) rfl rfl ?_)
    apply Ops.nil
    replace H := H.all
    apply Runs.then
    refine .drawnH 9 rfl (by kernel_rfl) H ?_; intro b7 σ H B7
    refine .move (v := (vl Span.cs s1')) rfl rfl (.move (v := (vi s1)) rfl rfl ?_)
    obtain ⟨x1, q1, h⟩ := bind_some h
    refine .indexP (c := Span.cs) (u := x1) rfl rfl q1 rfl rfl rfl rfl (.loadPA (cs := [(.int .i64 x1.From), (.int .i64 x1.To)]) rfl rfl rfl rfl rfl rfl (.move (v := (vl Span.cs s2')) rfl rfl (.move (v := (vi s1)) rfl rfl ?_)))
    obtain ⟨x2, q2, h⟩ := bind_some h
    refine .indexP (c := Span.cs) (u := x2) rfl rfl q2 rfl rfl rfl rfl (.loadPA (cs := [(.int .i64 x2.From), (.int .i64 x2.To)]) rfl rfl rfl rfl rfl rfl (.binA (u := (.agg [(vi x1.From), (vi x1.To)])) (w := (.agg [(vi x2.From), (vi x2.To)])) (r := .bool (!((x1.From == x2.From) && ((x1.To == x2.To) && true)))) rfl rfl (by kernel_rfl) (fun _ => ask_eqA rfl rfl rfl rfl) rfl ?_))
    apply Ops.nil
    replace H := H.all
    refine .whether (v := (!((x1.From == x2.From) && ((x1.To == x2.To) && true)))) rfl ?_ ?_ <;> intro hc3
    ·replace h := cond_T hc3 h
     apply Runs.then
     refine .regionH 1 rfl H ?_; intro b8 σ H
     refine .assign (v := (vb false)) rfl rfl ?_
     apply Ops.nil
     replace H := H.all
     apply Runs.ret
     replace h := Option.some.inj h; subst h
     exact ⟨nofun, (.inr ⟨_, rfl, rfl, (Ends.H (xs := [(vb false)]) (.inr rfl) H (.tmp (v := (vb false)) rfl .nil) (.one (.c (.v _))))⟩)⟩
    ·replace h := cond_F hc3 h
     apply Runs.skip
     refine .regionH 2 rfl H ?_; intro b9 σ H
     refine .int (m := s1) (m' := 1) (r := .int .i64 (w64 (s1 + 1))) rfl rfl rfl rfl rfl (.move (v := (vi (w64 (s1 + 1)))) rfl rfl ?_)
     apply Ops.nil
     replace H := H.all
     replace h := Option.some.inj h; subst h
     exact ⟨rfl, ⟨rfl, rfl, rfl, rfl, trivial⟩, H⟩
   ·replace h := cond_F hc2 h
    apply Runs.exit
    replace h := Option.some.inj h; subst h
    exact ⟨nofun, (.inl ⟨_, rfl, rfl, trivial, H⟩)⟩
  ·rintro x e σ (⟨a2, rfl, rfl, he, H⟩ | ⟨r', rfl, rfl, hE⟩)
   ·skip
    replace h := jgo h
    obtain ⟨e, rfl⟩ := he.ex
    apply Runs.then
    refine .regionH 1 rfl H ?_; intro b10 σ H
    refine .assign (v := (vb true)) rfl rfl ?_
    apply Ops.nil
    replace H := H.all
    apply Runs.ret
    replace h := Option.some.inj h; subst h
    exact (Ends.H (xs := [(vb true)]) (.inr rfl) H (.tmp (v := (vb true)) rfl .nil) (.one (.c (.v _))))
   ·skip
    replace h := jret h
    replace h := Option.some.inj h; subst h
    exact hE

theorem spans_Same_fn {a : (List Span)} {b : (List Span)} {r : Bool} (h : spans_Same a b = some r) : Fn CX 18 [(vl Span.cs a), (vl Span.cs b)] (vb r) := by
 refine Fn.ends Try.func18 rfl rfl rfl rfl rfl rfl ?_
 have H : Hs (⟨0, fun _ => .none⟩ : Heap) [] := Has.nil (Nat.le_refl _)
 generalize (⟨0, fun _ => .none⟩ : Heap) = σ at H ⊢
 unfold spans_Same at h
 apply Runs.then
 refine .regionH 1 rfl H ?_; intro b1 σ H
 refine .assign (v := (vb false)) rfl rfl ?_
 apply Ops.nil
 replace H := H.all
 apply Runs.then
 refine .regionH 4 rfl H ?_; intro b2 σ H
 refine .move (v := (vl Span.cs a)) rfl rfl (.move (v := (vl Span.cs b)) rfl rfl ?_)
 obtain ⟨x1, q1, h⟩ := bind_some h
 refine .call (ys := [(vl Span.cs a), (vl Span.cs b)]) (r := (vb x1)) rfl (slices_Equal_SSpan_Span_fn q1) rfl (.assign (v := (vb x1)) rfl rfl ?_)
 apply Ops.nil
 replace H := H.all
 apply Runs.ret
 replace h := Option.some.inj h; subst h
 exact (Ends.H (xs := [(vb x1)]) (.inr rfl) H (.tmp (v := (vb x1)) rfl .nil) (.one (.c (.v _))))

theorem canon_plain_fn {f : Form} {g : Granule} {r : Bool} (h : canon_plain f g = some r) : Fn CX 50 [(.agg (vs (Form.cs f))), (.agg (vs (Granule.cs g)))] (vb r) := by
 refine Fn.ends Try.func50 rfl rfl rfl rfl rfl rfl ?_
 have H : Hs (⟨0, fun _ => .none⟩ : Heap) [] := Has.nil (Nat.le_refl _)
 generalize (⟨0, fun _ => .none⟩ : Heap) = σ at H ⊢
 unfold canon_plain at h
 apply Runs.then
 refine .regionH 3 rfl H ?_; intro b1 σ H
 refine .boxH (cs := (vF f)) H (by omega) (by omega) rfl rfl rfl ?_; intro σ H
 refine .boxH (cs := [(vi g.Index), (vl Span.cs g.Ticks)]) H (by omega) (by omega) rfl rfl rfl ?_; intro σ H
 refine .assign (v := (vb false)) rfl rfl ?_
 apply Ops.nil
 replace H := H.all
 apply Runs.then
 refine .regionH 9 rfl H ?_; intro b2 σ H
 refine .loadHA (off := 0) (cs := (vF f)) H 1 rfl rfl rfl rfl rfl rfl rfl nofun rfl (.fieldAddrH (off := 0) (fo := 0) H 0 rfl rfl rfl rfl rfl nofun rfl (.loadH (off := 0) (v := (vi g.Index)) H 0 rfl rfl rfl rfl rfl nofun rfl ?_))
 obtain ⟨x1, q1, h⟩ := bind_some h
 refine .call (ys := [(.agg (vF f)), (vi g.Index)]) (r := (.tup [(vl Span.cs x1.1), (vi x1.2)])) rfl (gran_Get_fn q1) rfl (.move (v := (.tup [(vl Span.cs x1.1), (vi x1.2)])) rfl rfl (.extract (v := (vl Span.cs x1.1)) rfl rfl rfl (.extract (v := (vi x1.2)) rfl rfl rfl ?_)))
 refine .assign (v := (vl Span.cs x1.1)) rfl rfl (.assign (v := (vi x1.2)) rfl rfl ?_)
 apply Ops.nil
 replace H := H.all
 apply Runs.then
 refine .regionH 9 rfl H ?_; intro b3 σ H
 refine .move (v := (vi x1.2)) rfl rfl (.int (m := x1.2) (m' := 0) (r := .bool (x1.2 == 0)) rfl rfl rfl rfl rfl (.move (v := (vb (x1.2 == 0))) rfl rfl ?_))
 obtain ⟨y1, hj1, h⟩ := bind_some h
 refine .mid 5 (K1 := fun e σ => EnvHas e [(21, (vb y1))] ∧ Has σ (b3 + 8) (b3 + 9) []) rfl ?_ ?_
 ·refine .split rfl rfl ?_ ?_ <;> intro hc1
  ·replace h := cond_T hc1 hj1
   refine .wanted rfl rfl (.move (v := (vl Span.cs x1.1)) rfl rfl (.wanted rfl rfl (.fieldAddrH (off := 0) (fo := 1) H 0 rfl rfl rfl rfl rfl nofun rfl ?_)))
   refine .wanted rfl rfl (.loadH (off := 1) (v := (vl Span.cs g.Ticks)) H 0 rfl rfl rfl rfl rfl nofun rfl (.wanted rfl rfl ?_))
   obtain ⟨x2, q2, h⟩ := bind_some h
   refine .call (ys := [(vl Span.cs x1.1), (vl Span.cs g.Ticks)]) (r := (vb x2)) rfl (spans_Same_fn q2) rfl (.pickT (v := (vb x2)) rfl rfl rfl ?_)
   apply Ops.nil
   replace h := Option.some.inj h; subst h
   exact ⟨⟨rfl, trivial⟩, ((H.erase 1).erase 0).weak (by omega) (Nat.le_refl _)⟩
  ·replace h := cond_F hc1 hj1
   refine .pass rfl rfl rfl (.pass rfl rfl rfl (.pass rfl rfl rfl (.pass rfl rfl rfl ?_)))
   refine .pickF (v := (vb false)) rfl rfl rfl ?_
   apply Ops.nil
   replace h := Option.some.inj h; subst h
   exact ⟨⟨rfl, trivial⟩, ((H.erase 1).erase 0).weak (by omega) (Nat.le_refl _)⟩
 ·rintro e σ ⟨he, H⟩
  obtain ⟨e, rfl⟩ := he.ex
  refine .assign (v := (vb y1)) rfl rfl ?_
  apply Ops.nil
  replace H := H.all
  apply Runs.ret
  replace h := Option.some.inj h; subst h
  exact (Ends.H (xs := [(vb y1)]) (.inr rfl) H (.tmp (v := (vb y1)) rfl .nil) (.one (.c (.v _))))

theorem canon_Form_fn {f : Form} {r : Form} (h : canon_Form f = some r) : Fn CX 27 [(.agg (vs (Form.cs f)))] (.agg (vs (Form.cs r))) := by
 refine Fn.ends Try.func27 rfl rfl rfl rfl rfl rfl ?_
 have H : Hs (⟨0, fun _ => .none⟩ : Heap) [] := Has.nil (Nat.le_refl _)
 generalize (⟨0, fun _ => .none⟩ : Heap) = σ at H ⊢
 unfold canon_Form at h
 apply Runs.then
 refine .regionH 2 rfl H ?_; intro b1 σ H
 refine .boxH (cs := (vF f)) H (by omega) (by omega) rfl rfl rfl ?_; intro σ H
 refine .allocH (cs := [(vi 0), (vi 0), .nils, .nils]) H (by omega) (by omega) rfl rfl ?_; intro σ H
 apply Ops.nil
 replace H := H.all
 apply Runs.then
 refine .regionH 4 rfl H ?_; intro b2 σ H
 refine .loadHA (off := 0) (cs := (vF f)) H 1 rfl rfl rfl rfl rfl rfl rfl nofun rfl ?_
 obtain ⟨x1, q1, h⟩ := bind_some h
 refine .call (ys := [(.agg (vF f))]) (r := (.agg (vF x1))) rfl (canon_core_fn q1) rfl (.allocH (cs := [(vi 0), (vi 0), .nils, .nils]) H (by omega) (by omega) rfl rfl ?_); intro σ H
 refine .storeH (off := 0) (cells' := (vF x1)) H 0 rfl rfl rfl rfl rfl rfl rfl rfl rfl nofun ?_; intro σ H
 apply Ops.nil
 replace H := H.all
 apply Runs.then
 refine .regionH 1 rfl H ?_; intro b3 σ H
 refine .assign (v := .nils) rfl rfl ?_
 apply Ops.nil
 replace H := H.all
 apply Runs.then
 apply Runs.then
 refine .regionH 4 rfl H ?_; intro b4 σ H
 refine .fieldAddrH (off := 0) (fo := 3) H 2 rfl rfl rfl rfl rfl nofun rfl (.loadH (off := 3) (v := (vl Granule.cs f.Odd)) H 2 rfl rfl rfl rfl rfl nofun rfl (.lenPt (c := Granule.cs) (xs := f.Odd) rfl rfl rfl (.move (v := (vi 0)) rfl rfl ?_)))
 apply Ops.nil
 replace H := H.all
 apply Runs.inBlock
 replace H := H.pushNil 45 2 true
 obtain ⟨y1, hj1, h⟩ := bind_some h
 obtain ⟨n1, hj1⟩ := loopO_iff.1 hj1
 refine .mono (Runs.loopO hj1 (fun s2 e σ => ∃ (w3 : PV), EnvHas e [(2, (.ptr (b1 + 1) 4 0)), (3, (.ptr (b2 + 2) 4 0)), (4, w3), (10, (vl Granule.cs f.Odd)), (11, (vi (f.Odd.length : Int))), (12, (vi s2.1))] ∧ Hs σ [.sl w3 45 2 (s2.2.map Granule.cs) true, .blk (b2 + 2) 25 (vF x1), .blk (b1 + 1) 25 [(vi 0), (vi 0), .nils, .nils]]) (fun y1 x e σ => ∃ (w4 : PV), x = .exit 0 ∧ EnvHas e [(2, (.ptr (b1 + 1) 4 0)), (3, (.ptr (b2 + 2) 4 0)), (4, w4)] ∧ Hs σ [.sl w4 45 2 (y1.map Granule.cs) true, .blk (b2 + 2) 25 (vF x1), .blk (b1 + 1) 25 [(vi 0), (vi 0), .nils, .nils]]) ⟨.nils, ⟨rfl, rfl, rfl, rfl, rfl, rfl, trivial⟩, (H.erase 3)⟩ ?_) ?_
 ·intro s2 e σ hI z h
  obtain ⟨w3, he, H⟩ := hI
  obtain ⟨e, rfl⟩ := he.ex
  unfold canon_Form.s0 at h
  apply Runs.then
  refine .regionH 1 rfl H ?_; intro b5 σ H
  refine .int (m := s2.1) (m' := (f.Odd.length : Int)) (r := .bool (decide (s2.1 < (f.Odd.length : Int)))) rfl rfl rfl rfl rfl ?_
  apply Ops.nil
  replace H := H.all
  apply Runs.then
  refine .whether (v := (decide (s2.1 < (f.Odd.length : Int)))) rfl ?_ ?_ <;> intro hc1
  ·replace h := cond_T hc1 h
   apply Runs.skip
   apply Runs.then
   obtain ⟨y2, hj2, h⟩ := bind_some h
   refine .mono (Q := fun x e σ => ∃ (w5 : PV), x = .normal ∧ EnvHas e [(2, (.ptr (b1 + 1) 4 0)), (3, (.ptr (b2 + 2) 4 0)), (4, w5), (10, (vl Granule.cs f.Odd)), (11, (vi (f.Odd.length : Int))), (12, (vi s2.1))] ∧ Hs σ [.sl w5 45 2 (y2.map Granule.cs) true, .blk (b2 + 2) 25 (vF x1), .blk (b1 + 1) 25 [(vi 0), (vi 0), .nils, .nils]]) ?_ ?_
   ·replace h := hj2
    apply Runs.inBlock
    obtain ⟨y3, hj3, h⟩ := bind_some h
    refine .mono (Q := fun x e σ => ∃ (w6 : PV), x = .normal ∧ EnvHas e [(2, (.ptr (b1 + 1) 4 0)), (3, (.ptr (b2 + 2) 4 0)), (4, w6), (10, (vl Granule.cs f.Odd)), (11, (vi (f.Odd.length : Int))), (12, (vi s2.1))] ∧ Hs σ [.sl w6 45 2 (y3.map Granule.cs) true, .blk (b2 + 2) 25 (vF x1), .blk (b1 + 1) 25 [(vi 0), (vi 0), .nils, .nils]]) ?_ ?_
    ·replace h := hj3
     apply Runs.then
     refine .regionH 4 rfl H ?_; intro b6 σ H
     obtain ⟨x2, q2, h⟩ := bind_some h
     refine .indexP (c := Granule.cs) (u := x2) rfl rfl q2 rfl rfl rfl rfl (.loadPA (cs := [(.int .i64 x2.Index), (.sl (x2.Ticks.map Span.cs))]) rfl rfl rfl rfl rfl rfl (.allocH (cs := [(vi 0), .nils]) H (by omega) (by omega) rfl rfl ?_)); intro σ H
     refine .storeH (off := 0) (cells' := [(vi x2.Index), (vl Span.cs x2.Ticks)]) H 0 rfl rfl rfl rfl rfl rfl rfl rfl rfl nofun ?_; intro σ H
     apply Ops.nil
     replace H := H.all
     apply Runs.then
     refine .regionH 4 rfl H ?_; intro b7 σ H
     refine .loadHA (off := 0) (cs := (vF x1)) H 2 rfl rfl rfl rfl rfl rfl rfl nofun rfl (.loadHA (off := 0) (cs := [(vi x2.Index), (vl Span.cs x2.Ticks)]) H 0 rfl rfl rfl rfl rfl rfl rfl nofun rfl ?_)
     obtain ⟨x3, q3, h⟩ := bind_some h
     refine .call (ys := [(.agg (vF x1)), (.agg [(vi x2.Index), (vl Span.cs x2.Ticks)])]) (r := (vb x3)) rfl (canon_plain_fn q3) rfl (.not (b := x3) rfl rfl ?_)
     apply Ops.nil
     replace H := H.all
     refine .whether (v := (!x3)) rfl ?_ ?_ <;> intro hc2
     ·replace h := cond_T hc2 h
      refine .drawnH 10 rfl (by kernel_rfl) H ?_; intro b8 σ H B8
      refine .move (v := w3) rfl rfl (.fieldAddrH (off := 0) (fo := 0) H 0 rfl rfl rfl rfl rfl (fun _ => .inl ⟨B8 0 _ rfl _ rfl, nofun, (fun _ => by kernel_rfl)⟩) rfl (.loadH (off := 0) (v := (vi x2.Index)) H 0 rfl rfl rfl rfl rfl (fun _ => .inl ⟨B8 0 _ rfl _ rfl, nofun, (fun _ => by kernel_rfl)⟩) rfl (.fieldAddrH (off := 0) (fo := 1) H 0 rfl rfl rfl rfl rfl (fun _ => .inl ⟨B8 0 _ rfl _ rfl, nofun, (fun _ => by kernel_rfl)⟩) rfl ?_)))
      refine .loadH (off := 1) (v := (vl Span.cs x2.Ticks)) H 0 rfl rfl rfl rfl rfl (fun _ => .inl ⟨B8 0 _ rfl _ rfl, nofun, (fun _ => by kernel_rfl)⟩) rfl ?_
      obtain ⟨x4, q4, h⟩ := bind_some h
      refine .call (ys := [(vl Span.cs x2.Ticks)]) (r := (vl Span.cs x4)) rfl (slices_Clone_SSpan_Span_fn q4) rfl (.buildA (cs := [(vi x2.Index), (vl Span.cs x4)]) rfl rfl (.buildS (sz := 2) ([(Granule.mk x2.Index x4)].map Granule.cs) H (by omega) (by omega) rfl rfl rfl rfl rfl rfl rfl rfl rfl ?_)); intro σ H
      obtain ⟨x5, q5, h⟩ := bind_some h
      refine .appendSt (c := Granule.cs) (v := w3) (w := (.buf (b8 + 7) 1 2)) (xs := s2.2) (ys := [(Granule.mk x2.Index x4)]) H (by omega) (by omega) 2 rfl rfl rfl (.s 0 rfl) q5 rfl rfl rfl rfl rfl (fun h => ⟨(fun id ho => .inl ⟨B8 1 _ rfl id ho, (fun _ => by kernel_rfl), nofun⟩), (fun id ho => .inr ⟨7, (by cases ho; rfl), (fun h => nomatch h), by kernel_rfl, by decide⟩)⟩) rfl ?_; intro w7 σ H
      refine .assign (v := w7) rfl rfl ?_
      apply Ops.nil
      replace H := H.all
      replace h := Option.some.inj h; subst h
      exact ⟨w7, rfl, ⟨rfl, rfl, rfl, rfl, rfl, rfl, trivial⟩, ((H.erase 1).erase 0)⟩
     ·replace h := cond_F hc2 h
      apply Runs.skip
      replace h := Option.some.inj h; subst h
      exact ⟨w3, rfl, ⟨rfl, rfl, rfl, rfl, rfl, rfl, trivial⟩, (H.erase 0)⟩
    ·rintro x e σ ⟨w8, rfl, he, H⟩
     obtain ⟨e, rfl⟩ := he.ex
     replace h := Option.some.inj h; subst h
     exact ⟨w8, rfl, ⟨rfl, rfl, rfl, rfl, rfl, rfl, trivial⟩, H⟩
   ·rintro x e σ ⟨w9, rfl, he, H⟩
    obtain ⟨e, rfl⟩ := he.ex
    refine .regionH 2 rfl H ?_; intro b9 σ H
    refine .int (m := s2.1) (m' := 1) (r := .int .i64 (w64 (s2.1 + 1))) rfl rfl rfl rfl rfl (.move (v := (vi (w64 (s2.1 + 1)))) rfl rfl ?_)
    apply Ops.nil
    replace H := H.all
    replace h := Option.some.inj h; subst h
    exact ⟨rfl, w9, ⟨rfl, rfl, rfl, rfl, rfl, rfl, trivial⟩, H⟩
  ·replace h := cond_F hc1 h
   apply Runs.exit
   replace h := Option.some.inj h; subst h
   exact ⟨nofun, ⟨w3, rfl, ⟨rfl, rfl, rfl, trivial⟩, H⟩⟩
 ·rintro x e σ ⟨w10, rfl, he, H⟩
  obtain ⟨e, rfl⟩ := he.ex
  apply Runs.then
  refine .regionH 3 rfl H ?_; intro b10 σ H
  refine .move (v := w10) rfl rfl (.fieldAddrH (off := 0) (fo := 3) H 1 rfl rfl rfl rfl rfl nofun rfl (.storeH (off := 3) (v := w10) (ys := [w10]) (cells' := [(vi x1.Period), (vi x1.Count), (vl (cL Span.cs) x1.Core), w10]) H 1 rfl rfl rfl rfl (H.slCells (k := 0) rfl) rfl rfl rfl rfl nofun ?_)); intro σ H
  apply Ops.nil
  replace H := H.all
  apply Runs.then
  refine .regionH 2 rfl H ?_; intro b11 σ H
  refine .loadHA (off := 0) (cs := [(vi x1.Period), (vi x1.Count), (vl (cL Span.cs) x1.Core), w10]) H 1 rfl rfl rfl rfl rfl rfl rfl nofun rfl (.storeH (off := 0) (cells' := [(vi x1.Period), (vi x1.Count), (vl (cL Span.cs) x1.Core), w10]) H 2 rfl rfl rfl rfl rfl rfl rfl rfl rfl nofun ?_); intro σ H
  apply Ops.nil
  replace H := H.all
  apply Runs.ret
  replace h := Option.some.inj h; subst h
  exact (Ends.H (xs := [(.agg [(vi x1.Period), (vi x1.Count), (vl (cL Span.cs) x1.Core), w10])]) (.inr rfl) H (.agg (cs := [(vi x1.Period), (vi x1.Count), (vl (cL Span.cs) x1.Core), w10]) (off := 0) 2 rfl rfl rfl rfl rfl rfl rfl .nil) (.one (.a (.cons (.v _) (.cons (.v _) (.cons (.v _) (.cons (.s 0 rfl) .nil)))))))

theorem slices_EqualFunc_SSSpan_SSSpan_SSpan_SSpan_fn {s1' : (List (List Span))} {s2' : (List (List Span))} {eq : (List Span) → (List Span) → Option Bool} {C : List Res} {cv0 : PV} (hs0 : cv0.still = true) (hp0 : cv0.pure = true → C = []) (hf0 : ∀ z0 z1 y, eq z0 z1 = some y → CloH CX cv0 [(vl Span.cs z0), (vl Span.cs z1)] (vb y) C) {r : Bool} (h : slices_EqualFunc_SSSpan_SSSpan_SSpan_SSpan s1' s2' eq = some r) : FnH CX 68 [(vl (cL Span.cs) s1'), (vl (cL Span.cs) s2'), cv0] (vb r) C := by
 refine FnH.of Try.func68 rfl rfl rfl rfl (all_t rfl (all_t rfl (all_t hs0 all_nil))) rfl (fun h => hp0 (all_get h 2 rfl)) ?_
 intro σ L hC H
 unfold slices_EqualFunc_SSSpan_SSSpan_SSpan_SSpan at h
 apply Runs.then
 refine .regionH 1 rfl H ?_; intro b1 σ H
 refine .assign (v := (vb false)) rfl rfl ?_
 apply Ops.nil
 replace H := H.all
 apply Runs.then
 apply Runs.then
 refine .regionH 5 rfl H ?_; intro b2 σ H
 refine .move (v := (vl (cL Span.cs) s1')) rfl rfl (.lenPt (c := (cL Span.cs)) (xs := s1') rfl rfl rfl (.move (v := (vl (cL Span.cs) s2')) rfl rfl (.lenPt (c := (cL Span.cs)) (xs := s2') rfl rfl rfl ?_)))
 refine .int (m := (s1'.length : Int)) (m' := (s2'.length : Int)) (r := .bool ((s1'.length : Int) != (s2'.length : Int))) rfl rfl rfl rfl rfl ?_
 apply Ops.nil
 replace H := H.all
 refine .whether (v := ((s1'.length : Int) != (s2'.length : Int))) rfl ?_ ?_ <;> intro hc1
 ·replace h := cond_T hc1 h
  apply Runs.then
  refine .regionH 1 rfl H ?_; intro b3 σ H
  refine .assign (v := (vb false)) rfl rfl ?_
  apply Ops.nil
  replace H := H.all
  apply Runs.ret
  replace h := Option.some.inj h; subst h
  exact (EndsH.H (xs := [(vb false)]) (.inr rfl) H (.tmp (v := (vb false)) rfl .nil) (.one (.c (.v _))) 0 rfl)
 ·replace h := cond_F hc1 h
  apply Runs.skip
  apply Runs.then
  apply Runs.then
  refine .regionH 3 rfl H ?_; intro b4 σ H
  refine .move (v := (vl (cL Span.cs) s1')) rfl rfl (.lenPt (c := (cL Span.cs)) (xs := s1') rfl rfl rfl (.move (v := (vi 0)) rfl rfl ?_))
  apply Ops.nil
  replace H := H.all
  apply Runs.inBlock
  obtain ⟨y1, hj1, h⟩ := bind_some h
  obtain ⟨n1, hj1⟩ := loopO_iff.1 hj1
  refine .mono (Runs.loopO hj1 (fun s1 e σ => EnvHas e [(1, (vl (cL Span.cs) s2')), (2, cv0), (15, (vl (cL Span.cs) s1')), (16, (vi (s1'.length : Int))), (17, (vi s1))] ∧ Hs σ (L)) (fun y1 x e σ => (∃ a1, y1 = (.go a1) ∧ x = .exit 0 ∧ EnvHas e [] ∧ Hs σ (L)) ∨ (∃ r', y1 = (.ret r') ∧ x = .ret ∧ EndsH CX Try.f68.results.toList (vb r') L x e σ)) ⟨⟨rfl, rfl, rfl, rfl, rfl, trivial⟩, H⟩ ?_) ?_
  ·intro s1 e σ hI z h
   obtain ⟨he, H⟩ := hI
   obtain ⟨e, rfl⟩ := he.ex
   unfold slices_EqualFunc_SSSpan_SSSpan_SSpan_SSpan.s0 at h
   apply Runs.then
   refine .regionH 1 rfl H ?_; intro b5 σ H
   refine .int (m := s1) (m' := (s1'.length : Int)) (r := .bool (decide (s1 < (s1'.length : Int)))) rfl rfl rfl rfl rfl ?_
   apply Ops.nil
   replace H := H.all
   apply Runs.then
   refine .whether (v := (decide (s1 < (s1'.length : Int)))) rfl ?_ ?_ <;> intro hc2
   ·replace h := cond_T hc2 h
    apply Runs.skip
    apply Runs.then
    apply Runs.inBlock
    apply Runs.then
    refine .regionH 5 rfl H ?_; intro b6 σ H
    refine .move (v := (vi s1)) rfl rfl ?_
    obtain ⟨x1, q1, h⟩ := bind_some h
    refine .indexP (c := (cL Span.cs)) (u := x1) rfl rfl q1 rfl rfl rfl rfl (.loadP (u := (.sl (x1.map Span.cs))) rfl rfl rfl rfl (.assign (v := (vi s1)) rfl rfl (.assign (v := (vl Span.cs x1)) rfl rfl ?_)))
    apply Ops.nil
    replace H := H.all
    apply Runs.then
    refine .regionH 5 rfl H ?_; intro b7 σ H
    refine .move (v := (vl (cL Span.cs) s2')) rfl rfl (.move (v := (vi s1)) rfl rfl ?_)
    obtain ⟨x2, q2, h⟩ := bind_some h
    refine .indexP (c := (cL Span.cs)) (u := x2) rfl rfl q2 rfl rfl rfl rfl (.loadP (u := (.sl (x2.map Span.cs))) rfl rfl rfl rfl (.assign (v := (vl Span.cs x2)) rfl rfl ?_))
    apply Ops.nil
    replace H := H.all
    apply Runs.then
    refine .regionH 5 rfl H ?_; intro b8 σ H
    refine .move (v := cv0) rfl rfl (.move (v := (vl Span.cs x1)) rfl rfl (.move (v := (vl Span.cs x2)) rfl rfl ?_))
    obtain ⟨x3, q3, h⟩ := bind_some h
    refine .callV (cv := cv0) (ys := [(vl Span.cs x1), (vl Span.cs x2)]) (r := (vb x3)) H rfl rfl (hf0 x1 x2 _ q3) hC nofun rfl ?_; intro σ H
    refine .not (b := x3) rfl rfl ?_
    apply Ops.nil
    replace H := H.all
    refine .whether (v := (!x3)) rfl ?_ ?_ <;> intro hc3
    ·replace h := cond_T hc3 h
     apply Runs.then
     refine .regionH 1 rfl H ?_; intro b9 σ H
     refine .assign (v := (vb false)) rfl rfl ?_
     apply Ops.nil
     replace H := H.all
     apply Runs.ret
     replace h := Option.some.inj h; subst h
     exact ⟨nofun, (.inr ⟨_, rfl, rfl, (EndsH.H (xs := [(vb false)]) (.inr rfl) H (.tmp (v := (vb false)) rfl .nil) (.one (.c (.v _))) 0 rfl)⟩)⟩
    ·replace h := cond_F hc3 h
     apply Runs.skip
     refine .regionH 2 rfl H ?_; intro b10 σ H
     refine .int (m := s1) (m' := 1) (r := .int .i64 (w64 (s1 + 1))) rfl rfl rfl rfl rfl (.move (v := (vi (w64 (s1 + 1)))) rfl rfl ?_)
     apply Ops.nil
     replace H := H.all
     replace h := Option.some.inj h; subst h
     exact ⟨rfl, ⟨rfl, rfl, rfl, rfl, rfl, trivial⟩, H⟩
   ·replace h := cond_F hc2 h
    apply Runs.exit
    replace h := Option.some.inj h; subst h
    exact ⟨nofun, (.inl ⟨_, rfl, rfl, trivial, H⟩)⟩
  ·rintro x e σ (⟨a2, rfl, rfl, he, H⟩ | ⟨r', rfl, rfl, hE⟩)
   ·skip
    replace h := jgo h
    obtain ⟨e, rfl⟩ := he.ex
    apply Runs.then
    refine .regionH 1 rfl H ?_; intro b11 σ H
    refine .assign (v := (vb true)) rfl rfl ?_
    apply Ops.nil
    replace H := H.all
    apply Runs.ret
    replace h := Option.some.inj h; subst h
    exact (EndsH.H (xs := [(vb true)]) (.inr rfl) H (.tmp (v := (vb true)) rfl .nil) (.one (.c (.v _))) 0 rfl)
   ·skip
    replace h := jret h
    replace h := Option.some.inj h; subst h
    exact hE

theorem slices_EqualFunc_SGranule_SGranule_Granule_Granule_fn {s1' : (List Granule)} {s2' : (List Granule)} {eq : Granule → Granule → Option Bool} {C : List Res} {cv0 : PV} (hs0 : cv0.still = true) (hp0 : cv0.pure = true → C = []) (hf0 : ∀ z0 z1 y, eq z0 z1 = some y → CloH CX cv0 [(.agg (vs (Granule.cs z0))), (.agg (vs (Granule.cs z1)))] (vb y) C) {r : Bool} (h : slices_EqualFunc_SGranule_SGranule_Granule_Granule s1' s2' eq = some r) : FnH CX 69 [(vl Granule.cs s1'), (vl Granule.cs s2'), cv0] (vb r) C := by
 refine FnH.of Try.func69 rfl rfl rfl rfl (all_t rfl (all_t rfl (all_t hs0 all_nil))) rfl (fun h => hp0 (all_get h 2 rfl)) ?_
 intro σ L hC H
 unfold slices_EqualFunc_SGranule_SGranule_Granule_Granule at h
 apply Runs.then
 refine .regionH 1 rfl H ?_; intro b1 σ H
 refine .assign (v := (vb false)) rfl rfl ?_
 apply Ops.nil
 replace H := H.all
 apply Runs.then
 apply Runs.then
 refine .regionH 5 rfl H ?_; intro b2 σ H
 refine .move (v := (vl Granule.cs s1')) rfl rfl (.lenPt (c := Granule.cs) (xs := s1') rfl rfl rfl (.move (v := (vl Granule.cs s2')) rfl rfl (.lenPt (c := Granule.cs) (xs := s2') rfl rfl rfl ?_)))
 refine .int (m := (s1'.length : Int)) (m' := (s2'.length : Int)) (r := .bool ((s1'.length : Int) != (s2'.length : Int))) rfl rfl rfl rfl rfl ?_
 apply Ops.nil
 replace H := H.all
 refine .whether (v := ((s1'.length : Int) != (s2'.length : Int))) rfl ?_ ?_ <;> intro hc1
 ·replace h := cond_T hc1 h
  apply Runs.then
  refine .regionH 1 rfl H ?_; intro b3 σ H
  refine .assign (v := (vb false)) rfl rfl ?_
  apply Ops.nil
  replace H := H.all
  apply Runs.ret
  replace h := Option.some.inj h; subst h
  exact (EndsH.H (xs := [(vb false)]) (.inr rfl) H (.tmp (v := (vb false)) rfl .nil) (.one (.c (.v _))) 0 rfl)
 ·replace h := cond_F hc1 h
  apply Runs.skip
  apply Runs.then
  apply Runs.then
  refine .regionH 3 rfl H ?_; intro b4 σ H
  refine .move (v := (vl Granule.cs s1')) rfl rfl (.lenPt (c := Granule.cs) (xs := s1') rfl rfl rfl (.move (v := (vi 0)) rfl rfl ?_))
  apply Ops.nil
  replace H := H.all
  apply Runs.inBlock
  obtain ⟨y1, hj1, h⟩ := bind_some h
  obtain ⟨n1, hj1⟩ := loopO_iff.1 hj1
  refine .mono (Runs.loopO hj1 (fun s1 e σ => EnvHas e [(1, (vl Granule.cs s2')), (2, cv0), (15, (vl Granule.cs s1')), (16, (vi (s1'.length : Int))), (17, (vi s1))] ∧ Hs σ (L)) (fun y1 x e σ => (∃ a1, y1 = (.go a1) ∧ x = .exit 0 ∧ EnvHas e [] ∧ Hs σ (L)) ∨ (∃ r', y1 = (.ret r') ∧ x = .ret ∧ EndsH CX Try.f69.results.toList (vb r') L x e σ)) ⟨⟨rfl, rfl, rfl, rfl, rfl, trivial⟩, H⟩ ?_) ?_
  ·intro s1 e σ hI z h
   obtain ⟨he, H⟩ := hI
   obtain ⟨e, rfl⟩ := he.ex
   unfold slices_EqualFunc_SGranule_SGranule_Granule_Granule.s0 at h
   apply Runs.then
   refine .regionH 1 rfl H ?_; intro b5 σ H
   refine .int (m := s1) (m' := (s1'.length : Int)) (r := .bool (decide (s1 < (s1'.length : Int)))) rfl rfl rfl rfl rfl ?_
   apply Ops.nil
   replace H := H.all
   apply Runs.then
   refine .whether (v := (decide (s1 < (s1'.length : Int)))) rfl ?_ ?_ <;> intro hc2
   ·replace h := cond_T hc2 h
    apply Runs.skip
    apply Runs.then
    apply Runs.inBlock
    apply Runs.then
    refine .regionH 6 rfl H ?_; intro b6 σ H
    refine .move (v := (vi s1)) rfl rfl ?_
    obtain ⟨x1, q1, h⟩ := bind_some h
    refine .indexP (c := Granule.cs) (u := x1) rfl rfl q1 rfl rfl rfl rfl (.loadPA (cs := [(.int .i64 x1.Index), (.sl (x1.Ticks.map Span.cs))]) rfl rfl rfl rfl rfl rfl (.allocH (cs := [(vi 0), .nils]) H (by omega) (by omega) rfl rfl ?_)); intro σ H
    refine .assign (v := (vi s1)) rfl rfl (.storeH (off := 0) (cells' := [(vi x1.Index), (vl Span.cs x1.Ticks)]) H 0 rfl rfl rfl rfl rfl rfl rfl rfl rfl nofun ?_); intro σ H
    apply Ops.nil
    replace H := H.all
    apply Runs.then
    refine .regionH 6 rfl H ?_; intro b7 σ H
    refine .move (v := (vl Granule.cs s2')) rfl rfl (.move (v := (vi s1)) rfl rfl ?_)
    obtain ⟨x2, q2, h⟩ := bind_some h
    refine .indexP (c := Granule.cs) (u := x2) rfl rfl q2 rfl rfl rfl rfl (.loadPA (cs := [(.int .i64 x2.Index), (.sl (x2.Ticks.map Span.cs))]) rfl rfl rfl rfl rfl rfl (.allocH (cs := [(vi 0), .nils]) H (by omega) (by omega) rfl rfl ?_)); intro σ H
    refine .storeH (off := 0) (cells' := [(vi x2.Index), (vl Span.cs x2.Ticks)]) H 0 rfl rfl rfl rfl rfl rfl rfl rfl rfl nofun ?_; intro σ H
    apply Ops.nil
    replace H := H.all
    apply Runs.then
    refine .regionH 5 rfl H ?_; intro b8 σ H
    refine .move (v := cv0) rfl rfl (.loadHA (off := 0) (cs := [(vi x1.Index), (vl Span.cs x1.Ticks)]) H 1 rfl rfl rfl rfl rfl rfl rfl nofun rfl (.loadHA (off := 0) (cs := [(vi x2.Index), (vl Span.cs x2.Ticks)]) H 0 rfl rfl rfl rfl rfl rfl rfl nofun rfl ?_))
    obtain ⟨x3, q3, h⟩ := bind_some h
    refine .callV (cv := cv0) (ys := [(.agg (vs (Granule.cs x1))), (.agg (vs (Granule.cs x2)))]) (r := (vb x3)) H rfl rfl (hf0 x1 x2 _ q3) hC.push.push nofun rfl ?_; intro σ H
    refine .not (b := x3) rfl rfl ?_
    apply Ops.nil
    replace H := H.all
    refine .whether (v := (!x3)) rfl ?_ ?_ <;> intro hc3
    ·replace h := cond_T hc3 h
     apply Runs.then
     refine .regionH 1 rfl H ?_; intro b9 σ H
     refine .assign (v := (vb false)) rfl rfl ?_
     apply Ops.nil
     replace H := H.all
     apply Runs.ret
     replace h := Option.some.inj h; subst h
     exact ⟨nofun, (.inr ⟨_, rfl, rfl, (EndsH.H (xs := [(vb false)]) (.inr rfl) H (.tmp (v := (vb false)) rfl .nil) (.one (.c (.v _))) 2 rfl)⟩)⟩
    ·replace h := cond_F hc3 h
     apply Runs.skip
     refine .regionH 2 rfl H ?_; intro b10 σ H
     refine .int (m := s1) (m' := 1) (r := .int .i64 (w64 (s1 + 1))) rfl rfl rfl rfl rfl (.move (v := (vi (w64 (s1 + 1)))) rfl rfl ?_)
     apply Ops.nil
     replace H := H.all
     replace h := Option.some.inj h; subst h
     exact ⟨rfl, ⟨rfl, rfl, rfl, rfl, rfl, trivial⟩, ((H.erase 1).erase 0)⟩
   ·replace h := cond_F hc2 h
    apply Runs.exit
    replace h := Option.some.inj h; subst h
    exact ⟨nofun, (.inl ⟨_, rfl, rfl, trivial, H⟩)⟩
  ·rintro x e σ (⟨a2, rfl, rfl, he, H⟩ | ⟨r', rfl, rfl, hE⟩)
   ·skip
    replace h := jgo h
    obtain ⟨e, rfl⟩ := he.ex
    apply Runs.then
    refine .regionH 1 rfl H ?_; intro b11 σ H
    refine .assign (v := (vb true)) rfl rfl ?_
    apply Ops.nil
    replace H := H.all
    apply Runs.ret
    replace h := Option.some.inj h; subst h
    exact (EndsH.H (xs := [(vb true)]) (.inr rfl) H (.tmp (v := (vb true)) rfl .nil) (.one (.c (.v _))) 0 rfl)
   ·skip
    replace h := jret h
    replace h := Option.some.inj h; subst h
    exact hE

theorem canon_equal_1_fn {x' : Granule} {y : Granule} {r : Bool} (h : canon_equal_1 x' y = some r) : Fn CX 70 [(.agg (vs (Granule.cs x'))), (.agg (vs (Granule.cs y)))] (vb r) := by
 refine Fn.ends Try.func70 rfl rfl rfl rfl rfl rfl ?_
 have H : Hs (⟨0, fun _ => .none⟩ : Heap) [] := Has.nil (Nat.le_refl _)
 generalize (⟨0, fun _ => .none⟩ : Heap) = σ at H ⊢
 unfold canon_equal_1 at h
 apply Runs.then
 refine .regionH 3 rfl H ?_; intro b1 σ H
 refine .boxH (cs := [(vi x'.Index), (vl Span.cs x'.Ticks)]) H (by omega) (by omega) rfl rfl rfl ?_; intro σ H
 refine .boxH (cs := [(vi y.Index), (vl Span.cs y.Ticks)]) H (by omega) (by omega) rfl rfl rfl ?_; intro σ H
 refine .assign (v := (vb false)) rfl rfl ?_
 apply Ops.nil
 replace H := H.all
 apply Runs.then
 refine .regionH 13 rfl H ?_; intro b2 σ H
 refine .fieldAddrH (off := 0) (fo := 0) H 1 rfl rfl rfl rfl rfl nofun rfl (.loadH (off := 0) (v := (vi x'.Index)) H 1 rfl rfl rfl rfl rfl nofun rfl (.fieldAddrH (off := 0) (fo := 0) H 0 rfl rfl rfl rfl rfl nofun rfl (.loadH (off := 0) (v := (vi y.Index)) H 0 rfl rfl rfl rfl rfl nofun rfl ?_)))
 refine .int (m := x'.Index) (m' := y.Index) (r := .bool (x'.Index == y.Index)) rfl rfl rfl rfl rfl (.move (v := (vb (x'.Index == y.Index))) rfl rfl ?_)
 obtain ⟨y1, hj1, h⟩ := bind_some h
 refine .mid 6 (K1 := fun e σ => EnvHas e [(16, (vb y1))] ∧ Has σ (b2 + 12) (b2 + 13) []) rfl ?_ ?_
 ·refine .split rfl rfl ?_ ?_ <;> intro hc1
  ·replace h := cond_T hc1 hj1
   refine .wanted rfl rfl (.fieldAddrH (off := 0) (fo := 1) H 1 rfl rfl rfl rfl rfl nofun rfl (.wanted rfl rfl (.loadH (off := 1) (v := (vl Span.cs x'.Ticks)) H 1 rfl rfl rfl rfl rfl nofun rfl ?_)))
   refine .wanted rfl rfl (.fieldAddrH (off := 0) (fo := 1) H 0 rfl rfl rfl rfl rfl nofun rfl (.wanted rfl rfl (.loadH (off := 1) (v := (vl Span.cs y.Ticks)) H 0 rfl rfl rfl rfl rfl nofun rfl ?_)))
   refine .wanted rfl rfl ?_
   obtain ⟨x1, q1, h⟩ := bind_some h
   refine .call (ys := [(vl Span.cs x'.Ticks), (vl Span.cs y.Ticks)]) (r := (vb x1)) rfl (spans_Same_fn q1) rfl (.pickT (v := (vb x1)) rfl rfl rfl ?_)
   apply Ops.nil
   replace h := Option.some.inj h; subst h
   exact ⟨⟨rfl, trivial⟩, ((H.erase 1).erase 0).weak (by omega) (Nat.le_refl _)⟩
  ·replace h := cond_F hc1 hj1
   refine .pass rfl rfl rfl (.pass rfl rfl rfl (.pass rfl rfl rfl (.pass rfl rfl rfl ?_)))
   refine .pass rfl rfl rfl (.pickF (v := (vb false)) rfl rfl rfl ?_)
   apply Ops.nil
   replace h := Option.some.inj h; subst h
   exact ⟨⟨rfl, trivial⟩, ((H.erase 1).erase 0).weak (by omega) (Nat.le_refl _)⟩
 ·rintro e σ ⟨he, H⟩
  obtain ⟨e, rfl⟩ := he.ex
  refine .assign (v := (vb y1)) rfl rfl ?_
  apply Ops.nil
  replace H := H.all
  apply Runs.ret
  replace h := Option.some.inj h; subst h
  exact (Ends.H (xs := [(vb y1)]) (.inr rfl) H (.tmp (v := (vb y1)) rfl .nil) (.one (.c (.v _))))

theorem canon_equal_fn {a : Form} {b : Form} {r : Bool} (h : canon_equal a b = some r) : Fn CX 55 [(.agg (vs (Form.cs a))), (.agg (vs (Form.cs b)))] (vb r) := by
 refine Fn.ends Try.func55 rfl rfl rfl rfl rfl rfl ?_
 have H : Hs (⟨0, fun _ => .none⟩ : Heap) [] := Has.nil (Nat.le_refl _)
 generalize (⟨0, fun _ => .none⟩ : Heap) = σ at H ⊢
 unfold canon_equal at h
 apply Runs.then
 refine .regionH 3 rfl H ?_; intro b1 σ H
 refine .boxH (cs := (vF a)) H (by omega) (by omega) rfl rfl rfl ?_; intro σ H
 refine .boxH (cs := (vF b)) H (by omega) (by omega) rfl rfl rfl ?_; intro σ H
 refine .assign (v := (vb false)) rfl rfl ?_
 apply Ops.nil
 replace H := H.all
 apply Runs.then
 refine .regionH 27 rfl H ?_; intro b2 σ H
 refine .fieldAddrH (off := 0) (fo := 0) H 1 rfl rfl rfl rfl rfl nofun rfl (.loadH (off := 0) (v := (vi a.Period)) H 1 rfl rfl rfl rfl rfl nofun rfl (.fieldAddrH (off := 0) (fo := 0) H 0 rfl rfl rfl rfl rfl nofun rfl (.loadH (off := 0) (v := (vi b.Period)) H 0 rfl rfl rfl rfl rfl nofun rfl ?_)))
 refine .int (m := a.Period) (m' := b.Period) (r := .bool (a.Period == b.Period)) rfl rfl rfl rfl rfl (.move (v := (vb (a.Period == b.Period))) rfl rfl ?_)
 refine .mid 6 (K1 := fun e σ => EnvHas e [(16, (vb ((a.Period == b.Period) && (a.Count == b.Count)))), (2, (.ptr (b1 + 0) 4 0)), (3, (.ptr (b1 + 1) 4 0))] ∧ Has σ (b2 + 12) (b2 + 27) [.blk (b1 + 1) 25 (vF b), .blk (b1 + 0) 25 (vF a)]) rfl ?_ ?_
 ·refine .split rfl rfl ?_ ?_ <;> intro hc1
  ·skip
   refine .wanted rfl rfl (.fieldAddrH (off := 0) (fo := 1) H 1 rfl rfl rfl rfl rfl nofun rfl (.wanted rfl rfl (.loadH (off := 1) (v := (vi a.Count)) H 1 rfl rfl rfl rfl rfl nofun rfl ?_)))
   refine .wanted rfl rfl (.fieldAddrH (off := 0) (fo := 1) H 0 rfl rfl rfl rfl rfl nofun rfl (.wanted rfl rfl (.loadH (off := 1) (v := (vi b.Count)) H 0 rfl rfl rfl rfl rfl nofun rfl ?_)))
   refine .wanted rfl rfl (.int (m := a.Count) (m' := b.Count) (r := .bool (a.Count == b.Count)) rfl rfl rfl rfl rfl (.pickT (v := (vb (a.Count == b.Count))) rfl rfl rfl ?_))
   apply Ops.nil
   exact ⟨⟨and_T hc1, rfl, rfl, trivial⟩, H.weak (by omega) (Nat.le_refl _)⟩
  ·skip
   refine .pass rfl rfl rfl (.pass rfl rfl rfl (.pass rfl rfl rfl (.pass rfl rfl rfl ?_)))
   refine .pass rfl rfl rfl (.pickF (v := (vb false)) rfl rfl rfl ?_)
   apply Ops.nil
   exact ⟨⟨and_F hc1, rfl, rfl, trivial⟩, H.weak (by omega) (Nat.le_refl _)⟩
 ·rintro e σ ⟨he, H⟩
  obtain ⟨e, rfl⟩ := he.ex
  refine .move (v := (vb ((a.Period == b.Period) && (a.Count == b.Count)))) rfl rfl ?_
  obtain ⟨y1, hj1, h⟩ := bind_some h
  refine .mid 6 (K1 := fun e σ => EnvHas e [(23, (vb y1)), (2, (.ptr (b1 + 0) 4 0)), (3, (.ptr (b1 + 1) 4 0))] ∧ Has σ (b2 + 19) (b2 + 27) [.blk (b1 + 1) 25 (vF b), .blk (b1 + 0) 25 (vF a)]) rfl ?_ ?_
  ·refine .split rfl rfl ?_ ?_ <;> intro hc2
   ·replace h := cond_T hc2 hj1
    refine .wanted rfl rfl (.fieldAddrH (off := 0) (fo := 2) H 1 rfl rfl rfl rfl rfl nofun rfl (.wanted rfl rfl (.loadH (off := 2) (v := (vl (cL Span.cs) a.Core)) H 1 rfl rfl rfl rfl rfl nofun rfl ?_)))
    refine .wanted rfl rfl (.fieldAddrH (off := 0) (fo := 2) H 0 rfl rfl rfl rfl rfl nofun rfl (.wanted rfl rfl (.loadH (off := 2) (v := (vl (cL Span.cs) b.Core)) H 0 rfl rfl rfl rfl rfl nofun rfl ?_)))
    refine .wanted rfl rfl ?_
    obtain ⟨x1, q1, h⟩ := bind_some h
    refine .callH (ys := [(vl (cL Span.cs) a.Core), (vl (cL Span.cs) b.Core), (.v (.fn 18))]) (r := (vb x1)) H rfl (slices_EqualFunc_SSSpan_SSSpan_SSpan_SSpan_fn (C := []) rfl (fun _ => rfl) (fun z0 z1 y hz => (CloH.fn (Fn.toH (spans_Same_fn hz) _))) q1) .nil nofun rfl ?_; intro σ H
    refine .pickT (v := (vb x1)) rfl rfl rfl ?_
    apply Ops.nil
    replace h := Option.some.inj h; subst h
    exact ⟨⟨rfl, rfl, rfl, trivial⟩, H.weak (by omega) (Nat.le_refl _)⟩
   ·replace h := cond_F hc2 hj1
    refine .pass rfl rfl rfl (.pass rfl rfl rfl (.pass rfl rfl rfl (.pass rfl rfl rfl ?_)))
    refine .pass rfl rfl rfl (.pickF (v := (vb false)) rfl rfl rfl ?_)
    apply Ops.nil
    replace h := Option.some.inj h; subst h
    exact ⟨⟨rfl, rfl, rfl, trivial⟩, H.weak (by omega) (Nat.le_refl _)⟩
  ·rintro e σ ⟨he, H⟩
   obtain ⟨e, rfl⟩ := he.ex
   refine .move (v := (vb y1)) rfl rfl ?_
   obtain ⟨y2, hj2, h⟩ := bind_some h
   refine .mid 6 (K1 := fun e σ => EnvHas e [(30, (vb y2))] ∧ Has σ (b2 + 26) (b2 + 27) []) rfl ?_ ?_
   ·refine .split rfl rfl ?_ ?_ <;> intro hc3
    ·replace h := cond_T hc3 hj2
     refine .wanted rfl rfl (.fieldAddrH (off := 0) (fo := 3) H 1 rfl rfl rfl rfl rfl nofun rfl (.wanted rfl rfl (.loadH (off := 3) (v := (vl Granule.cs a.Odd)) H 1 rfl rfl rfl rfl rfl nofun rfl ?_)))
     refine .wanted rfl rfl (.fieldAddrH (off := 0) (fo := 3) H 0 rfl rfl rfl rfl rfl nofun rfl (.wanted rfl rfl (.loadH (off := 3) (v := (vl Granule.cs b.Odd)) H 0 rfl rfl rfl rfl rfl nofun rfl ?_)))
     refine .wanted rfl rfl ?_
     obtain ⟨x2, q2, h⟩ := bind_some h
     refine .callH (ys := [(vl Granule.cs a.Odd), (vl Granule.cs b.Odd), (.v (.fn 70))]) (r := (vb x2)) H rfl (slices_EqualFunc_SGranule_SGranule_Granule_Granule_fn (C := []) rfl (fun _ => rfl) (fun z0 z1 y hz => (CloH.fn (Fn.toH (canon_equal_1_fn hz) _))) q2) .nil nofun rfl ?_; intro σ H
     refine .pickT (v := (vb x2)) rfl rfl rfl ?_
     apply Ops.nil
     replace h := Option.some.inj h; subst h
     exact ⟨⟨rfl, trivial⟩, ((H.erase 1).erase 0).weak (by omega) (Nat.le_refl _)⟩
    ·replace h := cond_F hc3 hj2
     refine .pass rfl rfl rfl (.pass rfl rfl rfl (.pass rfl rfl rfl (.pass rfl rfl rfl ?_)))
     refine .pass rfl rfl rfl (.pickF (v := (vb false)) rfl rfl rfl ?_)
     apply Ops.nil
     replace h := Option.some.inj h; subst h
     exact ⟨⟨rfl, trivial⟩, ((H.erase 1).erase 0).weak (by omega) (Nat.le_refl _)⟩
   ·rintro e σ ⟨he, H⟩
    obtain ⟨e, rfl⟩ := he.ex
    refine .assign (v := (vb y2)) rfl rfl ?_
    apply Ops.nil
    replace H := H.all
    apply Runs.ret
    replace h := Option.some.inj h; subst h
    exact (Ends.H (xs := [(vb y2)]) (.inr rfl) H (.tmp (v := (vb y2)) rfl .nil) (.one (.c (.v _))))

theorem canon_Same_fn {f : Form} {g : Form} {r : Bool} (h : canon_Same f g = some r) : Fn CX 31 [(.agg (vs (Form.cs f))), (.agg (vs (Form.cs g)))] (vb r) := by
 refine Fn.ends Try.func31 rfl rfl rfl rfl rfl rfl ?_
 have H : Hs (⟨0, fun _ => .none⟩ : Heap) [] := Has.nil (Nat.le_refl _)
 generalize (⟨0, fun _ => .none⟩ : Heap) = σ at H ⊢
 unfold canon_Same at h
 apply Runs.then
 refine .regionH 3 rfl H ?_; intro b1 σ H
 refine .boxH (cs := (vF f)) H (by omega) (by omega) rfl rfl rfl ?_; intro σ H
 refine .boxH (cs := (vF g)) H (by omega) (by omega) rfl rfl rfl ?_; intro σ H
 refine .assign (v := (vb false)) rfl rfl ?_
 apply Ops.nil
 replace H := H.all
 apply Runs.then
 refine .drawnH 6 rfl (by kernel_rfl) H ?_; intro b2 σ H B2
 refine .loadHA (off := 0) (cs := (vF f)) H 1 rfl rfl rfl rfl rfl rfl rfl (fun _ => .inl ⟨B2 1 _ rfl _ rfl, nofun, (fun _ => by kernel_rfl)⟩) rfl ?_
 obtain ⟨x1, q1, h⟩ := bind_some h
 refine .call (ys := [(.agg (vF f))]) (r := (.agg (vF x1))) rfl (canon_Form_fn q1) rfl (.loadHA (off := 0) (cs := (vF g)) H 0 rfl rfl rfl rfl rfl rfl rfl (fun _ => .inl ⟨B2 0 _ rfl _ rfl, nofun, (fun _ => by kernel_rfl)⟩) rfl ?_)
 obtain ⟨x2, q2, h⟩ := bind_some h
 refine .call (ys := [(.agg (vF g))]) (r := (.agg (vF x2))) rfl (canon_Form_fn q2) rfl ?_
 obtain ⟨x3, q3, h⟩ := bind_some h
 refine .call (ys := [(.agg (vF x1)), (.agg (vF x2))]) (r := (vb x3)) rfl (canon_equal_fn q3) rfl (.assign (v := (vb x3)) rfl rfl ?_)
 apply Ops.nil
 replace H := H.all
 apply Runs.ret
 replace h := Option.some.inj h; subst h
 exact (Ends.H (xs := [(vb x3)]) (.inr rfl) H (.tmp (v := (vb x3)) rfl .nil) (.one (.c (.v _))))

theorem epactlow_Alike_fn {a : (List Span)} {b : (List Span)} {r : Bool} (h : epactlow_Alike a b = some r) : Fn CX 48 [(vl Span.cs a), (vl Span.cs b)] (vb r) := by
 refine Fn.ends Try.func48 rfl rfl rfl rfl rfl rfl ?_
 have H : Hs (⟨0, fun _ => .none⟩ : Heap) [] := Has.nil (Nat.le_refl _)
 generalize (⟨0, fun _ => .none⟩ : Heap) = σ at H ⊢
 unfold epactlow_Alike at h
 apply Runs.then
 refine .regionH 1 rfl H ?_; intro b1 σ H
 refine .assign (v := (vb false)) rfl rfl ?_
 apply Ops.nil
 replace H := H.all
 apply Runs.then
 apply Runs.then
 refine .regionH 5 rfl H ?_; intro b2 σ H
 refine .move (v := (vl Span.cs a)) rfl rfl (.lenPt (c := Span.cs) (xs := a) rfl rfl rfl (.move (v := (vl Span.cs b)) rfl rfl (.lenPt (c := Span.cs) (xs := b) rfl rfl rfl ?_)))
 refine .int (m := (a.length : Int)) (m' := (b.length : Int)) (r := .bool ((a.length : Int) != (b.length : Int))) rfl rfl rfl rfl rfl ?_
 apply Ops.nil
 replace H := H.all
 refine .whether (v := ((a.length : Int) != (b.length : Int))) rfl ?_ ?_ <;> intro hc1
 ·replace h := cond_T hc1 h
  apply Runs.then
  refine .regionH 1 rfl H ?_; intro b3 σ H
  refine .assign (v := (vb false)) rfl rfl ?_
  apply Ops.nil
  replace H := H.all
  apply Runs.ret
  replace h := Option.some.inj h; subst h
  exact (Ends.H (xs := [(vb false)]) (.inr rfl) H (.tmp (v := (vb false)) rfl .nil) (.one (.c (.v _))))
 ·replace h := cond_F hc1 h
  apply Runs.skip
  apply Runs.then
  apply Runs.then
  refine .regionH 3 rfl H ?_; intro b4 σ H
  refine .move (v := (vl Span.cs a)) rfl rfl (.lenPt (c := Span.cs) (xs := a) rfl rfl rfl (.move (v := (vi 0)) rfl rfl ?_))
  apply Ops.nil
  replace H := H.all
  apply Runs.inBlock
  obtain ⟨y1, hj1, h⟩ := bind_some h
  obtain ⟨n1, hj1⟩ := loopO_iff.1 hj1
  refine .mono (Runs.loopO hj1 (fun s1 e σ => EnvHas e [(1, (vl Span.cs b)), (12, (vl Span.cs a)), (13, (vi (a.length : Int))), (14, (vi s1))] ∧ Hs σ []) (fun y1 x e σ => (∃ a1, y1 = (.go a1) ∧ x = .exit 0 ∧ EnvHas e [] ∧ Hs σ []) ∨ (∃ r', y1 = (.ret r') ∧ x = .ret ∧ Ends CX Try.f48.results.toList (vb r') x e σ)) ⟨⟨rfl, rfl, rfl, rfl, trivial⟩, H⟩ ?_) ?_
  ·intro s1 e σ hI z h
   obtain ⟨he, H⟩ := hI
   obtain ⟨e, rfl⟩ := he.ex
   unfold epactlow_Alike.s0 at h
   apply Runs.then
   refine .regionH 1 rfl H ?_; intro b5 σ H
   refine .int (m := s1) (m' := (a.length : Int)) (r := .bool (decide (s1 < (a.length : Int)))) rfl rfl rfl rfl rfl ?_
   apply Ops.nil
   replace H := H.all
   apply Runs.then
   refine .whether (v := (decide (s1 < (a.length : Int)))) rfl ?_ ?_ <;> intro hc2
   ·replace h := cond_T hc2 h
    apply Runs.skip
    apply Runs.then
    apply Runs.inBlock
    apply Runs.then
    refine .regionH 6 rfl H ?_; intro b6 σ H
    refine .move (v := (vi s1)) rfl rfl ?_
    obtain ⟨x1, q1, h⟩ := bind_some h
    refine .indexP (c := Span.cs) (u := x1) rfl rfl q1 rfl rfl rfl rfl (.loadPA (cs := [(.int .i64 x1.From), (.int .i64 x1.To)]) rfl rfl rfl rfl rfl rfl (.allocH (cs := [(vi 0), (vi 0)]) H (by omega) (by omega) rfl rfl ?_)); intro σ H
    refine .assign (v := (vi s1)) rfl rfl (.storeH (off := 0) (cells' := [(vi x1.From), (vi x1.To)]) H 0 rfl rfl rfl rfl rfl rfl rfl rfl rfl nofun ?_); intro σ H
    apply Ops.nil
    replace H := H.all
    apply Runs.then
    refine .drawnH 6 rfl (by kernel_rfl) H ?_; intro b7 σ H B7
    refine .move (v := (vl Span.cs b)) rfl rfl (.move (v := (vi s1)) rfl rfl ?_)
    obtain ⟨x2, q2, h⟩ := bind_some h
    refine .indexP (c := Span.cs) (u := x2) rfl rfl q2 rfl rfl rfl rfl (.loadPA (cs := [(.int .i64 x2.From), (.int .i64 x2.To)]) rfl rfl rfl rfl rfl rfl (.loadHA (off := 0) (cs := [(vi x1.From), (vi x1.To)]) H 0 rfl rfl rfl rfl rfl rfl rfl (fun _ => .inl ⟨B7 0 _ rfl _ rfl, nofun, (fun _ => by kernel_rfl)⟩) rfl (.binA (u := (.agg [(vi x2.From), (vi x2.To)])) (w := (.agg [(vi x1.From), (vi x1.To)])) (r := .bool (!((x2.From == x1.From) && ((x2.To == x1.To) && true)))) rfl rfl (by kernel_rfl) (fun _ => ask_eqA rfl rfl rfl rfl) rfl ?_)))
    apply Ops.nil
    replace H := H.all
    refine .whether (v := (!((x2.From == x1.From) && ((x2.To == x1.To) && true)))) rfl ?_ ?_ <;> intro hc3
    ·replace h := cond_T hc3 h
     apply Runs.then
     refine .regionH 1 rfl H ?_; intro b8 σ H
     refine .assign (v := (vb false)) rfl rfl ?_
     apply Ops.nil
     replace H := H.all
     apply Runs.ret
     replace h := Option.some.inj h; subst h
     exact ⟨nofun, (.inr ⟨_, rfl, rfl, (Ends.H (xs := [(vb false)]) (.inr rfl) H (.tmp (v := (vb false)) rfl .nil) (.one (.c (.v _))))⟩)⟩
    ·replace h := cond_F hc3 h
     apply Runs.skip
     refine .regionH 2 rfl H ?_; intro b9 σ H
     refine .int (m := s1) (m' := 1) (r := .int .i64 (w64 (s1 + 1))) rfl rfl rfl rfl rfl (.move (v := (vi (w64 (s1 + 1)))) rfl rfl ?_)
     apply Ops.nil
     replace H := H.all
     replace h := Option.some.inj h; subst h
     exact ⟨rfl, ⟨rfl, rfl, rfl, rfl, trivial⟩, (H.erase 0)⟩
   ·replace h := cond_F hc2 h
    apply Runs.exit
    replace h := Option.some.inj h; subst h
    exact ⟨nofun, (.inl ⟨_, rfl, rfl, trivial, H⟩)⟩
  ·rintro x e σ (⟨a2, rfl, rfl, he, H⟩ | ⟨r', rfl, rfl, hE⟩)
   ·skip
    replace h := jgo h
    obtain ⟨e, rfl⟩ := he.ex
    apply Runs.then
    refine .regionH 1 rfl H ?_; intro b10 σ H
    refine .assign (v := (vb true)) rfl rfl ?_
    apply Ops.nil
    replace H := H.all
    apply Runs.ret
    replace h := Option.some.inj h; subst h
    exact (Ends.H (xs := [(vb true)]) (.inr rfl) H (.tmp (v := (vb true)) rfl .nil) (.one (.c (.v _))))
   ·skip
    replace h := jret h
    replace h := Option.some.inj h; subst h
    exact hE

theorem epactlow_AlikeForms_fn {a : Form} {b : Form} {r : Bool} (h : epactlow_AlikeForms a b = some r) : Fn CX 24 [(.agg (vs (Form.cs a))), (.agg (vs (Form.cs b)))] (vb r) := by
 refine Fn.ends Try.func24 rfl rfl rfl rfl rfl rfl ?_
 have H : Hs (⟨0, fun _ => .none⟩ : Heap) [] := Has.nil (Nat.le_refl _)
 generalize (⟨0, fun _ => .none⟩ : Heap) = σ at H ⊢
 unfold epactlow_AlikeForms at h
 apply Runs.then
 refine .regionH 3 rfl H ?_; intro b1 σ H
 refine .boxH (cs := (vF a)) H (by omega) (by omega) rfl rfl rfl ?_; intro σ H
 refine .boxH (cs := (vF b)) H (by omega) (by omega) rfl rfl rfl ?_; intro σ H
 refine .assign (v := (vb false)) rfl rfl ?_
 apply Ops.nil
 replace H := H.all
 apply Runs.then
 apply Runs.then
 refine .regionH 30 rfl H ?_; intro b2 σ H
 refine .fieldAddrH (off := 0) (fo := 0) H 1 rfl rfl rfl rfl rfl nofun rfl (.loadH (off := 0) (v := (vi a.Period)) H 1 rfl rfl rfl rfl rfl nofun rfl (.fieldAddrH (off := 0) (fo := 0) H 0 rfl rfl rfl rfl rfl nofun rfl (.loadH (off := 0) (v := (vi b.Period)) H 0 rfl rfl rfl rfl rfl nofun rfl ?_)))
 refine .int (m := a.Period) (m' := b.Period) (r := .bool (a.Period != b.Period)) rfl rfl rfl rfl rfl (.move (v := (vb (a.Period != b.Period))) rfl rfl ?_)
 refine .mid 6 (K1 := fun e σ => EnvHas e [(20, (vb ((a.Period != b.Period) || (a.Count != b.Count)))), (2, (.ptr (b1 + 0) 4 0)), (3, (.ptr (b1 + 1) 4 0))] ∧ Has σ (b2 + 12) (b2 + 30) [.blk (b1 + 1) 25 (vF b), .blk (b1 + 0) 25 (vF a)]) rfl ?_ ?_
 ·refine .split rfl rfl ?_ ?_ <;> intro hc1
  ·skip
   refine .pass rfl rfl rfl (.pass rfl rfl rfl (.pass rfl rfl rfl (.pass rfl rfl rfl ?_)))
   refine .pass rfl rfl rfl (.pickT (v := (vb true)) rfl rfl rfl ?_)
   apply Ops.nil
   exact ⟨⟨or_T hc1, rfl, rfl, trivial⟩, H.weak (by omega) (Nat.le_refl _)⟩
  ·skip
   refine .wanted rfl rfl (.fieldAddrH (off := 0) (fo := 1) H 1 rfl rfl rfl rfl rfl nofun rfl (.wanted rfl rfl (.loadH (off := 1) (v := (vi a.Count)) H 1 rfl rfl rfl rfl rfl nofun rfl ?_)))
   refine .wanted rfl rfl (.fieldAddrH (off := 0) (fo := 1) H 0 rfl rfl rfl rfl rfl nofun rfl (.wanted rfl rfl (.loadH (off := 1) (v := (vi b.Count)) H 0 rfl rfl rfl rfl rfl nofun rfl ?_)))
   refine .wanted rfl rfl (.int (m := a.Count) (m' := b.Count) (r := .bool (a.Count != b.Count)) rfl rfl rfl rfl rfl (.pickF (v := (vb (a.Count != b.Count))) rfl rfl rfl ?_))
   apply Ops.nil
   exact ⟨⟨or_F hc1, rfl, rfl, trivial⟩, H.weak (by omega) (Nat.le_refl _)⟩
 ·rintro e σ ⟨he, H⟩
  obtain ⟨e, rfl⟩ := he.ex
  refine .move (v := (vb ((a.Period != b.Period) || (a.Count != b.Count)))) rfl rfl ?_
  refine .mid 8 (K1 := fun e σ => EnvHas e [(29, (vb (((a.Period != b.Period) || (a.Count != b.Count)) || ((a.Core.length : Int) != (b.Core.length : Int))))), (2, (.ptr (b1 + 0) 4 0)), (3, (.ptr (b1 + 1) 4 0))] ∧ Has σ (b2 + 21) (b2 + 30) [.blk (b1 + 1) 25 (vF b), .blk (b1 + 0) 25 (vF a)]) rfl ?_ ?_
  ·refine .split rfl rfl ?_ ?_ <;> intro hc2
   ·skip
    refine .pass rfl rfl rfl (.pass rfl rfl rfl (.pass rfl rfl rfl (.pass rfl rfl rfl ?_)))
    refine .pass rfl rfl rfl (.pass rfl rfl rfl (.pass rfl rfl rfl (.pickT (v := (vb true)) rfl rfl rfl ?_)))
    apply Ops.nil
    exact ⟨⟨or_T hc2, rfl, rfl, trivial⟩, H.weak (by omega) (Nat.le_refl _)⟩
   ·skip
    refine .wanted rfl rfl (.fieldAddrH (off := 0) (fo := 2) H 1 rfl rfl rfl rfl rfl nofun rfl (.wanted rfl rfl (.loadH (off := 2) (v := (vl (cL Span.cs) a.Core)) H 1 rfl rfl rfl rfl rfl nofun rfl ?_)))
    refine .wanted rfl rfl (.lenPt (c := (cL Span.cs)) (xs := a.Core) rfl rfl rfl (.wanted rfl rfl (.fieldAddrH (off := 0) (fo := 2) H 0 rfl rfl rfl rfl rfl nofun rfl ?_)))
    refine .wanted rfl rfl (.loadH (off := 2) (v := (vl (cL Span.cs) b.Core)) H 0 rfl rfl rfl rfl rfl nofun rfl (.wanted rfl rfl (.lenPt (c := (cL Span.cs)) (xs := b.Core) rfl rfl rfl ?_)))
    refine .wanted rfl rfl (.int (m := (a.Core.length : Int)) (m' := (b.Core.length : Int)) (r := .bool ((a.Core.length : Int) != (b.Core.length : Int))) rfl rfl rfl rfl rfl (.pickF (v := (vb ((a.Core.length : Int) != (b.Core.length : Int)))) rfl rfl rfl ?_))
    apply Ops.nil
    exact ⟨⟨or_F hc2, rfl, rfl, trivial⟩, H.weak (by omega) (Nat.le_refl _)⟩
  ·rintro e σ ⟨he, H⟩
   obtain ⟨e, rfl⟩ := he.ex
   refine .move (v := (vb (((a.Period != b.Period) || (a.Count != b.Count)) || ((a.Core.length : Int) != (b.Core.length : Int))))) rfl rfl ?_
   refine .mid 8 (K1 := fun e σ => EnvHas e [(38, (vb ((((a.Period != b.Period) || (a.Count != b.Count)) || ((a.Core.length : Int) != (b.Core.length : Int))) || ((a.Odd.length : Int) != (b.Odd.length : Int))))), (2, (.ptr (b1 + 0) 4 0)), (3, (.ptr (b1 + 1) 4 0))] ∧ Has σ (b2 + 30) (b2 + 30) [.blk (b1 + 1) 25 (vF b), .blk (b1 + 0) 25 (vF a)]) rfl ?_ ?_
   ·refine .split rfl rfl ?_ ?_ <;> intro hc3
    ·skip
     refine .pass rfl rfl rfl (.pass rfl rfl rfl (.pass rfl rfl rfl (.pass rfl rfl rfl ?_)))
     refine .pass rfl rfl rfl (.pass rfl rfl rfl (.pass rfl rfl rfl (.pickT (v := (vb true)) rfl rfl rfl ?_)))
     apply Ops.nil
     exact ⟨⟨or_T hc3, rfl, rfl, trivial⟩, H.weak (by omega) (Nat.le_refl _)⟩
    ·skip
     refine .wanted rfl rfl (.fieldAddrH (off := 0) (fo := 3) H 1 rfl rfl rfl rfl rfl nofun rfl (.wanted rfl rfl (.loadH (off := 3) (v := (vl Granule.cs a.Odd)) H 1 rfl rfl rfl rfl rfl nofun rfl ?_)))
     refine .wanted rfl rfl (.lenPt (c := Granule.cs) (xs := a.Odd) rfl rfl rfl (.wanted rfl rfl (.fieldAddrH (off := 0) (fo := 3) H 0 rfl rfl rfl rfl rfl nofun rfl ?_)))
     refine .wanted rfl rfl (.loadH (off := 3) (v := (vl Granule.cs b.Odd)) H 0 rfl rfl rfl rfl rfl nofun rfl (.wanted rfl rfl (.lenPt (c := Granule.cs) (xs := b.Odd) rfl rfl rfl ?_)))
     refine .wanted rfl rfl (.int (m := (a.Odd.length : Int)) (m' := (b.Odd.length : Int)) (r := .bool ((a.Odd.length : Int) != (b.Odd.length : Int))) rfl rfl rfl rfl rfl (.pickF (v := (vb ((a.Odd.length : Int) != (b.Odd.length : Int)))) rfl rfl rfl ?_))
     apply Ops.nil
     exact ⟨⟨or_F hc3, rfl, rfl, trivial⟩, H.weak (by omega) (Nat.le_refl _)⟩
   ·rintro e σ ⟨he, H⟩
    obtain ⟨e, rfl⟩ := he.ex
    apply Ops.nil
    replace H := H.all
    refine .whether (v := ((((a.Period != b.Period) || (a.Count != b.Count)) || ((a.Core.length : Int) != (b.Core.length : Int))) || ((a.Odd.length : Int) != (b.Odd.length : Int)))) rfl ?_ ?_ <;> intro hc4
    ·replace h := cond_T hc4 h
     apply Runs.then
     refine .regionH 1 rfl H ?_; intro b3 σ H
     refine .assign (v := (vb false)) rfl rfl ?_
     apply Ops.nil
     replace H := H.all
     apply Runs.ret
     replace h := Option.some.inj h; subst h
     exact (Ends.H (xs := [(vb false)]) (.inr rfl) H (.tmp (v := (vb false)) rfl .nil) (.one (.c (.v _))))
    ·replace h := cond_F hc4 h
     apply Runs.skip
     apply Runs.then
     apply Runs.then
     refine .regionH 4 rfl H ?_; intro b4 σ H
     refine .fieldAddrH (off := 0) (fo := 2) H 1 rfl rfl rfl rfl rfl nofun rfl (.loadH (off := 2) (v := (vl (cL Span.cs) a.Core)) H 1 rfl rfl rfl rfl rfl nofun rfl (.lenPt (c := (cL Span.cs)) (xs := a.Core) rfl rfl rfl (.move (v := (vi 0)) rfl rfl ?_)))
     apply Ops.nil
     replace H := H.all
     apply Runs.inBlock
     obtain ⟨y1, hj1, h⟩ := bind_some h
     obtain ⟨n1, hj1⟩ := loopO_iff.1 hj1
     refine .mono (Runs.loopO hj1 (fun s1 e σ => EnvHas e [(2, (.ptr (b1 + 0) 4 0)), (3, (.ptr (b1 + 1) 4 0)), (40, (vl (cL Span.cs) a.Core)), (41, (vi (a.Core.length : Int))), (42, (vi s1))] ∧ Hs σ [.blk (b1 + 1) 25 (vF b), .blk (b1 + 0) 25 (vF a)]) (fun y1 x e σ => (∃ a1, y1 = (.go a1) ∧ x = .exit 0 ∧ EnvHas e [(2, (.ptr (b1 + 0) 4 0)), (3, (.ptr (b1 + 1) 4 0))] ∧ Hs σ [.blk (b1 + 1) 25 (vF b), .blk (b1 + 0) 25 (vF a)]) ∨ (∃ r', y1 = (.ret r') ∧ x = .ret ∧ Ends CX Try.f24.results.toList (vb r') x e σ)) ⟨⟨rfl, rfl, rfl, rfl, rfl, trivial⟩, H⟩ ?_) ?_
     ·intro s1 e σ hI z h
      obtain ⟨he, H⟩ := hI
      obtain ⟨e, rfl⟩ := he.ex
      unfold epactlow_AlikeForms.s0 at h
      apply Runs.then
      refine .regionH 1 rfl H ?_; intro b5 σ H
      refine .int (m := s1) (m' := (a.Core.length : Int)) (r := .bool (decide (s1 < (a.Core.length : Int)))) rfl rfl rfl rfl rfl ?_
      apply Ops.nil
      replace H := H.all
      apply Runs.then
      refine .whether (v := (decide (s1 < (a.Core.length : Int)))) rfl ?_ ?_ <;> intro hc5
      ·replace h := cond_T hc5 h
       apply Runs.skip
       apply Runs.then
       apply Runs.inBlock
       apply Runs.then
       refine .regionH 5 rfl H ?_; intro b6 σ H
       refine .move (v := (vi s1)) rfl rfl ?_
       obtain ⟨x1, q1, h⟩ := bind_some h
       refine .indexP (c := (cL Span.cs)) (u := x1) rfl rfl q1 rfl rfl rfl rfl (.loadP (u := (.sl (x1.map Span.cs))) rfl rfl rfl rfl (.assign (v := (vi s1)) rfl rfl (.assign (v := (vl Span.cs x1)) rfl rfl ?_)))
       apply Ops.nil
       replace H := H.all
       apply Runs.then
       refine .regionH 8 rfl H ?_; intro b7 σ H
       refine .move (v := (vl Span.cs x1)) rfl rfl (.fieldAddrH (off := 0) (fo := 2) H 0 rfl rfl rfl rfl rfl nofun rfl (.loadH (off := 2) (v := (vl (cL Span.cs) b.Core)) H 0 rfl rfl rfl rfl rfl nofun rfl (.move (v := (vi s1)) rfl rfl ?_)))
       obtain ⟨x2, q2, h⟩ := bind_some h
       refine .indexP (c := (cL Span.cs)) (u := x2) rfl rfl q2 rfl rfl rfl rfl (.loadP (u := (.sl (x2.map Span.cs))) rfl rfl rfl rfl ?_)
       obtain ⟨x3, q3, h⟩ := bind_some h
       refine .call (ys := [(vl Span.cs x1), (vl Span.cs x2)]) (r := (vb x3)) rfl (epactlow_Alike_fn q3) rfl (.not (b := x3) rfl rfl ?_)
       apply Ops.nil
       replace H := H.all
       refine .whether (v := (!x3)) rfl ?_ ?_ <;> intro hc6
       ·replace h := cond_T hc6 h
        apply Runs.then
        refine .regionH 1 rfl H ?_; intro b8 σ H
        refine .assign (v := (vb false)) rfl rfl ?_
        apply Ops.nil
        replace H := H.all
        apply Runs.ret
        replace h := Option.some.inj h; subst h
        exact ⟨nofun, (.inr ⟨_, rfl, rfl, (Ends.H (xs := [(vb false)]) (.inr rfl) H (.tmp (v := (vb false)) rfl .nil) (.one (.c (.v _))))⟩)⟩
       ·replace h := cond_F hc6 h
        apply Runs.skip
        refine .regionH 2 rfl H ?_; intro b9 σ H
        refine .int (m := s1) (m' := 1) (r := .int .i64 (w64 (s1 + 1))) rfl rfl rfl rfl rfl (.move (v := (vi (w64 (s1 + 1)))) rfl rfl ?_)
        apply Ops.nil
        replace H := H.all
        replace h := Option.some.inj h; subst h
        exact ⟨rfl, ⟨rfl, rfl, rfl, rfl, rfl, trivial⟩, H⟩
      ·replace h := cond_F hc5 h
       apply Runs.exit
       replace h := Option.some.inj h; subst h
       exact ⟨nofun, (.inl ⟨_, rfl, rfl, ⟨rfl, rfl, trivial⟩, H⟩)⟩
     ·rintro x e σ (⟨a2, rfl, rfl, he, H⟩ | ⟨r', rfl, rfl, hE⟩)
      ·skip
       replace h := jgo h
       obtain ⟨e, rfl⟩ := he.ex
       apply Runs.then
       apply Runs.then
       refine .regionH 4 rfl H ?_; intro b10 σ H
       refine .fieldAddrH (off := 0) (fo := 3) H 1 rfl rfl rfl rfl rfl nofun rfl (.loadH (off := 3) (v := (vl Granule.cs a.Odd)) H 1 rfl rfl rfl rfl rfl nofun rfl (.lenPt (c := Granule.cs) (xs := a.Odd) rfl rfl rfl (.move (v := (vi 0)) rfl rfl ?_)))
       apply Ops.nil
       replace H := H.all
       apply Runs.inBlock
       obtain ⟨y2, hj2, h⟩ := bind_some h
       obtain ⟨n2, hj2⟩ := loopO_iff.1 hj2
       refine .mono (Runs.loopO hj2 (fun s2 e σ => EnvHas e [(3, (.ptr (b1 + 1) 4 0)), (57, (vl Granule.cs a.Odd)), (58, (vi (a.Odd.length : Int))), (59, (vi s2))] ∧ Hs σ [.blk (b1 + 1) 25 (vF b)]) (fun y2 x e σ => (∃ a3, y2 = (.go a3) ∧ x = .exit 2 ∧ EnvHas e [] ∧ Hs σ []) ∨ (∃ r', y2 = (.ret r') ∧ x = .ret ∧ Ends CX Try.f24.results.toList (vb r') x e σ)) ⟨⟨rfl, rfl, rfl, rfl, trivial⟩, (H.erase 1)⟩ ?_) ?_
       ·intro s2 e σ hI z h
        obtain ⟨he, H⟩ := hI
        obtain ⟨e, rfl⟩ := he.ex
        unfold epactlow_AlikeForms.s1 at h
        apply Runs.then
        refine .regionH 1 rfl H ?_; intro b11 σ H
        refine .int (m := s2) (m' := (a.Odd.length : Int)) (r := .bool (decide (s2 < (a.Odd.length : Int)))) rfl rfl rfl rfl rfl ?_
        apply Ops.nil
        replace H := H.all
        apply Runs.then
        refine .whether (v := (decide (s2 < (a.Odd.length : Int)))) rfl ?_ ?_ <;> intro hc7
        ·replace h := cond_T hc7 h
         apply Runs.skip
         apply Runs.then
         apply Runs.inBlock
         apply Runs.then
         refine .regionH 6 rfl H ?_; intro b12 σ H
         refine .move (v := (vi s2)) rfl rfl ?_
         obtain ⟨x4, q4, h⟩ := bind_some h
         refine .indexP (c := Granule.cs) (u := x4) rfl rfl q4 rfl rfl rfl rfl (.loadPA (cs := [(.int .i64 x4.Index), (.sl (x4.Ticks.map Span.cs))]) rfl rfl rfl rfl rfl rfl (.allocH (cs := [(vi 0), .nils]) H (by omega) (by omega) rfl rfl ?_)); intro σ H
         refine .assign (v := (vi s2)) rfl rfl (.storeH (off := 0) (cells' := [(vi x4.Index), (vl Span.cs x4.Ticks)]) H 0 rfl rfl rfl rfl rfl rfl rfl rfl rfl nofun ?_); intro σ H
         apply Ops.nil
         replace H := H.all
         apply Runs.then
         refine .drawnH 21 rfl (by kernel_rfl) H ?_; intro b13 σ H B13
         refine .fieldAddrH (off := 0) (fo := 0) H 0 rfl rfl rfl rfl rfl (fun _ => .inl ⟨B13 0 _ rfl _ rfl, nofun, (fun _ => by kernel_rfl)⟩) rfl (.loadH (off := 0) (v := (vi x4.Index)) H 0 rfl rfl rfl rfl rfl (fun _ => .inl ⟨B13 0 _ rfl _ rfl, nofun, (fun _ => by kernel_rfl)⟩) rfl (.fieldAddrH (off := 0) (fo := 3) H 1 rfl rfl rfl rfl rfl (fun _ => .inl ⟨B13 1 _ rfl _ rfl, nofun, (fun _ => by kernel_rfl)⟩) rfl (.loadH (off := 3) (v := (vl Granule.cs b.Odd)) H 1 rfl rfl rfl rfl rfl (fun _ => .inl ⟨B13 1 _ rfl _ rfl, nofun, (fun _ => by kernel_rfl)⟩) rfl ?_)))
         refine .move (v := (vi s2)) rfl rfl ?_
         obtain ⟨x5, q5, h⟩ := bind_some h
         refine .indexP (c := Granule.cs) (u := x5) rfl rfl q5 rfl rfl rfl rfl (.fieldAddrP rfl rfl rfl rfl (.loadP (u := (.int .i64 x5.Index)) rfl rfl rfl rfl (.int (m := x4.Index) (m' := x5.Index) (r := .bool (x4.Index != x5.Index)) rfl rfl rfl rfl rfl ?_)))
         refine .move (v := (vb (x4.Index != x5.Index))) rfl rfl ?_
         obtain ⟨y3, hj3, h⟩ := bind_some h
         refine .mid 11 (K1 := fun e σ => EnvHas e [(84, (vb y3)), (3, (.ptr (b1 + 1) 4 0)), (57, (vl Granule.cs a.Odd)), (58, (vi (a.Odd.length : Int))), (59, (vi s2))] ∧ Has σ (b13 + 21) (b13 + 21) [.blk (b1 + 1) 25 (vF b)]) rfl ?_ ?_
         ·refine .split rfl rfl ?_ ?_ <;> intro hc8
          ·replace h := cond_T hc8 hj3
           refine .pass rfl rfl rfl (.pass rfl rfl rfl (.pass rfl rfl rfl (.pass rfl rfl rfl ?_)))
           refine .pass rfl rfl rfl (.pass rfl rfl rfl (.pass rfl rfl rfl (.pass rfl rfl rfl ?_)))
           refine .pass rfl rfl rfl (.pass rfl rfl rfl (.pickT (v := (vb true)) rfl rfl rfl ?_))
           apply Ops.nil
           replace h := Option.some.inj h; subst h
           exact ⟨⟨rfl, rfl, rfl, rfl, rfl, trivial⟩, (H.erase 0).weak (by omega) (Nat.le_refl _)⟩
          ·replace h := cond_F hc8 hj3
           refine .wanted rfl rfl (.fieldAddrH (off := 0) (fo := 1) H 0 rfl rfl rfl rfl rfl (fun _ => .inl ⟨B13 0 _ rfl _ rfl, nofun, (fun _ => by kernel_rfl)⟩) rfl (.wanted rfl rfl (.loadH (off := 1) (v := (vl Span.cs x4.Ticks)) H 0 rfl rfl rfl rfl rfl (fun _ => .inl ⟨B13 0 _ rfl _ rfl, nofun, (fun _ => by kernel_rfl)⟩) rfl ?_)))
           refine .wanted rfl rfl (.fieldAddrH (off := 0) (fo := 3) H 1 rfl rfl rfl rfl rfl (fun _ => .inl ⟨B13 1 _ rfl _ rfl, nofun, (fun _ => by kernel_rfl)⟩) rfl (.wanted rfl rfl (.loadH (off := 3) (v := (vl Granule.cs b.Odd)) H 1 rfl rfl rfl rfl rfl (fun _ => .inl ⟨B13 1 _ rfl _ rfl, nofun, (fun _ => by kernel_rfl)⟩) rfl ?_)))
           refine .wanted rfl rfl (.move (v := (vi s2)) rfl rfl (.wanted rfl rfl ?_))
           obtain ⟨x6, q6, h⟩ := bind_some h
           refine .indexP (c := Granule.cs) (u := x6) rfl rfl q6 rfl rfl rfl rfl (.wanted rfl rfl (.fieldAddrP rfl rfl rfl rfl (.wanted rfl rfl ?_)))
           refine .loadP (u := (.sl (x6.Ticks.map Span.cs))) rfl rfl rfl rfl (.wanted rfl rfl ?_)
           obtain ⟨x7, q7, h⟩ := bind_some h
           refine .call (ys := [(vl Span.cs x4.Ticks), (vl Span.cs x6.Ticks)]) (r := (vb x7)) rfl (epactlow_Alike_fn q7) rfl (.wanted rfl rfl (.not (b := x7) rfl rfl (.pickF (v := (vb (!x7))) rfl rfl rfl ?_)))
           apply Ops.nil
           replace h := Option.some.inj h; subst h
           exact ⟨⟨rfl, rfl, rfl, rfl, rfl, trivial⟩, (H.erase 0).weak (by omega) (Nat.le_refl _)⟩
         ·rintro e σ ⟨he, H⟩
          obtain ⟨e, rfl⟩ := he.ex
          apply Ops.nil
          replace H := H.all
          refine .whether (v := y3) rfl ?_ ?_ <;> intro hc9
          ·replace h := cond_T hc9 h
           apply Runs.then
           refine .regionH 1 rfl H ?_; intro b14 σ H
           refine .assign (v := (vb false)) rfl rfl ?_
           apply Ops.nil
           replace H := H.all
           apply Runs.ret
           replace h := Option.some.inj h; subst h
           exact ⟨nofun, (.inr ⟨_, rfl, rfl, (Ends.H (xs := [(vb false)]) (.inr rfl) H (.tmp (v := (vb false)) rfl .nil) (.one (.c (.v _))))⟩)⟩
          ·replace h := cond_F hc9 h
           apply Runs.skip
           refine .regionH 2 rfl H ?_; intro b15 σ H
           refine .int (m := s2) (m' := 1) (r := .int .i64 (w64 (s2 + 1))) rfl rfl rfl rfl rfl (.move (v := (vi (w64 (s2 + 1)))) rfl rfl ?_)
           apply Ops.nil
           replace H := H.all
           replace h := Option.some.inj h; subst h
           exact ⟨rfl, ⟨rfl, rfl, rfl, rfl, trivial⟩, H⟩
        ·replace h := cond_F hc7 h
         apply Runs.exit
         replace h := Option.some.inj h; subst h
         exact ⟨nofun, (.inl ⟨_, rfl, rfl, trivial, (H.erase 0)⟩)⟩
       ·rintro x e σ (⟨a4, rfl, rfl, he, H⟩ | ⟨r', rfl, rfl, hE⟩)
        ·skip
         replace h := jgo h
         obtain ⟨e, rfl⟩ := he.ex
         apply Runs.then
         refine .regionH 1 rfl H ?_; intro b16 σ H
         refine .assign (v := (vb true)) rfl rfl ?_
         apply Ops.nil
         replace H := H.all
         apply Runs.ret
         replace h := Option.some.inj h; subst h
         exact (Ends.H (xs := [(vb true)]) (.inr rfl) H (.tmp (v := (vb true)) rfl .nil) (.one (.c (.v _))))
        ·skip
         replace h := jret h
         replace h := Option.some.inj h; subst h
         exact hE
      ·skip
       replace h := jret h
       replace h := Option.some.inj h; subst h
       exact hE

end Go.Dn

namespace Go.Dn
open Go Go.Proofs
set_option maxRecDepth 100000
set_option maxHeartbeats 4000000

theorem epactlaw06_CanonTurns_fn {f : Form} {times : Int} {at' : Int} {r : Bool} (h : epactlaw06_CanonTurns f times at' = some r) : Fn CX 10 [(.agg (vs (Form.cs f))), (.v (.int .u8 times)), (.v (.int .i8 at'))] (vb r) := by
 refine Fn.ends Try.func10 rfl rfl rfl rfl rfl rfl ?_
 have H : Hs (⟨0, fun _ => .none⟩ : Heap) [] := Has.nil (Nat.le_refl _)
 generalize (⟨0, fun _ => .none⟩ : Heap) = σ at H ⊢
 unfold epactlaw06_CanonTurns at h
 apply Runs.then
 refine .regionH 2 rfl H ?_; intro b1 σ H
 refine .boxH (cs := (vF f)) H (by omega) (by omega) rfl rfl rfl ?_; intro σ H
 refine .assign (v := (vb false)) rfl rfl ?_
 apply Ops.nil
 replace H := H.all
 apply Runs.then
 apply Runs.then
 refine .regionH 8 rfl H ?_; intro b2 σ H
 refine .loadHA (off := 0) (cs := (vF f)) H 0 rfl rfl rfl rfl rfl rfl rfl nofun rfl ?_
 obtain ⟨x1, q1, h⟩ := bind_some h
 refine .call (ys := [(.agg (vF f))]) (r := (vb x1)) rfl (epactlaw06_right_fn q1) rfl (.not (b := x1) rfl rfl (.move (v := (vb (!x1))) rfl rfl ?_))
 refine .mid 4 (K1 := fun e σ => EnvHas e [(22, (vb ((!x1) || (decide (f.Period > 1073741824))))), (1, (.v (.int .u8 times))), (2, (.v (.int .i8 at'))), (3, (.ptr (b1 + 0) 4 0))] ∧ Has σ (b2 + 8) (b2 + 8) [.blk (b1 + 0) 25 (vF f)]) rfl ?_ ?_
 ·refine .split rfl rfl ?_ ?_ <;> intro hc1
  ·skip
   refine .pass rfl rfl rfl (.pass rfl rfl rfl (.pass rfl rfl rfl (.pickT (v := (vb true)) rfl rfl rfl ?_)))
   apply Ops.nil
   exact ⟨⟨or_T hc1, rfl, rfl, rfl, trivial⟩, H.weak (by omega) (Nat.le_refl _)⟩
  ·skip
   refine .wanted rfl rfl (.fieldAddrH (off := 0) (fo := 0) H 0 rfl rfl rfl rfl rfl nofun rfl (.wanted rfl rfl (.loadH (off := 0) (v := (vi f.Period)) H 0 rfl rfl rfl rfl rfl nofun rfl ?_)))
   refine .wanted rfl rfl (.int (m := f.Period) (m' := 1073741824) (r := .bool (decide (f.Period > 1073741824))) rfl rfl rfl rfl rfl (.pickF (v := (vb (decide (f.Period > 1073741824)))) rfl rfl rfl ?_))
   apply Ops.nil
   exact ⟨⟨or_F hc1, rfl, rfl, rfl, trivial⟩, H.weak (by omega) (Nat.le_refl _)⟩
 ·rintro e σ ⟨he, H⟩
  obtain ⟨e, rfl⟩ := he.ex
  apply Ops.nil
  replace H := H.all
  refine .whether (v := ((!x1) || (decide (f.Period > 1073741824)))) rfl ?_ ?_ <;> intro hc2
  ·replace h := cond_T hc2 h
   apply Runs.then
   refine .regionH 2 rfl H ?_; intro b3 σ H
   refine .call (ys := []) (r := (vb epactlaw06_awake)) rfl (epactlaw06_awake_fn rfl) rfl (.assign (v := (vb epactlaw06_awake)) rfl rfl ?_)
   apply Ops.nil
   replace H := H.all
   apply Runs.ret
   replace h := Option.some.inj h; subst h
   exact (Ends.H (xs := [(vb epactlaw06_awake)]) (.inr rfl) H (.tmp (v := (vb epactlaw06_awake)) rfl .nil) (.one (.c (.v _))))
  ·replace h := cond_F hc2 h
   apply Runs.skip
   apply Runs.then
   refine .regionH 12 rfl H ?_; intro b4 σ H
   refine .loadHA (off := 0) (cs := (vF f)) H 0 rfl rfl rfl rfl rfl rfl rfl nofun rfl (.move (v := (.v (.int .u8 times))) rfl rfl (.rem (m := times) (m' := 6) rfl rfl (by decide) rfl (.conv (m := (times.tmod 6)) rfl rfl rfl rfl ?_)))
   refine .int (m := 1) (m' := (w64 (times.tmod 6))) (r := .int .i64 (w64 (1 + (w64 (times.tmod 6))))) rfl rfl rfl rfl rfl ?_
   obtain ⟨x2, q2, h⟩ := bind_some h
   refine .call (ys := [(.agg (vF f)), (vi (w64 (1 + (w64 (times.tmod 6)))))]) (r := (.tup [(.agg (vF x2.1)), (vb x2.2)])) rfl (epactlaw06_twice_fn q2) rfl (.move (v := (.tup [(.agg (vF x2.1)), (vb x2.2)])) rfl rfl (.extract (v := (.agg (vF x2.1))) rfl rfl rfl (.extract (v := (vb x2.2)) rfl rfl rfl ?_)))
   refine .allocH (cs := [(vi 0), (vi 0), .nils, .nils]) H (by omega) (by omega) rfl rfl ?_; intro σ H
   refine .storeH (off := 0) (cells' := (vF x2.1)) H 0 rfl rfl rfl rfl rfl rfl rfl rfl rfl nofun ?_; intro σ H
   refine .assign (v := (vb x2.2)) rfl rfl ?_
   apply Ops.nil
   replace H := H.all
   apply Runs.then
   apply Runs.then
   refine .regionH 7 rfl H ?_; intro b5 σ H
   refine .move (v := (vb x2.2)) rfl rfl (.not (b := x2.2) rfl rfl (.move (v := (vb (!x2.2))) rfl rfl ?_))
   obtain ⟨y1, hj1, h⟩ := bind_some h
   refine .mid 4 (K1 := fun e σ => EnvHas e [(39, (vb y1)), (2, (.v (.int .i8 at'))), (3, (.ptr (b1 + 0) 4 0)), (7, (.ptr (b4 + 9) 4 0))] ∧ Has σ (b5 + 7) (b5 + 7) [.blk (b4 + 9) 25 (vF x2.1), .blk (b1 + 0) 25 (vF f)]) rfl ?_ ?_
   ·refine .split rfl rfl ?_ ?_ <;> intro hc3
    ·replace h := cond_T hc3 hj1
     refine .pass rfl rfl rfl (.pass rfl rfl rfl (.pass rfl rfl rfl (.pickT (v := (vb true)) rfl rfl rfl ?_)))
     apply Ops.nil
     replace h := Option.some.inj h; subst h
     exact ⟨⟨rfl, rfl, rfl, rfl, trivial⟩, H.weak (by omega) (Nat.le_refl _)⟩
    ·replace h := cond_F hc3 hj1
     refine .wanted rfl rfl (.loadHA (off := 0) (cs := (vF x2.1)) H 0 rfl rfl rfl rfl rfl rfl rfl nofun rfl (.wanted rfl rfl ?_))
     obtain ⟨x3, q3, h⟩ := bind_some h
     refine .call (ys := [(.agg (vF x2.1))]) (r := (vi x3)) rfl (gran_Right_fn q3) rfl (.wanted rfl rfl (.int (m := x3) (m' := 0) (r := .bool (x3 != 0)) rfl rfl rfl rfl rfl (.pickF (v := (vb (x3 != 0))) rfl rfl rfl ?_)))
     apply Ops.nil
     replace h := Option.some.inj h; subst h
     exact ⟨⟨rfl, rfl, rfl, rfl, trivial⟩, H.weak (by omega) (Nat.le_refl _)⟩
   ·rintro e σ ⟨he, H⟩
    obtain ⟨e, rfl⟩ := he.ex
    apply Ops.nil
    replace H := H.all
    refine .whether (v := y1) rfl ?_ ?_ <;> intro hc4
    ·replace h := cond_T hc4 h
     apply Runs.then
     refine .regionH 2 rfl H ?_; intro b6 σ H
     refine .call (ys := []) (r := (vb epactlaw06_awake)) rfl (epactlaw06_awake_fn rfl) rfl (.assign (v := (vb epactlaw06_awake)) rfl rfl ?_)
     apply Ops.nil
     replace H := H.all
     apply Runs.ret
     replace h := Option.some.inj h; subst h
     exact (Ends.H (xs := [(vb epactlaw06_awake)]) (.inr rfl) H (.tmp (v := (vb epactlaw06_awake)) rfl .nil) (.one (.c (.v _))))
    ·replace h := cond_F hc4 h
     apply Runs.skip
     apply Runs.then
     refine .regionH 9 rfl H ?_; intro b7 σ H
     refine .loadHA (off := 0) (cs := (vF f)) H 1 rfl rfl rfl rfl rfl rfl rfl nofun rfl (.move (v := (.v (.int .i8 at'))) rfl rfl (.conv (m := at') rfl rfl rfl rfl ?_))
     obtain ⟨x4, q4, h⟩ := bind_some h
     refine .call (ys := [(.agg (vF f)), (vi (w64 at'))]) (r := (.tup [(vl Span.cs x4.1), (vi x4.2)])) rfl (gran_Get_fn q4) rfl (.move (v := (.tup [(vl Span.cs x4.1), (vi x4.2)])) rfl rfl (.extract (v := (vl Span.cs x4.1)) rfl rfl rfl (.extract (v := (vi x4.2)) rfl rfl rfl ?_)))
     refine .assign (v := (vl Span.cs x4.1)) rfl rfl (.assign (v := (vi x4.2)) rfl rfl ?_)
     apply Ops.nil
     replace H := H.all
     apply Runs.then
     refine .regionH 1 rfl H ?_; intro b8 σ H
     refine .assign (v := .nils) rfl rfl ?_
     apply Ops.nil
     replace H := H.all
     apply Runs.then
     refine .regionH 3 rfl H ?_; intro b9 σ H
     refine .move (v := (vi x4.2)) rfl rfl (.int (m := x4.2) (m' := 0) (r := .bool (x4.2 != 0)) rfl rfl rfl rfl rfl (.assign (v := (vb (x4.2 != 0))) rfl rfl ?_))
     apply Ops.nil
     replace H := H.all
     apply Runs.then
     apply Runs.then
     refine .regionH 4 rfl H ?_; intro b10 σ H
     refine .fieldAddrH (off := 0) (fo := 3) H 0 rfl rfl rfl rfl rfl nofun rfl (.loadH (off := 3) (v := (vl Granule.cs x2.1.Odd)) H 0 rfl rfl rfl rfl rfl nofun rfl (.lenPt (c := Granule.cs) (xs := x2.1.Odd) rfl rfl rfl (.move (v := (vi 0)) rfl rfl ?_)))
     apply Ops.nil
     replace H := H.all
     apply Runs.inBlock
     replace H := H.pushNil 45 2 true
     obtain ⟨y2, hj2, h⟩ := bind_some h
     obtain ⟨n1, hj2⟩ := loopO_iff.1 hj2
     refine .mono (Runs.loopO hj2 (fun s2 e σ => ∃ (w3 : PV), EnvHas e [(2, (.v (.int .i8 at'))), (3, (.ptr (b1 + 0) 4 0)), (7, (.ptr (b4 + 9) 4 0)), (9, (vl Span.cs x4.1)), (11, w3), (12, (vb s2.1)), (51, (vl Granule.cs x2.1.Odd)), (52, (vi (x2.1.Odd.length : Int))), (53, (vi s2.2.1))] ∧ Hs σ [.sl w3 45 2 (s2.2.2.map Granule.cs) true, .blk (b4 + 9) 25 (vF x2.1), .blk (b1 + 0) 25 (vF f)]) (fun y2 x e σ => ∃ (w4 : PV), x = .exit 0 ∧ EnvHas e [(2, (.v (.int .i8 at'))), (3, (.ptr (b1 + 0) 4 0)), (7, (.ptr (b4 + 9) 4 0)), (9, (vl Span.cs x4.1)), (11, w4), (12, (vb y2.1))] ∧ Hs σ [.sl w4 45 2 (y2.2.map Granule.cs) true, .blk (b4 + 9) 25 (vF x2.1), .blk (b1 + 0) 25 (vF f)]) ⟨.nils, ⟨rfl, rfl, rfl, rfl, rfl, rfl, rfl, rfl, rfl, trivial⟩, H⟩ ?_) ?_
     ·intro s2 e σ hI z h
      obtain ⟨w3, he, H⟩ := hI
      obtain ⟨e, rfl⟩ := he.ex
      unfold epactlaw06_CanonTurns.s0 at h
      apply Runs.then
      refine .regionH 1 rfl H ?_; intro b11 σ H
      refine .int (m := s2.2.1) (m' := (x2.1.Odd.length : Int)) (r := .bool (decide (s2.2.1 < (x2.1.Odd.length : Int)))) rfl rfl rfl rfl rfl ?_
      apply Ops.nil
      replace H := H.all
      apply Runs.then
      refine .whether (v := (decide (s2.2.1 < (x2.1.Odd.length : Int)))) rfl ?_ ?_ <;> intro hc5
      ·replace h := cond_T hc5 h
       apply Runs.skip
       apply Runs.then
       obtain ⟨y3, hj3, h⟩ := bind_some h
       refine .mono (Q := fun x e σ => ∃ (w5 : PV), x = .normal ∧ EnvHas e [(2, (.v (.int .i8 at'))), (3, (.ptr (b1 + 0) 4 0)), (7, (.ptr (b4 + 9) 4 0)), (9, (vl Span.cs x4.1)), (11, w5), (12, (vb y3.1)), (51, (vl Granule.cs x2.1.Odd)), (52, (vi (x2.1.Odd.length : Int))), (53, (vi s2.2.1))] ∧ Hs σ [.sl w5 45 2 (y3.2.map Granule.cs) true, .blk (b4 + 9) 25 (vF x2.1), .blk (b1 + 0) 25 (vF f)]) ?_ ?_
       ·replace h := hj3
        apply Runs.inBlock
        obtain ⟨y4, hj4, h⟩ := bind_some h
        refine .mono (Q := fun x e σ => ∃ (w6 : PV), x = .normal ∧ EnvHas e [(2, (.v (.int .i8 at'))), (3, (.ptr (b1 + 0) 4 0)), (7, (.ptr (b4 + 9) 4 0)), (9, (vl Span.cs x4.1)), (11, w6), (12, (vb y4.1)), (51, (vl Granule.cs x2.1.Odd)), (52, (vi (x2.1.Odd.length : Int))), (53, (vi s2.2.1))] ∧ Hs σ [.sl w6 45 2 (y4.2.map Granule.cs) true, .blk (b4 + 9) 25 (vF x2.1), .blk (b1 + 0) 25 (vF f)]) ?_ ?_
        ·replace h := hj4
         apply Runs.then
         refine .regionH 4 rfl H ?_; intro b12 σ H
         obtain ⟨x5, q5, h⟩ := bind_some h
         refine .indexP (c := Granule.cs) (u := x5) rfl rfl q5 rfl rfl rfl rfl (.loadPA (cs := [(.int .i64 x5.Index), (.sl (x5.Ticks.map Span.cs))]) rfl rfl rfl rfl rfl rfl (.allocH (cs := [(vi 0), .nils]) H (by omega) (by omega) rfl rfl ?_)); intro σ H
         refine .storeH (off := 0) (cells' := [(vi x5.Index), (vl Span.cs x5.Ticks)]) H 0 rfl rfl rfl rfl rfl rfl rfl rfl rfl nofun ?_; intro σ H
         apply Ops.nil
         replace H := H.all
         apply Runs.then
         obtain ⟨y5, hj5, h⟩ := bind_some h
         refine .mono (Q := fun x e σ => x = .normal ∧ EnvHas e [(2, (.v (.int .i8 at'))), (3, (.ptr (b1 + 0) 4 0)), (7, (.ptr (b4 + 9) 4 0)), (9, (vl Span.cs x4.1)), (11, w3), (12, (vb y5)), (14, (.ptr (b12 + 2) 2 0)), (51, (vl Granule.cs x2.1.Odd)), (52, (vi (x2.1.Odd.length : Int))), (53, (vi s2.2.1))] ∧ Hs σ [.blk (b12 + 2) 45 [(vi x5.Index), (vl Span.cs x5.Ticks)], .sl w3 45 2 (s2.2.2.map Granule.cs) true, .blk (b4 + 9) 25 (vF x2.1), .blk (b1 + 0) 25 (vF f)]) ?_ ?_
         ·replace h := hj5
          apply Runs.then
          refine .regionH 5 rfl H ?_; intro b13 σ H
          refine .fieldAddrH (off := 0) (fo := 0) H 0 rfl rfl rfl rfl rfl nofun rfl (.loadH (off := 0) (v := (vi x5.Index)) H 0 rfl rfl rfl rfl rfl nofun rfl (.move (v := (.v (.int .i8 at'))) rfl rfl (.conv (m := at') rfl rfl rfl rfl ?_)))
          refine .int (m := x5.Index) (m' := (w64 at')) (r := .bool (x5.Index == (w64 at'))) rfl rfl rfl rfl rfl ?_
          apply Ops.nil
          replace H := H.all
          refine .whether (v := (x5.Index == (w64 at'))) rfl ?_ ?_ <;> intro hc6
          ·replace h := cond_T hc6 h
           refine .regionH 1 rfl H ?_; intro b14 σ H
           refine .assign (v := (vb true)) rfl rfl ?_
           apply Ops.nil
           replace H := H.all
           replace h := Option.some.inj h; subst h
           exact ⟨rfl, ⟨rfl, rfl, rfl, rfl, rfl, rfl, rfl, rfl, rfl, rfl, trivial⟩, H⟩
          ·replace h := cond_F hc6 h
           apply Runs.skip
           replace h := Option.some.inj h; subst h
           exact ⟨rfl, ⟨rfl, rfl, rfl, rfl, rfl, rfl, rfl, rfl, rfl, rfl, trivial⟩, H⟩
         ·rintro x e σ ⟨rfl, he, H⟩
          obtain ⟨e, rfl⟩ := he.ex
          apply Runs.then
          obtain ⟨y6, hj6, h⟩ := bind_some h
          refine .mono (Q := fun x e σ => ∃ (w7 : PV), x = .normal ∧ EnvHas e [(2, (.v (.int .i8 at'))), (3, (.ptr (b1 + 0) 4 0)), (7, (.ptr (b4 + 9) 4 0)), (9, (vl Span.cs x4.1)), (11, w7), (12, (vb y6.1)), (14, (.ptr (b12 + 2) 2 0)), (51, (vl Granule.cs x2.1.Odd)), (52, (vi (x2.1.Odd.length : Int))), (53, (vi s2.2.1))] ∧ Hs σ [.blk (b12 + 2) 45 [(vi x5.Index), (vl Span.cs x5.Ticks)], .sl w7 45 2 (y6.2.map Granule.cs) true, .blk (b4 + 9) 25 (vF x2.1), .blk (b1 + 0) 25 (vF f)]) ?_ ?_
          ·replace h := hj6
           apply Runs.then
           refine .regionH 9 rfl H ?_; intro b15 σ H
           refine .move (v := (vb y5)) rfl rfl (.not (b := y5) rfl rfl (.move (v := (vb (!y5))) rfl rfl ?_))
           refine .mid 6 (K1 := fun e σ => EnvHas e [(70, (vb ((!y5) && (decide (x5.Index > (w64 at')))))), (2, (.v (.int .i8 at'))), (3, (.ptr (b1 + 0) 4 0)), (7, (.ptr (b4 + 9) 4 0)), (9, (vl Span.cs x4.1)), (11, w3), (12, (vb y5)), (14, (.ptr (b12 + 2) 2 0)), (51, (vl Granule.cs x2.1.Odd)), (52, (vi (x2.1.Odd.length : Int))), (53, (vi s2.2.1))] ∧ Has σ (b15 + 9) (b15 + 9) [.blk (b12 + 2) 45 [(vi x5.Index), (vl Span.cs x5.Ticks)], .sl w3 45 2 (s2.2.2.map Granule.cs) true, .blk (b4 + 9) 25 (vF x2.1), .blk (b1 + 0) 25 (vF f)]) rfl ?_ ?_
           ·refine .split rfl rfl ?_ ?_ <;> intro hc7
            ·skip
             refine .wanted rfl rfl (.fieldAddrH (off := 0) (fo := 0) H 0 rfl rfl rfl rfl rfl nofun rfl (.wanted rfl rfl (.loadH (off := 0) (v := (vi x5.Index)) H 0 rfl rfl rfl rfl rfl nofun rfl ?_)))
             refine .wanted rfl rfl (.move (v := (.v (.int .i8 at'))) rfl rfl (.wanted rfl rfl (.conv (m := at') rfl rfl rfl rfl ?_)))
             refine .wanted rfl rfl (.int (m := x5.Index) (m' := (w64 at')) (r := .bool (decide (x5.Index > (w64 at')))) rfl rfl rfl rfl rfl (.pickT (v := (vb (decide (x5.Index > (w64 at'))))) rfl rfl rfl ?_))
             apply Ops.nil
             exact ⟨⟨and_T hc7, rfl, rfl, rfl, rfl, rfl, rfl, rfl, rfl, rfl, rfl, trivial⟩, H.weak (by omega) (Nat.le_refl _)⟩
            ·skip
             refine .pass rfl rfl rfl (.pass rfl rfl rfl (.pass rfl rfl rfl (.pass rfl rfl rfl ?_)))
             refine .pass rfl rfl rfl (.pickF (v := (vb false)) rfl rfl rfl ?_)
             apply Ops.nil
             exact ⟨⟨and_F hc7, rfl, rfl, rfl, rfl, rfl, rfl, rfl, rfl, rfl, rfl, trivial⟩, H.weak (by omega) (Nat.le_refl _)⟩
           ·rintro e σ ⟨he, H⟩
            obtain ⟨e, rfl⟩ := he.ex
            apply Ops.nil
            replace H := H.all
            refine .whether (v := ((!y5) && (decide (x5.Index > (w64 at'))))) rfl ?_ ?_ <;> intro hc8
            ·replace h := cond_T hc8 h
             refine .regionH 9 rfl H ?_; intro b16 σ H
             refine .move (v := w3) rfl rfl (.move (v := (.v (.int .i8 at'))) rfl rfl (.conv (m := at') rfl rfl rfl rfl (.move (v := (vl Span.cs x4.1)) rfl rfl ?_)))
             refine .buildA (cs := [(vi (w64 at')), (vl Span.cs x4.1)]) rfl rfl (.buildS (sz := 2) ([(Granule.mk (w64 at') x4.1)].map Granule.cs) H (by omega) (by omega) rfl rfl rfl rfl rfl rfl rfl rfl rfl ?_); intro σ H
             obtain ⟨x6, q6, h⟩ := bind_some h
             refine .appendSt (c := Granule.cs) (v := w3) (w := (.buf (b16 + 5) 1 2)) (xs := s2.2.2) (ys := [(Granule.mk (w64 at') x4.1)]) H (by omega) (by omega) 2 rfl rfl rfl (.s 0 rfl) q6 rfl rfl rfl rfl rfl nofun rfl ?_; intro w8 σ H
             refine .assign (v := w8) rfl rfl (.assign (v := (vb true)) rfl rfl ?_)
             apply Ops.nil
             replace H := H.all
             replace h := Option.some.inj h; subst h
             exact ⟨w8, rfl, ⟨rfl, rfl, rfl, rfl, rfl, rfl, rfl, rfl, rfl, rfl, trivial⟩, (H.erase 0)⟩
            ·replace h := cond_F hc8 h
             apply Runs.skip
             replace h := Option.some.inj h; subst h
             exact ⟨w3, rfl, ⟨rfl, rfl, rfl, rfl, rfl, rfl, rfl, rfl, rfl, rfl, trivial⟩, H⟩
          ·rintro x e σ ⟨w9, rfl, he, H⟩
           obtain ⟨e, rfl⟩ := he.ex
           refine .regionH 5 rfl H ?_; intro b17 σ H
           refine .move (v := w9) rfl rfl (.loadHA (off := 0) (cs := [(vi x5.Index), (vl Span.cs x5.Ticks)]) H 0 rfl rfl rfl rfl rfl rfl rfl nofun rfl (.buildS (sz := 2) ([x5].map Granule.cs) H (by omega) (by omega) rfl rfl rfl rfl rfl rfl rfl rfl rfl ?_)); intro σ H
           obtain ⟨x7, q7, h⟩ := bind_some h
           refine .appendSt (c := Granule.cs) (v := w9) (w := (.buf (b17 + 2) 1 2)) (xs := y6.2) (ys := [x5]) H (by omega) (by omega) 2 rfl rfl rfl (.s 0 rfl) q7 rfl rfl rfl rfl rfl nofun rfl ?_; intro w10 σ H
           refine .assign (v := w10) rfl rfl ?_
           apply Ops.nil
           replace H := H.all
           replace h := Option.some.inj h; subst h
           exact ⟨w10, rfl, ⟨rfl, rfl, rfl, rfl, rfl, rfl, rfl, rfl, rfl, trivial⟩, ((H.erase 1).erase 0)⟩
        ·rintro x e σ ⟨w11, rfl, he, H⟩
         obtain ⟨e, rfl⟩ := he.ex
         replace h := Option.some.inj h; subst h
         exact ⟨w11, rfl, ⟨rfl, rfl, rfl, rfl, rfl, rfl, rfl, rfl, rfl, trivial⟩, H⟩
       ·rintro x e σ ⟨w12, rfl, he, H⟩
        obtain ⟨e, rfl⟩ := he.ex
        refine .regionH 2 rfl H ?_; intro b18 σ H
        refine .int (m := s2.2.1) (m' := 1) (r := .int .i64 (w64 (s2.2.1 + 1))) rfl rfl rfl rfl rfl (.move (v := (vi (w64 (s2.2.1 + 1)))) rfl rfl ?_)
        apply Ops.nil
        replace H := H.all
        replace h := Option.some.inj h; subst h
        exact ⟨rfl, w12, ⟨rfl, rfl, rfl, rfl, rfl, rfl, rfl, rfl, rfl, trivial⟩, H⟩
      ·replace h := cond_F hc5 h
       apply Runs.exit
       replace h := Option.some.inj h; subst h
       exact ⟨nofun, ⟨w3, rfl, ⟨rfl, rfl, rfl, rfl, rfl, rfl, trivial⟩, H⟩⟩
     ·rintro x e σ ⟨w13, rfl, he, H⟩
      obtain ⟨e, rfl⟩ := he.ex
      apply Runs.then
      obtain ⟨y7, hj7, h⟩ := bind_some h
      refine .mono (Q := fun x e σ => ∃ (w14 : PV), x = .normal ∧ EnvHas e [(3, (.ptr (b1 + 0) 4 0)), (7, (.ptr (b4 + 9) 4 0)), (11, w14)] ∧ Hs σ [.sl w14 45 2 (y7.map Granule.cs) true, .blk (b4 + 9) 25 (vF x2.1), .blk (b1 + 0) 25 (vF f)]) ?_ ?_
      ·replace h := hj7
       apply Runs.then
       refine .regionH 2 rfl H ?_; intro b19 σ H
       refine .move (v := (vb y2.1)) rfl rfl (.not (b := y2.1) rfl rfl ?_)
       apply Ops.nil
       replace H := H.all
       refine .whether (v := (!y2.1)) rfl ?_ ?_ <;> intro hc9
       ·replace h := cond_T hc9 h
        refine .regionH 8 rfl H ?_; intro b20 σ H
        refine .move (v := w13) rfl rfl (.move (v := (.v (.int .i8 at'))) rfl rfl (.conv (m := at') rfl rfl rfl rfl (.move (v := (vl Span.cs x4.1)) rfl rfl ?_)))
        refine .buildA (cs := [(vi (w64 at')), (vl Span.cs x4.1)]) rfl rfl (.buildS (sz := 2) ([(Granule.mk (w64 at') x4.1)].map Granule.cs) H (by omega) (by omega) rfl rfl rfl rfl rfl rfl rfl rfl rfl ?_); intro σ H
        obtain ⟨x8, q8, h⟩ := bind_some h
        refine .appendSt (c := Granule.cs) (v := w13) (w := (.buf (b20 + 5) 1 2)) (xs := y2.2) (ys := [(Granule.mk (w64 at') x4.1)]) H (by omega) (by omega) 1 rfl rfl rfl (.s 0 rfl) q8 rfl rfl rfl rfl rfl nofun rfl ?_; intro w15 σ H
        refine .assign (v := w15) rfl rfl ?_
        apply Ops.nil
        replace H := H.all
        replace h := Option.some.inj h; subst h
        exact ⟨w15, rfl, ⟨rfl, rfl, rfl, trivial⟩, (H.erase 0)⟩
       ·replace h := cond_F hc9 h
        apply Runs.skip
        replace h := Option.some.inj h; subst h
        exact ⟨w13, rfl, ⟨rfl, rfl, rfl, trivial⟩, H⟩
      ·rintro x e σ ⟨w16, rfl, he, H⟩
       obtain ⟨e, rfl⟩ := he.ex
       apply Runs.then
       refine .regionH 3 rfl H ?_; intro b21 σ H
       refine .move (v := w16) rfl rfl (.fieldAddrH (off := 0) (fo := 3) H 1 rfl rfl rfl rfl rfl nofun rfl (.storeH (off := 3) (v := w16) (ys := [w16]) (cells' := [(vi x2.1.Period), (vi x2.1.Count), (vl (cL Span.cs) x2.1.Core), w16]) H 1 rfl rfl rfl rfl (H.slCells (k := 0) rfl) rfl rfl rfl rfl nofun ?_)); intro σ H
       apply Ops.nil
       replace H := H.all
       apply Runs.then
       apply Runs.then
       refine .regionH 3 rfl H ?_; intro b22 σ H
       refine .loadHA (off := 0) (cs := [(vi x2.1.Period), (vi x2.1.Count), (vl (cL Span.cs) x2.1.Core), w16]) H 1 rfl rfl rfl rfl rfl rfl rfl nofun rfl ?_
       obtain ⟨x9, q9, h⟩ := bind_some h
       refine .callX (xs := [(.agg [(vi x2.1.Period), (vi x2.1.Count), (vl (cL Span.cs) x2.1.Core), w16])]) (ys := [(.agg (vs (Form.cs (Form.mk x2.1.Period x2.1.Count x2.1.Core y7))))]) H rfl (.cons (.a (.cons (.v _) (.cons (.v _) (.cons (.v _) (.cons (.s 0 rfl) .nil))))) .nil) (gran_Right_fn q9) rfl rfl nofun rfl ?_; intro σ H
       refine .int (m := x9) (m' := 0) (r := .bool (x9 != 0)) rfl rfl rfl rfl rfl ?_
       apply Ops.nil
       replace H := H.all
       refine .whether (v := (x9 != 0)) rfl ?_ ?_ <;> intro hc10
       ·replace h := cond_T hc10 h
        apply Runs.then
        refine .regionH 2 rfl H ?_; intro b23 σ H
        refine .call (ys := []) (r := (vb epactlaw06_awake)) rfl (epactlaw06_awake_fn rfl) rfl (.assign (v := (vb epactlaw06_awake)) rfl rfl ?_)
        apply Ops.nil
        replace H := H.all
        apply Runs.ret
        replace h := Option.some.inj h; subst h
        exact (Ends.H (xs := [(vb epactlaw06_awake)]) (.inr rfl) H (.tmp (v := (vb epactlaw06_awake)) rfl .nil) (.one (.c (.v _))))
       ·replace h := cond_F hc10 h
        apply Runs.skip
        apply Runs.then
        refine .drawnH 14 rfl (by kernel_rfl) H ?_; intro b24 σ H B24
        refine .loadHA (off := 0) (cs := (vF f)) H 2 rfl rfl rfl rfl rfl rfl rfl (fun _ => .inl ⟨B24 2 _ rfl _ rfl, nofun, (fun _ => by kernel_rfl)⟩) rfl (.loadHA (off := 0) (cs := [(vi x2.1.Period), (vi x2.1.Count), (vl (cL Span.cs) x2.1.Core), w16]) H 1 rfl rfl rfl rfl rfl rfl rfl (fun _ => .inl ⟨B24 1 _ rfl _ rfl, nofun, (fun _ => by kernel_rfl)⟩) rfl ?_)
        obtain ⟨x10, q10, h⟩ := bind_some h
        refine .callX (xs := [(.agg (vF f)), (.agg [(vi x2.1.Period), (vi x2.1.Count), (vl (cL Span.cs) x2.1.Core), w16])]) (ys := [(.agg (vs (Form.cs f))), (.agg (vs (Form.cs (Form.mk x2.1.Period x2.1.Count x2.1.Core y7))))]) H rfl (.cons (.p rfl) (.cons (.a (.cons (.v _) (.cons (.v _) (.cons (.v _) (.cons (.s 0 rfl) .nil))))) .nil)) (canon_Same_fn q10) rfl rfl (fun _ => by kernel_rfl) rfl ?_; intro σ H
        refine .move (v := (vb x10)) rfl rfl ?_
        obtain ⟨y8, hj8, h⟩ := bind_some h
        refine .mid 6 (K1 := fun e σ => EnvHas e [(107, (vb y8))] ∧ Has σ (b24 + 10) (b24 + 14) []) rfl ?_ ?_
        ·refine .split rfl rfl ?_ ?_ <;> intro hc11
         ·replace h := cond_T hc11 hj8
          refine .wanted rfl rfl (.loadHA (off := 0) (cs := (vF f)) H 2 rfl rfl rfl rfl rfl rfl rfl (fun _ => .inl ⟨B24 2 _ rfl _ rfl, nofun, (fun _ => by kernel_rfl)⟩) rfl (.wanted rfl rfl ?_))
          obtain ⟨x11, q11, h⟩ := bind_some h
          refine .call (ys := [(.agg (vF f))]) (r := (.agg (vF x11))) rfl (canon_Form_fn q11) rfl (.wanted rfl rfl (.loadHA (off := 0) (cs := [(vi x2.1.Period), (vi x2.1.Count), (vl (cL Span.cs) x2.1.Core), w16]) H 1 rfl rfl rfl rfl rfl rfl rfl (fun _ => .inl ⟨B24 1 _ rfl _ rfl, nofun, (fun _ => by kernel_rfl)⟩) rfl (.wanted rfl rfl ?_)))
          obtain ⟨x12, q12, h⟩ := bind_some h
          refine .callX (xs := [(.agg [(vi x2.1.Period), (vi x2.1.Count), (vl (cL Span.cs) x2.1.Core), w16])]) (ys := [(.agg (vs (Form.cs (Form.mk x2.1.Period x2.1.Count x2.1.Core y7))))]) H rfl (.cons (.a (.cons (.v _) (.cons (.v _) (.cons (.v _) (.cons (.s 0 rfl) .nil))))) .nil) (canon_Form_fn q12) rfl rfl (fun _ => by kernel_rfl) rfl ?_; intro σ H
          refine .wanted rfl rfl ?_
          obtain ⟨x13, q13, h⟩ := bind_some h
          refine .call (ys := [(.agg (vF x11)), (.agg (vF x12))]) (r := (vb x13)) rfl (epactlow_AlikeForms_fn q13) rfl (.pickT (v := (vb x13)) rfl rfl rfl ?_)
          apply Ops.nil
          replace h := Option.some.inj h; subst h
          exact ⟨⟨rfl, trivial⟩, (((H.erase 2).erase 1).erase 0).weak (by omega) (Nat.le_refl _)⟩
         ·replace h := cond_F hc11 hj8
          refine .pass rfl rfl rfl (.pass rfl rfl rfl (.pass rfl rfl rfl (.pass rfl rfl rfl ?_)))
          refine .pass rfl rfl rfl (.pickF (v := (vb false)) rfl rfl rfl ?_)
          apply Ops.nil
          replace h := Option.some.inj h; subst h
          exact ⟨⟨rfl, trivial⟩, (((H.erase 2).erase 1).erase 0).weak (by omega) (Nat.le_refl _)⟩
        ·rintro e σ ⟨he, H⟩
         obtain ⟨e, rfl⟩ := he.ex
         refine .move (v := (vb y8)) rfl rfl ?_
         refine .mid 2 (K1 := fun e σ => EnvHas e [(110, (vb (y8 && epactlaw06_awake)))] ∧ Has σ (b24 + 13) (b24 + 14) []) rfl ?_ ?_
         ·refine .split rfl rfl ?_ ?_ <;> intro hc12
          ·skip
           refine .wanted rfl rfl (.call (ys := []) (r := (vb epactlaw06_awake)) rfl (epactlaw06_awake_fn rfl) rfl (.pickT (v := (vb epactlaw06_awake)) rfl rfl rfl ?_))
           apply Ops.nil
           exact ⟨⟨and_T hc12, trivial⟩, H.weak (by omega) (Nat.le_refl _)⟩
          ·skip
           refine .pass rfl rfl rfl (.pickF (v := (vb false)) rfl rfl rfl ?_)
           apply Ops.nil
           exact ⟨⟨and_F hc12, trivial⟩, H.weak (by omega) (Nat.le_refl _)⟩
         ·rintro e σ ⟨he, H⟩
          obtain ⟨e, rfl⟩ := he.ex
          refine .assign (v := (vb (y8 && epactlaw06_awake))) rfl rfl ?_
          apply Ops.nil
          replace H := H.all
          apply Runs.ret
          replace h := Option.some.inj h; subst h
          exact (Ends.H (xs := [(vb (y8 && epactlaw06_awake))]) (.inr rfl) H (.tmp (v := (vb (y8 && epactlaw06_awake))) rfl .nil) (.one (.c (.v _))))

end Go.Dn

namespace Go.Dn
open Go

theorem loopO_inv {S R : Type} {step : S → Option (S ⊕ R)} (I : S → Prop) (m : S → Nat) (post : R → Prop)
  (h : ∀ s, I s → (∃ s', step s = some (.inl s') ∧ I s' ∧ m s' < m s) ∨ (∃ r, step s = some (.inr r) ∧ post r)) : ∀ s, I s → ∃ r, loopO step s = some r ∧ post r := by
 have key : ∀ n s, m s = n → I s → ∃ r, loopO step s = some r ∧ post r := by
  intro n
  induction n using Nat.strongRecOn with
  | _ n ih =>
   intro s hm hI
   rcases h s hI with ⟨s', h1, h2, h3⟩ | ⟨r, h1, h2⟩
   ·obtain ⟨r, q1, q2⟩ := ih (m s') (by omega) s' rfl h2
    exact ⟨r, by rw [loopO_eq, h1]; exact q1, q2⟩
   ·exact ⟨r, by rw [loopO_eq, h1], h2⟩
 exact fun s hI => key _ s rfl hI

theorem loopO_val {S R : Type} {step : S → Option (S ⊕ R)} (I : S → R → Prop) (m : S → Nat)
  (h : ∀ s r, I s r → (∃ s', step s = some (.inl s') ∧ I s' r ∧ m s' < m s) ∨ step s = some (.inr r)) {s : S} {r : R} (hI : I s r) : loopO step s = some r := by
 obtain ⟨r', h1, h2⟩ := loopO_inv (I := fun s => I s r) m (fun r' => r' = r) (fun s hs => by
  rcases h s r hs with ⟨s', h1, h2, h3⟩ | h1
  ·exact .inl ⟨s', h1, h2, h3⟩
  ·exact .inr ⟨r, h1, rfl⟩) s hI
 rw [h1, h2]

theorem wrap_i64 (a : Int) : IntKind.i64.wrap a = (a + 9223372036854775808) % 18446744073709551616 - 9223372036854775808 := by
 simp [IntKind.wrap, IntKind.bits, IntKind.signed]
 split <;> omega
theorem wrap_u64 (a : Int) : IntKind.u64.wrap a = a % 18446744073709551616 := by
 simp [IntKind.wrap, IntKind.bits, IntKind.signed]
theorem okI_i8 {x : Int} : okI .i8 x ↔ -128 ≤ x ∧ x ≤ 127 := Iff.rfl
theorem okI_u8 {x : Int} : okI .u8 x ↔ 0 ≤ x ∧ x ≤ 255 := Iff.rfl
theorem w64_id {x : Int} (h : -9223372036854775808 ≤ x ∧ x ≤ 9223372036854775807) : w64 x = x := by
 unfold w64; rw [wrap_i64]; omega
theorem maxLen_eq : maxLen = 9223372036854775807 := rfl
theorem room_eq : room = 140737488355328 := rfl

theorem at?_lt {α : Type} {l : List α} {i : Int} (h0 : 0 ≤ i) (h : i < l.length) : at? l i = some (l[i.toNat]'(by omega)) := by
 unfold at?; rw [if_pos h0, List.getElem?_eq_getElem]
theorem at?_nat {α : Type} {l : List α} {k : Nat} (h : k < l.length) : at? l (k : Int) = some l[k] := by
 rw [at?_lt (by omega) (by omega)]; rfl
theorem app?_ok {α : Type} {b : Nat} {l m : List α} (h : (l.length + m.length) * b ≤ room) : app? b l m = some (l ++ m) := if_pos h
theorem nz?_ok {b : Int} (h : b ≠ 0) : nz? b = some () := if_neg h

theorem beq_t {a b : Int} (h : a = b) : (a == b) = true := by simp [h]
theorem beq_f {a b : Int} (h : a ≠ b) : (a == b) = false := by simp [h]
theorem bne_t {a b : Int} (h : a ≠ b) : (a != b) = true := by simp [h]
theorem bne_f {a b : Int} (h : a = b) : (a != b) = false := by simp [h]
theorem ibeq (a b : Int) : (a == b) = decide (a = b) := by by_cases h : a = b <;> simp [h]
theorem dec_t {p : Prop} [Decidable p] (h : p) : decide p = true := by simp [h]
theorem dec_f {p : Prop} [Decidable p] (h : ¬ p) : decide p = false := by simp [h]

theorem pickB {α : Type} (c : Bool) (a b : α) : (bif c then a else b) = if c = true then a else b := by cases c <;> rfl

theorem first_bad {α : Type} {l : List α} {good : Nat → α → Prop} (h : ¬ ∀ k x, l[k]? = some x → good k x) : ∃ (k : Nat) (x : α), l[k]? = some x ∧ ¬ good k x ∧ ∀ j y, j < k → l[j]? = some y → good j y := by
 have hex : ∃ k : Nat, ∃ x, l[k]? = some x ∧ ¬ good k x := by
  apply Classical.byContradiction
  intro hn
  exact h fun k x hk => Classical.byContradiction fun hg => hn ⟨k, x, hk, hg⟩
 obtain ⟨k, hk⟩ := hex
 induction k using Nat.strongRecOn with
 | _ k ih =>
  by_cases h : ∃ j, j < k ∧ ∃ x, l[j]? = some x ∧ ¬ good j x
  ·obtain ⟨j, hj, hx⟩ := h
   exact ih j hj hx
  ·obtain ⟨x, hx, hb⟩ := hk
   exact ⟨k, x, hx, hb, fun j y hj hy => Classical.byContradiction fun hg => h ⟨j, hj, y, hy, hg⟩⟩

theorem all_loop {α R : Type} {l : List α} {step : Int → Option (Int ⊕ R)} (good : Nat → α → Prop) {no yes : R}
  (hstep : ∀ (k : Nat) (x : α), l[k]? = some x → (∀ j y, j < k → l[j]? = some y → good j y) → (step (k : Int) = some (.inl ((k : Int) + 1)) ∧ good k x) ∨ (step (k : Int) = some (.inr no) ∧ ¬ good k x))
  (hend : step (l.length : Int) = some (.inr yes)) : (loopO step 0 = some yes ∧ ∀ k x, l[k]? = some x → good k x) ∨ (loopO step 0 = some no ∧ ¬ ∀ k x, l[k]? = some x → good k x) := by
 by_cases hall : ∀ k x, l[k]? = some x → good k x
 ·refine .inl ⟨?_, hall⟩
  refine loopO_val (I := fun (s : Int) r => r = yes ∧ ∃ k : Nat, s = k ∧ k ≤ l.length) (fun s => (l.length - s.toNat)) ?_ ⟨rfl, 0, rfl, Nat.zero_le _⟩
  rintro s r ⟨rfl, k, rfl, hk⟩
  by_cases hlt : k < l.length
  ·rcases hstep k l[k] (List.getElem?_eq_getElem hlt) (fun j y _ hy => hall j y hy) with ⟨h1, _⟩ | ⟨_, h2⟩
   ·exact .inl ⟨_, h1, ⟨rfl, k + 1, by push_cast; rfl, hlt⟩, by simp; omega⟩
   ·exact absurd (hall k _ (List.getElem?_eq_getElem hlt)) h2
  ·have : k = l.length := by omega
   subst this
   exact .inr hend
 ·refine .inr ⟨?_, hall⟩
  obtain ⟨k0, x0, hx0, hb0, hgood⟩ := first_bad hall
  have hlt0 := (List.getElem?_eq_some_iff.1 hx0).1
  refine loopO_val (I := fun (s : Int) r => r = no ∧ ∃ k : Nat, s = k ∧ k ≤ k0) (fun s => (l.length - s.toNat)) ?_ ⟨rfl, 0, rfl, Nat.zero_le _⟩
  rintro s r ⟨rfl, k, rfl, hk⟩
  by_cases hlt : k < k0
  ·have hkl : k < l.length := by omega
   rcases hstep k l[k] (List.getElem?_eq_getElem hkl) (fun j y hj hy => hgood j y (by omega) hy) with ⟨h1, _⟩ | ⟨_, h2⟩
   ·exact .inl ⟨_, h1, ⟨rfl, k + 1, by push_cast; rfl, hlt⟩, by simp; omega⟩
   ·exact absurd (hgood k _ hlt (List.getElem?_eq_getElem hkl)) h2
  ·have : k = k0 := by omega
   subst this
   rcases hstep k x0 hx0 hgood with ⟨_, h2⟩ | ⟨h1, _⟩
   ·exact absurd h2 hb0
   ·exact .inr h1

theorem fold_loop {α A R : Type} {l : List α} {step : A × Int → Option ((A × Int) ⊕ R)} (f : A → Nat → α → A) (fin : A → R) (I : Nat → A → Prop) {a0 : A} (h0 : I 0 a0)
  (hgo : ∀ (k : Nat) (x : α) (a : A), l[k]? = some x → I k a → step (a, (k : Int)) = some (.inl (f a k x, (k : Int) + 1)) ∧ I (k + 1) (f a k x))
  (hend : ∀ a, I l.length a → step (a, (l.length : Int)) = some (.inr (fin a))) : ∃ a, loopO step (a0, 0) = some (fin a) ∧ I l.length a := by
 obtain ⟨r, h1, a, rfl, h2⟩ := loopO_inv (step := step) (I := fun s => ∃ (k : Nat) (a : A), s = (a, (k : Int)) ∧ k ≤ l.length ∧ I k a) (fun s => l.length - s.2.toNat) (fun r => ∃ a, r = fin a ∧ I l.length a) (by
  rintro s ⟨k, a, rfl, hk, hI⟩
  by_cases hlt : k < l.length
  ·obtain ⟨q1, q2⟩ := hgo k l[k] a (List.getElem?_eq_getElem hlt) hI
   exact .inl ⟨_, q1, ⟨k + 1, _, by push_cast; rfl, hlt, q2⟩, by simp; omega⟩
  ·have : k = l.length := by omega
   subst this
   exact .inr ⟨_, hend a hI, a, rfl, hI⟩) (a0, 0) ⟨0, a0, rfl, Nat.zero_le _, h0⟩
 exact ⟨a, h1, h2⟩
end Go.Dn

namespace Go.Dn
open Go

def In64 (a : Int) : Prop := -9223372036854775808 ≤ a ∧ a ≤ 9223372036854775807
def InU64 (a : Int) : Prop := 0 ≤ a ∧ a ≤ 18446744073709551615
def fitS (a : Int) : Int × Int := if -9223372036854775808 ≤ a ∧ a ≤ 9223372036854775807 then (a, 0) else (0, 10)
theorem fitS_of {a : Int} (h : In64 a) : fitS a = (a, 0) := if_pos h
theorem fitS_not {a : Int} (h : ¬ In64 a) : fitS a = (0, 10) := if_neg h
theorem fit_or (x : Int) : (In64 x ∧ fitS x = (x, 0)) ∨ (¬ In64 x ∧ fitS x = (0, 10)) := by
 by_cases h : In64 x
 ·exact .inl ⟨h, fitS_of h⟩
 ·exact .inr ⟨h, fitS_not h⟩
theorem and32 (x : Int) (h : InU64 x) : (((BitVec.ofInt 64 x &&& BitVec.ofInt 64 4294967295).toNat : Nat) : Int) = x % 4294967296 := by
 obtain ⟨n, rfl⟩ := Int.eq_ofNat_of_zero_le h.1
 have hn : n < 2 ^ 64 := by have := h.2; omega
 have h1 : (BitVec.ofInt 64 (n : Int)).toNat = n := by simp [BitVec.toNat_ofInt]; omega
 have h2 : (BitVec.ofInt 64 4294967295).toNat = 2 ^ 32 - 1 := by decide
 rw [BitVec.toNat_and, h1, h2, Nat.and_two_pow_sub_one_eq_mod]
 omega

theorem mul64_fact {x y : Int} (hx : InU64 x) (hy : InU64 y) :
  (x / 4294967296 * (y / 4294967296) + (x / 4294967296 * (y % 4294967296) + x % 4294967296 * (y % 4294967296) / 4294967296) / 4294967296 +
   ((x / 4294967296 * (y % 4294967296) + x % 4294967296 * (y % 4294967296) / 4294967296) % 4294967296 + x % 4294967296 * (y / 4294967296)) / 4294967296) = x * y / 18446744073709551616 ∧
  0 ≤ x % 4294967296 * (y % 4294967296) ∧ x % 4294967296 * (y % 4294967296) ≤ 18446744065119617025 ∧
  0 ≤ x / 4294967296 * (y % 4294967296) ∧ x / 4294967296 * (y % 4294967296) ≤ 18446744065119617025 ∧
  0 ≤ x % 4294967296 * (y / 4294967296) ∧ x % 4294967296 * (y / 4294967296) ≤ 18446744065119617025 ∧
  0 ≤ x / 4294967296 * (y / 4294967296) ∧ x / 4294967296 * (y / 4294967296) ≤ 18446744065119617025 := by
 have b : ∀ {u v : Int}, 0 ≤ u → u ≤ 4294967295 → 0 ≤ v → v ≤ 4294967295 → 0 ≤ u * v ∧ u * v ≤ 18446744065119617025 := by
  intro u v h1 h2 h3 h4
  exact ⟨Int.mul_nonneg h1 h3, Int.le_trans (Int.mul_le_mul h2 h4 h3 (by omega)) (by decide)⟩
 obtain ⟨hx1, hx2⟩ := hx
 obtain ⟨hy1, hy2⟩ := hy
 obtain ⟨a1, a2⟩ := b (u := x % 4294967296) (v := y % 4294967296) (by omega) (by omega) (by omega) (by omega)
 obtain ⟨b1, b2⟩ := b (u := x / 4294967296) (v := y % 4294967296) (by omega) (by omega) (by omega) (by omega)
 obtain ⟨c1, c2⟩ := b (u := x % 4294967296) (v := y / 4294967296) (by omega) (by omega) (by omega) (by omega)
 obtain ⟨d1, d2⟩ := b (u := x / 4294967296) (v := y / 4294967296) (by omega) (by omega) (by omega) (by omega)
 refine ⟨?_, a1, a2, b1, b2, c1, c2, d1, d2⟩
 have e : x * y = x / 4294967296 * (y / 4294967296) * 18446744073709551616 + (x / 4294967296 * (y % 4294967296) + x % 4294967296 * (y / 4294967296)) * 4294967296 + x % 4294967296 * (y % 4294967296) := by
  have ex : x = x / 4294967296 * 4294967296 + x % 4294967296 := by omega
  have ey : y = y / 4294967296 * 4294967296 + y % 4294967296 := by omega
  clear a1 a2 b1 b2 c1 c2 d1 d2 b hx1 hx2 hy1 hy2
  generalize x / 4294967296 = x1 at *
  generalize x % 4294967296 = x0 at *
  generalize y / 4294967296 = y1 at *
  generalize y % 4294967296 = y0 at *
  subst ex ey
  simp only [Int.add_mul, Int.mul_add]
  have h1 : x1 * 4294967296 * (y1 * 4294967296) = x1 * y1 * 18446744073709551616 := by
   rw [Int.mul_assoc, Int.mul_comm 4294967296, Int.mul_assoc y1, ← Int.mul_assoc]
   rfl
  have h2 : x1 * 4294967296 * y0 = x1 * y0 * 4294967296 := by rw [Int.mul_assoc, Int.mul_comm 4294967296, ← Int.mul_assoc]
  have h3 : x0 * (y1 * 4294967296) = x0 * y1 * 4294967296 := by rw [← Int.mul_assoc]
  rw [h1, h2, h3]
  omega
 rw [e]
 generalize x / 4294967296 * (y / 4294967296) = d at *
 generalize x / 4294967296 * (y % 4294967296) = b' at *
 generalize x % 4294967296 * (y / 4294967296) = c at *
 generalize x % 4294967296 * (y % 4294967296) = a at *
 omega

theorem safe_Add_eq {a b : Int} (ha : In64 a) (hb : In64 b) : safe_Add a b = fitS (a + b) := by
 unfold In64 at ha hb
 unfold safe_Add fitS w64
 rw [wrap_i64]
 cases h : ((decide ((a + b + 9223372036854775808) % 18446744073709551616 - 9223372036854775808 > a) != decide (b > 0)) && b != 0)
 ·rw [cond_false]
  simp only [Bool.and_eq_false_iff, bne_eq_false_iff_eq, decide_eq_decide] at h
  split <;> simp only [Prod.mk.injEq, and_true] <;> omega
 ·rw [cond_true]
  simp only [Bool.and_eq_true, bne_iff_ne, ne_eq, decide_eq_decide] at h
  split <;> simp only [Prod.mk.injEq] <;> omega

theorem safe_size_eq {a : Int} (h : In64 a) : safe_size a = a.natAbs := by
 unfold In64 at h
 unfold safe_size
 rw [pickB]
 simp only [decide_eq_true_eq, wrap_u64]
 split <;> omega

theorem inU_abs {a : Int} (h : In64 a) : InU64 a.natAbs := by unfold In64 at h; unfold InU64; omega
theorem natAbs_prod (a b : Int) : (a.natAbs : Int) * b.natAbs = (a * b).natAbs := by rw [Int.natAbs_mul]; simp

theorem mul64_eq {x y : Int} (hx : InU64 x) (hy : InU64 y) : math_bits_Mul64 x y = (x * y / 18446744073709551616, x * y % 18446744073709551616) := by
 unfold math_bits_Mul64
 have hb : ∀ z : Int, z.fdiv (2 ^ 32) = z / 4294967296 := fun z => Int.fdiv_eq_ediv_of_nonneg z (by decide)
 have hm : (IntKind.u64.bits) = 64 := rfl
 obtain ⟨h1, h2, h3, h4, h5, h6, h7, h8, h9⟩ := mul64_fact hx hy
 have hw : ∀ z : Int, 0 ≤ z → z ≤ 18446744073709551615 → IntKind.u64.wrap z = z := fun z q1 q2 => by rw [wrap_u64]; omega
 simp only [hb, iAnd]
 rw [hm, and32 x hx, and32 y hy]
 have x0 : 0 ≤ x % 4294967296 ∧ x % 4294967296 < 4294967296 := by omega
 have y0 : 0 ≤ y % 4294967296 ∧ y % 4294967296 < 4294967296 := by omega
 rw [hw (x % 4294967296) (by omega) (by omega), hw (y % 4294967296) (by omega) (by omega), hw _ h2 (by omega), hw _ h4 (by omega), hw _ h6 (by omega), hw _ h8 (by omega)]
 rw [hw (x / 4294967296 * (y % 4294967296) + x % 4294967296 * (y % 4294967296) / 4294967296) (by omega) (by omega)]
 rw [and32 _ ⟨by omega, by omega⟩]
 have t0 : 0 ≤ (x / 4294967296 * (y % 4294967296) + x % 4294967296 * (y % 4294967296) / 4294967296) % 4294967296 ∧ (x / 4294967296 * (y % 4294967296) + x % 4294967296 * (y % 4294967296) / 4294967296) % 4294967296 < 4294967296 := by omega
 rw [hw ((x / 4294967296 * (y % 4294967296) + x % 4294967296 * (y % 4294967296) / 4294967296) % 4294967296) (by omega) (by omega)]
 rw [hw ((x / 4294967296 * (y % 4294967296) + x % 4294967296 * (y % 4294967296) / 4294967296) % 4294967296 + x % 4294967296 * (y / 4294967296)) (by omega) (by omega)]
 rw [hw (x / 4294967296 * (y / 4294967296) + (x / 4294967296 * (y % 4294967296) + x % 4294967296 * (y % 4294967296) / 4294967296) / 4294967296) (by omega) (by omega)]
 rw [hw _ (by omega) (by omega), h1, wrap_u64]

theorem safe_signed_eq {n : Int} (m : Bool) (h : InU64 n) : safe_signed n m = fitS (if m then -n else n) := by
 unfold InU64 at h
 unfold safe_signed fitS w64
 rw [pickB, pickB, wrap_u64, wrap_i64, wrap_i64]
 cases m <;> simp only [Bool.true_and, Bool.false_and, Bool.not_true, Bool.not_false, decide_eq_true_eq, Bool.false_eq_true, if_false, if_true]
 ·split
  ·rw [if_pos (by omega)]; simp only [Prod.mk.injEq, and_true]; omega
  ·rw [if_neg (by omega)]
 ·split
  ·rw [if_pos (by omega)]; simp only [Prod.mk.injEq, and_true]; omega
  ·rw [if_neg (by omega)]

theorem safe_Mul_eq {a b : Int} (ha : In64 a) (hb : In64 b) : safe_Mul a b = fitS (a * b) := by
 unfold safe_Mul
 rw [safe_size_eq ha, safe_size_eq hb, mul64_eq (inU_abs ha) (inU_abs hb), pickB]
 simp only [natAbs_prod]
 rw [safe_signed_eq _ (by unfold InU64; omega)]
 by_cases h : ((a * b).natAbs : Int) / 18446744073709551616 = 0
 ·rw [if_neg (by simp [h])]
  have e : ((a * b).natAbs : Int) % 18446744073709551616 = (a * b).natAbs := by omega
  rw [e]
  show fitS _ = _
  refine congrArg fitS ?_
  by_cases h1 : a < 0 <;> by_cases h2 : b < 0 <;> simp only [h1, h2, decide_true, decide_false]
  ·have := Int.mul_nonneg_of_nonpos_of_nonpos (Int.le_of_lt h1) (Int.le_of_lt h2)
   simp; omega
  ·have := Int.mul_nonpos_of_nonpos_of_nonneg (Int.le_of_lt h1) (Int.not_lt.1 h2)
   simp; omega
  ·have := Int.mul_nonpos_of_nonneg_of_nonpos (Int.not_lt.1 h1) (Int.le_of_lt h2)
   simp; omega
  ·have := Int.mul_nonneg (Int.not_lt.1 h1) (Int.not_lt.1 h2)
   simp; omega
 ·rw [if_pos (by simp [h])]
  unfold fitS
  rw [if_neg]
  omega

def floorS (a b : Int) : Int × Int × Int := if b = 0 then (0, 0, 11) else if b = -1 ∧ a = -9223372036854775808 then (0, 0, 10) else (a.fdiv b, a.fmod b, 0)
theorem floor_up {a b : Int} (hb : b ≠ 0) (h1 : a.tmod b ≠ 0) (h2 : ¬(a.tmod b < 0 ↔ b < 0)) : a.fdiv b = a.tdiv b - 1 ∧ a.fmod b = a.tmod b + b := by
 have q1 := Int.emod_nonneg a hb
 have q2 := Int.emod_lt a hb
 have hd : b ∣ a ↔ a % b = 0 := Int.dvd_iff_emod_eq_zero
 rw [Int.fdiv_eq_ediv, Int.fmod_eq_emod, Int.tdiv_eq_ediv]
 rw [Int.tmod_eq_emod] at h1 h2 ⊢
 simp only [hd] at h1 h2 ⊢
 rcases Int.lt_or_gt_of_ne hb with h | h
 ·rw [Int.sign_eq_neg_one_of_neg h]
  split at h1 <;> split <;> simp_all <;> omega
 ·rw [Int.sign_eq_one_of_pos h]
  split at h1 <;> split <;> simp_all <;> omega

theorem floor_same {a b : Int} (hb : b ≠ 0) (h : a.tmod b = 0 ∨ (a.tmod b < 0 ↔ b < 0)) : a.fdiv b = a.tdiv b ∧ a.fmod b = a.tmod b := by
 have q1 := Int.emod_nonneg a hb
 have q2 := Int.emod_lt a hb
 have hd : b ∣ a ↔ a % b = 0 := Int.dvd_iff_emod_eq_zero
 rw [Int.fdiv_eq_ediv, Int.fmod_eq_emod, Int.tdiv_eq_ediv]
 rw [Int.tmod_eq_emod] at h ⊢
 simp only [hd] at h ⊢
 rcases Int.lt_or_gt_of_ne hb with hh | hh
 ·rw [Int.sign_eq_neg_one_of_neg hh]
  split at h <;> split <;> simp_all <;> omega
 ·rw [Int.sign_eq_one_of_pos hh]
  split at h <;> split <;> simp_all <;> omega

theorem tdiv_in {a b : Int} (ha : In64 a) (hb : b ≠ 0) (hn : ¬(b = -1 ∧ a = -9223372036854775808)) : In64 (a.tdiv b) := by
 have h : (a.tdiv b).natAbs = a.natAbs / b.natAbs := Int.natAbs_tdiv a b
 obtain ⟨h1, h2⟩ := ha
 by_cases hb1 : b = 1
 ·subst hb1; rw [Int.tdiv_one]; exact ⟨h1, h2⟩
 ·by_cases hb2 : b = -1
  ·have ha' : a ≠ -9223372036854775808 := fun e => hn ⟨hb2, e⟩
   have : a.natAbs / b.natAbs ≤ a.natAbs := Nat.div_le_self _ _
   unfold In64; omega
  ·have h3 : a.natAbs / b.natAbs ≤ a.natAbs / 2 := Nat.div_le_div_left (by omega) (by omega)
   unfold In64; omega

theorem tdiv_in1 {a b : Int} (ha : In64 a) (hb : b ≠ 0) (h1 : a.tmod b ≠ 0) : In64 (a.tdiv b - 1) := by
 have h : (a.tdiv b).natAbs = a.natAbs / b.natAbs := Int.natAbs_tdiv a b
 obtain ⟨h2, h3⟩ := ha
 by_cases hb1 : b = 1
 ·subst hb1; simp at h1
 ·by_cases hb2 : b = -1
  ·subst hb2; simp at h1
  ·have h3 : a.natAbs / b.natAbs ≤ a.natAbs / 2 := Nat.div_le_div_left (by omega) (by omega)
   unfold In64; omega

theorem wrap_in {a : Int} (h : In64 a) : IntKind.i64.wrap a = a := by rw [wrap_i64]; unfold In64 at h; omega

theorem fmod_in {a b : Int} (hb : In64 b) (hb0 : b ≠ 0) : In64 (a.fmod b) := by
 have q1 := Int.emod_nonneg a hb0
 have q2 := Int.emod_lt a hb0
 rw [Int.fmod_eq_emod]
 unfold In64 at *
 split <;> omega

theorem floor_leaf1 {a b : Int} (ha : In64 a) (hb : In64 b) (h0 : b ≠ 0) (hn : ¬(b = -1 ∧ a = -9223372036854775808)) (h1 : a.tmod b ≠ 0) (h2 : ¬(a.tmod b < 0 ↔ b < 0)) :
  (IntKind.i64.wrap (IntKind.i64.wrap (a.tdiv b) - 1), IntKind.i64.wrap (a.tmod b + b), (0 : Int)) = floorS a b := by
 obtain ⟨e1, e2⟩ := floor_up h0 h1 h2
 rw [floorS, if_neg h0, if_neg hn, e1, e2, wrap_in (tdiv_in ha h0 hn), wrap_in (tdiv_in1 ha h0 h1), wrap_in (by rw [← e2]; exact fmod_in hb h0)]

theorem floor_leaf2 {a b : Int} (ha : In64 a) (hb : In64 b) (h0 : b ≠ 0) (hn : ¬(b = -1 ∧ a = -9223372036854775808)) (h : a.tmod b = 0 ∨ (a.tmod b < 0 ↔ b < 0)) :
  (IntKind.i64.wrap (a.tdiv b), a.tmod b, (0 : Int)) = floorS a b := by
 obtain ⟨e1, e2⟩ := floor_same h0 h
 rw [floorS, if_neg h0, if_neg hn, e1, e2, wrap_in (tdiv_in ha h0 hn)]


theorem safe_Floor_eq {a b : Int} (ha : In64 a) (hb : In64 b) : safe_Floor a b = some (floorS a b) := by
 unfold safe_Floor
 by_cases h0 : b = 0
 ·subst h0; rfl
 rw [beq_f h0, cond_false]
 by_cases hn : b = -1 ∧ a = -9223372036854775808
 ·obtain ⟨rfl, rfl⟩ := hn
  rfl
 have : (b == -1 && a == -9223372036854775808) = false := by
  simp only [Bool.and_eq_false_iff, beq_eq_false_iff_ne]
  by_cases h : b = -1
  ·exact .inr fun e => hn ⟨h, e⟩
  ·exact .inl h
 rw [this, cond_false, nz?_ok h0]
 simp only [Option.bind_some, pickB, Bool.and_eq_true, bne_iff_ne, ne_eq, decide_eq_decide]
 split
 ·rename_i h
  simp only [Option.bind_some]
  exact congrArg some (floor_leaf1 ha hb h0 hn h.1 h.2)
 ·rename_i h
  simp only [Option.bind_some]
  refine congrArg some (floor_leaf2 ha hb h0 hn ?_)
  by_cases h1 : a.tmod b = 0
  ·exact .inl h1
  ·exact .inr (Classical.byContradiction fun h2 => h ⟨h1, h2⟩)

theorem fdiv_nonneg_eq {a b : Int} (hb : 0 < b) : a.fdiv b = a / b ∧ a.fmod b = a % b := ⟨Int.fdiv_eq_ediv_of_nonneg a (Int.le_of_lt hb), Int.fmod_eq_emod_of_nonneg a (Int.le_of_lt hb)⟩
theorem floorS_pos {a b : Int} (hb : 0 < b) : floorS a b = (a / b, a % b, 0) := by
 unfold floorS
 rw [if_neg (by omega), if_neg (by omega), (fdiv_nonneg_eq hb).1, (fdiv_nonneg_eq hb).2]

end Go.Dn

namespace Go.Dn
open Go

theorem reach_eq : reachBytes = 140737488351232 := rfl

def tickP (t : Int) : Prop := -1099511627776 ≤ t ∧ t ≤ 1099511627776
instance (t : Int) : Decidable (tickP t) := by unfold tickP; infer_instance
theorem spans_tick_eq (t : Int) : spans_tick t = decide (tickP t) := by
 rw [Bool.eq_iff_iff, decide_eq_true_iff]; simp [spans_tick, tickP]
theorem inRange_eq (t : Int) : gran_inRange t = decide (tickP t) := by
 rw [Bool.eq_iff_iff, decide_eq_true_iff]; simp [gran_inRange, tickP]
theorem tick64 {t : Int} (h : tickP t) : In64 t := by unfold tickP at h; unfold In64; omega

structure RightL (l : List Span) : Prop where
 ok : ∀ (k : Nat) (s : Span), l[k]? = some s → tickP s.From ∧ tickP s.To ∧ s.From ≤ s.To
 gap : ∀ (k : Nat) (s t : Span), l[k]? = some s → l[k + 1]? = some t → s.To + 2 ≤ t.From

abbrev Len (l : List Span) : Prop := l.length * 16 ≤ reachBytes
abbrev Sp64 (l : List Span) : Prop := ∀ s ∈ l, In64 s.From ∧ In64 s.To

theorem Span.ok64 {s : Span} (h : s.ok) : In64 s.From ∧ In64 s.To := h
theorem okSpans {l : List Span} (h : okL 16 Span.ok l) : Len l ∧ Sp64 l := ⟨h.1, fun s hs => Span.ok64 (h.2 s hs)⟩
theorem RightL.sp64 {l : List Span} (h : RightL l) : Sp64 l := fun s hs => by
 obtain ⟨k, hk⟩ := List.getElem?_of_mem hs
 have := h.ok k s hk
 exact ⟨tick64 this.1, tick64 this.2.1⟩

def goodSpan (l : List Span) (k : Nat) (s : Span) : Prop := tickP s.From ∧ tickP s.To ∧ s.From ≤ s.To ∧ ∀ p, k ≠ 0 → l[k - 1]? = some p → p.To + 2 ≤ s.From

theorem rightL_iff {l : List Span} : RightL l ↔ ∀ k s, l[k]? = some s → goodSpan l k s := by
 constructor
 ·intro h k s hk
  obtain ⟨h1, h2, h3⟩ := h.ok k s hk
  refine ⟨h1, h2, h3, fun p h0 hp => ?_⟩
  have : k - 1 + 1 = k := by omega
  exact h.gap (k - 1) p s hp (by rw [this]; exact hk)
 ·intro h
  refine ⟨fun k s hk => ⟨(h k s hk).1, (h k s hk).2.1, (h k s hk).2.2.1⟩, fun k s t hs ht => (h (k + 1) t ht).2.2.2 s (by omega) (by simpa using hs)⟩

theorem spans_Right_eq {l : List Span} (hl : Len l) (h64 : Sp64 l) : ∃ b, spans_Right l = some b ∧ (b = true ↔ RightL l) := by
 have hlen : l.length ≤ maxLen := by rw [maxLen_eq]; have := reach_eq; unfold Len at hl; omega
 have step : ∀ (k : Nat) (s : Span), l[k]? = some s → (∀ j y, j < k → l[j]? = some y → goodSpan l j y) → ∃ b, spans_Right.s0 l (k : Int) = (if b = true then some (.inl ((k : Int) + 1)) else some (.inr (.ret false))) ∧ (b = true ↔ goodSpan l k s) := by
  intro k s hk hprev
  have hlt := (List.getElem?_eq_some_iff.1 hk).1
  have hat : at? l (k : Int) = some s := by rw [at?_nat hlt]; rw [List.getElem?_eq_getElem hlt] at hk; exact hk
  unfold spans_Right.s0
  rw [dec_t (show (k : Int) < l.length by omega), cond_true, hat]
  simp only [Option.bind_some, spans_tick_eq]
  have hk1 : w64 ((k : Int) + 1) = k + 1 := w64_id (by rw [maxLen_eq] at hlen; omega)
  by_cases h1 : tickP s.From ∧ tickP s.To ∧ s.From ≤ s.To
  ·have : (!decide (tickP s.From) || !decide (tickP s.To) || decide (s.From > s.To)) = false := by
    rw [dec_t h1.1, dec_t h1.2.1, dec_f (by omega)]; rfl
   rw [this, cond_false]
   by_cases h0 : k = 0
   ·subst h0
    refine ⟨true, by simp [w64]; rw [wrap_i64]; rfl, by simp [goodSpan, h1]⟩
   ·have hk0 : (k : Int) > 0 := by omega
    have hpl : k - 1 < l.length := by omega
    have hp : at? l (w64 ((k : Int) - 1)) = some l[k - 1] := by
     rw [w64_id (by rw [maxLen_eq] at hlen; omega), show ((k : Int) - 1) = ((k - 1 : Nat) : Int) by omega, at?_nat hpl]
    have hpg := hprev (k - 1) _ (by omega) (List.getElem?_eq_getElem hpl)
    have hpt : w64 (l[k - 1].To + 2) = l[k - 1].To + 2 := by
     have := hpg.2.1; unfold tickP at this; exact w64_id (by omega)
    rw [dec_t hk0, cond_true, hp]
    simp only [Option.bind_some, hpt]
    refine ⟨!decide (s.From < l[k - 1].To + 2), ?_, ?_⟩
    ·cases hd : decide (s.From < l[k - 1].To + 2) <;> simp [hk1]
    ·simp only [Bool.not_eq_true', decide_eq_false_iff_not, goodSpan]
     constructor
     ·intro h; refine ⟨h1.1, h1.2.1, h1.2.2, fun p _ hp' => ?_⟩
      rw [List.getElem?_eq_getElem hpl] at hp'; cases hp'; omega
     ·intro h; have := h.2.2.2 _ h0 (List.getElem?_eq_getElem hpl); omega
  ·refine ⟨false, ?_, by simp only [Bool.false_eq_true, goodSpan, false_iff]; intro h; exact h1 ⟨h.1, h.2.1, h.2.2.1⟩⟩
   have : (!decide (tickP s.From) || !decide (tickP s.To) || decide (s.From > s.To)) = true := by
    by_cases a1 : tickP s.From
    ·by_cases a2 : tickP s.To
     ·have a3 : s.From > s.To := by
       apply Classical.byContradiction
       intro h
       exact h1 ⟨a1, a2, by omega⟩
      rw [dec_t a3]; simp
     ·rw [dec_f a2]; simp
    ·rw [dec_f a1]; simp
   rw [this]; rfl
 unfold spans_Right
 rcases all_loop (l := l) (step := spans_Right.s0 l) (goodSpan l) (no := .ret false) (yes := .go ()) (fun k x hk hp => by
   obtain ⟨b, h1, h2⟩ := step k x hk hp
   cases b
   ·exact .inr ⟨h1, fun h => by have := h2.2 h; cases this⟩
   ·exact .inl ⟨h1, h2.1 rfl⟩) (by
   unfold spans_Right.s0; rw [dec_f (by omega)]; rfl) with ⟨h1, h2⟩ | ⟨h1, h2⟩
 ·rw [h1]; exact ⟨true, rfl, by simp [rightL_iff.2 h2]⟩
 ·rw [h1]; exact ⟨false, rfl, by simp only [Bool.false_eq_true, false_iff]; exact fun h => h2 (rightL_iff.1 h)⟩


def shiftS (by_ : Int) (s : Span) : Span := ⟨s.From + by_, s.To + by_⟩

theorem spans_Move_eq {l : List Span} {b : Int} (hl : Len l) (h64 : Sp64 l) (hb : In64 b) :
  ((∀ s ∈ l, tickP (s.From + b) ∧ tickP (s.To + b)) ∧ spans_Move l b = some (l.map (shiftS b), 0)) ∨ ((¬ ∀ s ∈ l, tickP (s.From + b) ∧ tickP (s.To + b)) ∧ spans_Move l b = some ([], 20)) := by
 have hlen : (l.length : Int) < 9223372036854775807 := by have := reach_eq; unfold Len at hl; omega
 have step : ∀ (k : Nat) (s : Span) (acc : List Span), l[k]? = some s → acc.length = k → spans_Move.s0 l b ((k : Int), acc) = if tickP (s.From + b) ∧ tickP (s.To + b) then some (.inl ((k : Int) + 1, acc ++ [shiftS b s])) else some (.inr (.ret ([], 20))) := by
  intro k s acc hk hacc
  have hlt := (List.getElem?_eq_some_iff.1 hk).1
  have hat : at? l (k : Int) = some s := by rw [at?_nat hlt]; rw [List.getElem?_eq_getElem hlt] at hk; exact hk
  obtain ⟨f64, t64⟩ := h64 s (List.mem_of_getElem? hk)
  unfold spans_Move.s0
  rw [dec_t (show (k : Int) < l.length by omega), cond_true, hat]
  simp only [Option.bind_some]
  rw [safe_Add_eq f64 hb, safe_Add_eq t64 hb, spans_tick_eq, spans_tick_eq]
  have hk1 : w64 ((k : Int) + 1) = k + 1 := w64_id (by omega)
  have happ : ∀ x : Span, app? 16 acc [x] = some (acc ++ [x]) := fun x => app?_ok (by
   have := reach_eq; have := room_eq; unfold Len at hl; simp; omega)
  rcases fit_or (s.From + b) with ⟨q1, q2⟩ | ⟨q1, q2⟩ <;> rcases fit_or (s.To + b) with ⟨q3, q4⟩ | ⟨q3, q4⟩ <;> rw [q2, q4]
  ·by_cases h : tickP (s.From + b) ∧ tickP (s.To + b)
   ·rw [if_pos h, dec_t h.1, dec_t h.2]
    simp [happ, hk1, shiftS]
   ·rw [if_neg h]
    have : (!decide (tickP (s.From + b)) || !decide (tickP (s.To + b))) = true := by
     by_cases h1 : tickP (s.From + b)
     ·rw [dec_f (fun h2 => h ⟨h1, h2⟩)]; simp
     ·rw [dec_f h1]; simp
    simp only [bne_self_eq_false, Bool.false_or, Bool.or_assoc] at this ⊢
    rw [this]; rfl
  ·rw [if_neg (fun h => q3 (tick64 h.2))]; rfl
  ·rw [if_neg (fun h => q1 (tick64 h.1))]; rfl
  ·rw [if_neg (fun h => q1 (tick64 h.1))]; rfl
 have hend : ∀ acc, spans_Move.s0 l b ((l.length : Int), acc) = some (.inr (.go acc)) := fun acc => by unfold spans_Move.s0; rw [dec_f (by omega)]; rfl
 unfold spans_Move
 by_cases hall : ∀ s ∈ l, tickP (s.From + b) ∧ tickP (s.To + b)
 ·refine .inl ⟨hall, ?_⟩
  have : loopO (spans_Move.s0 l b) (0, []) = some (.go (l.map (shiftS b))) := by
   refine loopO_val (I := fun (s : Int × List Span) r => r = .go (l.map (shiftS b)) ∧ ∃ k : Nat, k ≤ l.length ∧ s = ((k : Int), (l.take k).map (shiftS b))) (fun s => l.length - s.1.toNat) ?_ ⟨rfl, 0, Nat.zero_le _, by simp⟩
   rintro s r ⟨rfl, k, hk, rfl⟩
   by_cases hlt : k < l.length
   ·refine .inl ⟨_, by rw [step k l[k] _ (List.getElem?_eq_getElem hlt) (by simp; omega), if_pos (hall _ (List.getElem_mem hlt))], ⟨rfl, k + 1, hlt, ?_⟩, by simp; omega⟩
    rw [List.take_succ_eq_append_getElem hlt, List.map_append]; push_cast; rfl
   ·have : k = l.length := by omega
    subst this
    rw [List.take_length]
    exact .inr (hend _)
  rw [this]; rfl
 ·refine .inr ⟨hall, ?_⟩
  obtain ⟨k0, s0, hk0, hb0, hg⟩ := first_bad (l := l) (good := fun _ s => tickP (s.From + b) ∧ tickP (s.To + b)) (fun h => hall fun s hs => by
   obtain ⟨k, hk⟩ := List.getElem?_of_mem hs; exact h k s hk)
  have hlt0 := (List.getElem?_eq_some_iff.1 hk0).1
  have : loopO (spans_Move.s0 l b) (0, []) = some (.ret ([], 20)) := by
   refine loopO_val (I := fun (s : Int × List Span) r => r = .ret ([], 20) ∧ ∃ k : Nat, k ≤ k0 ∧ s.1 = (k : Int) ∧ s.2.length = k) (fun s => l.length - s.1.toNat) ?_ ⟨rfl, 0, Nat.zero_le _, rfl, rfl⟩
   rintro ⟨i, acc⟩ r ⟨rfl, k, hk, h1, h2⟩
   simp only at h1 h2
   subst h1
   by_cases hlt : k < k0
   ·have hkl : k < l.length := by omega
    exact .inl ⟨_, by rw [step k l[k] _ (List.getElem?_eq_getElem hkl) h2, if_pos (hg k _ hlt (List.getElem?_eq_getElem hkl))], ⟨rfl, k + 1, hlt, by push_cast; rfl, by simp; omega⟩, by simp; omega⟩
   ·have : k = k0 := by omega
    subst this
    exact .inr (by rw [step k s0 _ hk0 h2, if_neg hb0])
  rw [this]; rfl

theorem RightL.shift {l : List Span} {b : Int} (h : RightL l) (ht : ∀ s ∈ l, tickP (s.From + b) ∧ tickP (s.To + b)) : RightL (l.map (shiftS b)) := by
 constructor
 ·intro k s hk
  rw [List.getElem?_map, Option.map_eq_some_iff] at hk
  obtain ⟨s, hk, rfl⟩ := hk
  have h1 := h.ok k s hk
  have h2 := ht s (List.mem_of_getElem? hk)
  exact ⟨h2.1, h2.2, by simp only [shiftS]; omega⟩
 ·intro k s t hk hk1
  rw [List.getElem?_map, Option.map_eq_some_iff] at hk hk1
  obtain ⟨s, hk, rfl⟩ := hk
  obtain ⟨t, hk1, rfl⟩ := hk1
  have := h.gap k s t hk hk1
  simp only [shiftS]; omega

def AheadL (a b : List Span) : Prop := ∀ x, a.getLast? = some x → ∀ y, b.head? = some y → x.To < y.From

theorem spans_Ahead_eq {a b : List Span} (ha : Len a) : ∃ r, spans_Ahead a b = some r ∧ (r = true ↔ AheadL a b) := by
 unfold spans_Ahead
 cases a with
 | nil => exact ⟨true, by simp, by simp [AheadL]⟩
 | cons x a =>
  cases b with
  | nil => exact ⟨true, by simp, by simp [AheadL]⟩
  | cons y b =>
   have hl : ((x :: a).length : Int) < 9223372036854775807 := by have := reach_eq; unfold Len at ha; omega
   have e1 : (((x :: a).length : Int) == 0 || ((y :: b).length : Int) == 0) = false := by simp; omega
   have hlt : (x :: a).length - 1 < (x :: a).length := by simp
   have e2 : at? (x :: a) (w64 (((x :: a).length : Int) - 1)) = some (x :: a)[(x :: a).length - 1] := by
    rw [w64_id (by simp at hl ⊢; omega), show (((x :: a).length : Int) - 1) = (((x :: a).length - 1 : Nat) : Int) by simp, at?_nat hlt]
   have e3 : at? (y :: b) 0 = some y := rfl
   rw [e1, cond_false, e2, e3]
   refine ⟨decide ((x :: a)[(x :: a).length - 1].To < y.From), rfl, ?_⟩
   have hlast : (x :: a).getLast? = some (x :: a)[(x :: a).length - 1] := by rw [List.getLast?_eq_getElem?, List.getElem?_eq_getElem hlt]
   simp only [decide_eq_true_eq, AheadL, hlast, List.head?_cons, Option.some.injEq]
   exact ⟨fun h x' hx y' hy => by rw [← hx, ← hy]; exact h, fun h => h _ rfl _ rfl⟩

theorem span_beq (x y : Span) : ((x.From == y.From) && ((x.To == y.To) && true)) = decide (x = y) := by
 obtain ⟨x1, x2⟩ := x
 obtain ⟨y1, y2⟩ := y
 by_cases h1 : x1 = y1 <;> by_cases h2 : x2 = y2 <;> simp [h1, h2]

theorem spans_Same_eq {a b : List Span} (ha : Len a) : ∃ r, spans_Same a b = some r ∧ (r = true ↔ a = b) := by
 have hl : (a.length : Int) < 9223372036854775807 := by have := reach_eq; unfold Len at ha; omega
 unfold spans_Same slices_Equal_SSpan_Span
 by_cases hlen : a.length = b.length
 ·have e1 : ((a.length : Int) != (b.length : Int)) = false := bne_f (by omega)
  rw [e1, cond_false]
  rcases all_loop (l := a) (step := slices_Equal_SSpan_Span.s0 a b) (fun k x => b[k]? = some x) (no := .ret false) (yes := .go ()) (fun k x hk hp => by
   have hlt := (List.getElem?_eq_some_iff.1 hk).1
   have hat : at? a (k : Int) = some x := by rw [at?_nat hlt]; rw [List.getElem?_eq_getElem hlt] at hk; exact hk
   have hbt : at? b (k : Int) = some (b[k]'(by omega)) := at?_nat (by omega)
   unfold slices_Equal_SSpan_Span.s0
   rw [dec_t (show (k : Int) < a.length by omega), cond_true, hat, hbt, w64_id (show _ by omega)]
   simp only [Option.bind_some, span_beq]
   rw [List.getElem?_eq_getElem (show k < b.length by omega)]
   by_cases h : x = b[k]'(by omega)
   ·rw [dec_t h]; exact .inl ⟨rfl, congrArg some h.symm⟩
   ·rw [dec_f h]; exact .inr ⟨rfl, fun e => h (Option.some.inj e).symm⟩) (by
   unfold slices_Equal_SSpan_Span.s0; rw [dec_f (by omega)]; rfl) with ⟨h1, h2⟩ | ⟨h1, h2⟩
  ·rw [h1]
   refine ⟨true, rfl, ⟨fun _ => List.ext_getElem? fun k => ?_, fun _ => rfl⟩⟩
   by_cases hk : k < a.length
   ·rw [List.getElem?_eq_getElem hk]; exact (h2 k _ (List.getElem?_eq_getElem hk)).symm
   ·rw [List.getElem?_eq_none (by omega), List.getElem?_eq_none (by omega)]
  ·rw [h1]
   refine ⟨false, rfl, by simp only [Bool.false_eq_true, false_iff]; rintro rfl; exact h2 fun k x hk => hk⟩
 ·have e1 : ((a.length : Int) != (b.length : Int)) = true := bne_t (by omega)
  rw [e1, cond_true]
  exact ⟨false, rfl, by simp only [Bool.false_eq_true, false_iff]; rintro rfl; exact hlen rfl⟩

end Go.Dn
