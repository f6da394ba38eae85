/- Part 3 of what the row stands on. -/
import Derived.Test.YtliohipholncpaaM2
set_option linter.unusedVariables false
set_option linter.unusedSimpArgs false
namespace Go.Dn
open Go Go.Proofs
set_option maxRecDepth 100000
set_option maxHeartbeats 4000000

theorem spans_Move_fn {l : (List Span)} {by' : Int} {r : (List Span) × Int} (h : spans_Move l by' = some r) : Fn CX 57 [(vl Span.cs l), (vi by')] (.tup [(vl Span.cs r.1), (vi r.2)]) := by
 refine Fn.ends Try.func57 rfl rfl rfl rfl rfl rfl ?_
 have H : Hs (⟨0, fun _ => .none⟩ : Heap) [] := Has.nil (Nat.le_refl _)
 generalize (⟨0, fun _ => .none⟩ : Heap) = σ at H ⊢
 unfold spans_Move at h
 apply Runs.then
 refine .regionH 2 rfl H ?_; intro b1 σ H
 refine .assign (v := .nils) rfl rfl (.assign (v := (vi 0)) rfl rfl ?_)
 apply Ops.nil
 replace H := H.all
 apply Runs.then
 refine .regionH 1 rfl H ?_; intro b2 σ H
 refine .assign (v := .nils) rfl rfl ?_
 apply Ops.nil
 replace H := H.all
 apply Runs.then
 apply Runs.then
 refine .regionH 3 rfl H ?_; intro b3 σ H
 refine .move (v := (vl Span.cs l)) rfl rfl (.lenPt (c := Span.cs) (xs := l) rfl rfl rfl (.move (v := (vi 0)) rfl rfl ?_))
 apply Ops.nil
 replace H := H.all
 apply Runs.inBlock
 replace H := H.pushNil 43 2 true
 obtain ⟨y1, hj1, h⟩ := bind_some h
 obtain ⟨n1, hj1⟩ := loopO_iff.1 hj1
 refine .mono (Runs.loopO hj1 (fun s2 e σ => ∃ (w3 : PV), EnvHas e [(1, (vi by')), (6, w3), (13, (vl Span.cs l)), (14, (vi (l.length : Int))), (15, (vi s2.1))] ∧ Hs σ [.sl w3 43 2 (s2.2.map Span.cs) true]) (fun y1 x e σ => (∃ a1, ∃ (w4 : PV), y1 = (.go a1) ∧ x = .exit 0 ∧ EnvHas e [(6, w4)] ∧ Hs σ [.sl w4 43 2 (a1.map Span.cs) true]) ∨ (∃ r', y1 = (.ret r') ∧ x = .ret ∧ Ends CX Try.f57.results.toList (.tup [(vl Span.cs r'.1), (vi r'.2)]) x e σ)) ⟨.nils, ⟨rfl, rfl, rfl, rfl, rfl, trivial⟩, H⟩ ?_) ?_
 ·intro s2 e σ hI z h
  obtain ⟨w3, he, H⟩ := hI
  obtain ⟨e, rfl⟩ := he.ex
  unfold spans_Move.s0 at h
  apply Runs.then
  refine .regionH 1 rfl H ?_; intro b4 σ H
  refine .int (m := s2.1) (m' := (l.length : Int)) (r := .bool (decide (s2.1 < (l.length : Int)))) rfl rfl rfl rfl rfl ?_
  apply Ops.nil
  replace H := H.all
  apply Runs.then
  refine .whether (v := (decide (s2.1 < (l.length : Int)))) rfl ?_ ?_ <;> intro hc1
  ·replace h := cond_T hc1 h
   apply Runs.skip
   apply Runs.then
   apply Runs.inBlock
   apply Runs.then
   refine .regionH 4 rfl H ?_; intro b5 σ H
   obtain ⟨x1, q1, h⟩ := bind_some h
   refine .indexP (c := Span.cs) (u := x1) rfl rfl q1 rfl rfl rfl rfl (.loadPA (cs := [(.int .i64 x1.From), (.int .i64 x1.To)]) rfl rfl rfl rfl rfl rfl (.allocH (cs := [(vi 0), (vi 0)]) H (by omega) (by omega) rfl rfl ?_)); intro σ H
   refine .storeH (off := 0) (cells' := [(vi x1.From), (vi x1.To)]) H 0 rfl rfl rfl rfl rfl rfl rfl rfl rfl nofun ?_; intro σ H
   apply Ops.nil
   replace H := H.all
   apply Runs.then
   refine .regionH 9 rfl H ?_; intro b6 σ H
   refine .fieldAddrH (off := 0) (fo := 0) H 0 rfl rfl rfl rfl rfl nofun rfl (.loadH (off := 0) (v := (vi x1.From)) H 0 rfl rfl rfl rfl rfl nofun rfl (.move (v := (vi by')) rfl rfl (.call (ys := [(vi x1.From), (vi by')]) (r := (.tup [(vi (safe_Add x1.From by').1), (vi (safe_Add x1.From by').2)])) rfl (safe_Add_fn rfl) rfl ?_)))
   refine .move (v := (.tup [(vi (safe_Add x1.From by').1), (vi (safe_Add x1.From by').2)])) rfl rfl (.extract (v := (vi (safe_Add x1.From by').1)) rfl rfl rfl (.extract (v := (vi (safe_Add x1.From by').2)) rfl rfl rfl (.assign (v := (vi (safe_Add x1.From by').1)) rfl rfl ?_)))
   refine .assign (v := (vi (safe_Add x1.From by').2)) rfl rfl ?_
   apply Ops.nil
   replace H := H.all
   apply Runs.then
   refine .regionH 9 rfl H ?_; intro b7 σ H
   refine .fieldAddrH (off := 0) (fo := 1) H 0 rfl rfl rfl rfl rfl nofun rfl (.loadH (off := 1) (v := (vi x1.To)) H 0 rfl rfl rfl rfl rfl nofun rfl (.move (v := (vi by')) rfl rfl (.call (ys := [(vi x1.To), (vi by')]) (r := (.tup [(vi (safe_Add x1.To by').1), (vi (safe_Add x1.To by').2)])) rfl (safe_Add_fn rfl) rfl ?_)))
   refine .move (v := (.tup [(vi (safe_Add x1.To by').1), (vi (safe_Add x1.To by').2)])) rfl rfl (.extract (v := (vi (safe_Add x1.To by').1)) rfl rfl rfl (.extract (v := (vi (safe_Add x1.To by').2)) rfl rfl rfl (.assign (v := (vi (safe_Add x1.To by').1)) rfl rfl ?_)))
   refine .assign (v := (vi (safe_Add x1.To by').2)) rfl rfl ?_
   apply Ops.nil
   replace H := H.all
   apply Runs.then
   apply Runs.then
   refine .regionH 16 rfl H ?_; intro b8 σ H
   refine .move (v := (vi (safe_Add x1.From by').2)) rfl rfl (.int (m := (safe_Add x1.From by').2) (m' := 0) (r := .bool (((safe_Add x1.From by').2) != 0)) rfl rfl rfl rfl rfl (.move (v := (vb (((safe_Add x1.From by').2) != 0))) rfl rfl ?_))
   refine .mid 3 (K1 := fun e σ => EnvHas e [(38, (vb ((((safe_Add x1.From by').2) != 0) || (((safe_Add x1.To by').2) != 0)))), (1, (vi by')), (6, w3), (9, (vi (safe_Add x1.From by').1)), (11, (vi (safe_Add x1.To by').1)), (13, (vl Span.cs l)), (14, (vi (l.length : Int))), (15, (vi s2.1))] ∧ Has σ (b8 + 6) (b8 + 16) [.sl w3 43 2 (s2.2.map Span.cs) true]) rfl ?_ ?_
   ·refine .split rfl rfl ?_ ?_ <;> intro hc2
    ·skip
     refine .pass rfl rfl rfl (.pass rfl rfl rfl (.pickT (v := (vb true)) rfl rfl rfl ?_))
     apply Ops.nil
     exact ⟨⟨or_T hc2, rfl, rfl, rfl, rfl, rfl, rfl, rfl, trivial⟩, (H.erase 0).weak (by omega) (Nat.le_refl _)⟩
    ·skip
     refine .wanted rfl rfl (.move (v := (vi (safe_Add x1.To by').2)) rfl rfl (.wanted rfl rfl (.int (m := (safe_Add x1.To by').2) (m' := 0) (r := .bool (((safe_Add x1.To by').2) != 0)) rfl rfl rfl rfl rfl ?_)))
     refine .pickF (v := (vb (((safe_Add x1.To by').2) != 0))) rfl rfl rfl ?_
     apply Ops.nil
     exact ⟨⟨or_F hc2, rfl, rfl, rfl, rfl, rfl, rfl, rfl, trivial⟩, (H.erase 0).weak (by omega) (Nat.le_refl _)⟩
   ·rintro e σ ⟨he, H⟩
    obtain ⟨e, rfl⟩ := he.ex
    refine .move (v := (vb ((((safe_Add x1.From by').2) != 0) || (((safe_Add x1.To by').2) != 0)))) rfl rfl ?_
    refine .mid 4 (K1 := fun e σ => EnvHas e [(43, (vb (((((safe_Add x1.From by').2) != 0) || (((safe_Add x1.To by').2) != 0)) || (!(spans_tick ((safe_Add x1.From by').1)))))), (1, (vi by')), (6, w3), (9, (vi (safe_Add x1.From by').1)), (11, (vi (safe_Add x1.To by').1)), (13, (vl Span.cs l)), (14, (vi (l.length : Int))), (15, (vi s2.1))] ∧ Has σ (b8 + 11) (b8 + 16) [.sl w3 43 2 (s2.2.map Span.cs) true]) rfl ?_ ?_
    ·refine .split rfl rfl ?_ ?_ <;> intro hc3
     ·skip
      refine .pass rfl rfl rfl (.pass rfl rfl rfl (.pass rfl rfl rfl (.pickT (v := (vb true)) rfl rfl rfl ?_)))
      apply Ops.nil
      exact ⟨⟨or_T hc3, rfl, rfl, rfl, rfl, rfl, rfl, rfl, trivial⟩, H.weak (by omega) (Nat.le_refl _)⟩
     ·skip
      refine .wanted rfl rfl (.move (v := (vi (safe_Add x1.From by').1)) rfl rfl (.wanted rfl rfl (.call (ys := [(vi (safe_Add x1.From by').1)]) (r := (vb (spans_tick ((safe_Add x1.From by').1)))) rfl (spans_tick_fn rfl) rfl ?_)))
      refine .wanted rfl rfl (.not (b := (spans_tick ((safe_Add x1.From by').1))) rfl rfl (.pickF (v := (vb (!(spans_tick ((safe_Add x1.From by').1))))) rfl rfl rfl ?_))
      apply Ops.nil
      exact ⟨⟨or_F hc3, rfl, rfl, rfl, rfl, rfl, rfl, rfl, trivial⟩, H.weak (by omega) (Nat.le_refl _)⟩
    ·rintro e σ ⟨he, H⟩
     obtain ⟨e, rfl⟩ := he.ex
     refine .move (v := (vb (((((safe_Add x1.From by').2) != 0) || (((safe_Add x1.To by').2) != 0)) || (!(spans_tick ((safe_Add x1.From by').1)))))) rfl rfl ?_
     refine .mid 4 (K1 := fun e σ => EnvHas e [(48, (vb ((((((safe_Add x1.From by').2) != 0) || (((safe_Add x1.To by').2) != 0)) || (!(spans_tick ((safe_Add x1.From by').1)))) || (!(spans_tick ((safe_Add x1.To by').1)))))), (1, (vi by')), (6, w3), (9, (vi (safe_Add x1.From by').1)), (11, (vi (safe_Add x1.To by').1)), (13, (vl Span.cs l)), (14, (vi (l.length : Int))), (15, (vi s2.1))] ∧ Has σ (b8 + 16) (b8 + 16) [.sl w3 43 2 (s2.2.map Span.cs) true]) rfl ?_ ?_
     ·refine .split rfl rfl ?_ ?_ <;> intro hc4
      ·skip
       refine .pass rfl rfl rfl (.pass rfl rfl rfl (.pass rfl rfl rfl (.pickT (v := (vb true)) rfl rfl rfl ?_)))
       apply Ops.nil
       exact ⟨⟨or_T hc4, rfl, rfl, rfl, rfl, rfl, rfl, rfl, trivial⟩, H.weak (by omega) (Nat.le_refl _)⟩
      ·skip
       refine .wanted rfl rfl (.move (v := (vi (safe_Add x1.To by').1)) rfl rfl (.wanted rfl rfl (.call (ys := [(vi (safe_Add x1.To by').1)]) (r := (vb (spans_tick ((safe_Add x1.To by').1)))) rfl (spans_tick_fn rfl) rfl ?_)))
       refine .wanted rfl rfl (.not (b := (spans_tick ((safe_Add x1.To by').1))) rfl rfl (.pickF (v := (vb (!(spans_tick ((safe_Add x1.To by').1))))) rfl rfl rfl ?_))
       apply Ops.nil
       exact ⟨⟨or_F hc4, rfl, rfl, rfl, rfl, rfl, rfl, rfl, trivial⟩, H.weak (by omega) (Nat.le_refl _)⟩
     ·rintro e σ ⟨he, H⟩
      obtain ⟨e, rfl⟩ := he.ex
      apply Ops.nil
      replace H := H.all
      refine .whether (v := ((((((safe_Add x1.From by').2) != 0) || (((safe_Add x1.To by').2) != 0)) || (!(spans_tick ((safe_Add x1.From by').1)))) || (!(spans_tick ((safe_Add x1.To by').1))))) rfl ?_ ?_ <;> intro hc5
      ·replace h := cond_T hc5 h
       apply Runs.then
       refine .regionH 2 rfl H ?_; intro b9 σ H
       refine .assign (v := .nils) rfl rfl (.assign (v := (vi 20)) rfl rfl ?_)
       apply Ops.nil
       replace H := H.all
       apply Runs.ret
       replace h := Option.some.inj h; subst h
       exact ⟨nofun, (.inr ⟨_, rfl, rfl, (Ends.H (xs := [.nils, (vi 20)]) (.inr rfl) H (.tmp (v := .nils) rfl (.tmp (v := (vi 20)) rfl .nil)) (.two (.cons (.c .n) (.cons (.c (.v _)) .nil))))⟩)⟩
      ·replace h := cond_F hc5 h
       apply Runs.skip
       refine .regionH 7 rfl H ?_; intro b10 σ H
       refine .move (v := w3) rfl rfl (.move (v := (vi (safe_Add x1.From by').1)) rfl rfl (.move (v := (vi (safe_Add x1.To by').1)) rfl rfl (.buildA (cs := [(vi (safe_Add x1.From by').1), (vi (safe_Add x1.To by').1)]) rfl rfl ?_)))
       refine .buildS (sz := 2) ([(Span.mk ((safe_Add x1.From by').1) ((safe_Add x1.To by').1))].map Span.cs) H (by omega) (by omega) rfl rfl rfl rfl rfl rfl rfl rfl rfl ?_; intro σ H
       obtain ⟨x2, q2, h⟩ := bind_some h
       refine .appendSt (c := Span.cs) (v := w3) (w := (.buf (b10 + 4) 1 2)) (xs := s2.2) (ys := [(Span.mk ((safe_Add x1.From by').1) ((safe_Add x1.To by').1))]) H (by omega) (by omega) 1 rfl rfl rfl (.s 0 rfl) q2 rfl rfl rfl rfl rfl nofun rfl ?_; intro w5 σ H
       refine .assign (v := w5) rfl rfl ?_
       apply Ops.nil
       replace H := H.all
       refine .regionH 2 rfl H ?_; intro b11 σ H
       refine .int (m := s2.1) (m' := 1) (r := .int .i64 (w64 (s2.1 + 1))) rfl rfl rfl rfl rfl (.move (v := (vi (w64 (s2.1 + 1)))) rfl rfl ?_)
       apply Ops.nil
       replace H := H.all
       replace h := Option.some.inj h; subst h
       exact ⟨rfl, w5, ⟨rfl, rfl, rfl, rfl, rfl, trivial⟩, (H.erase 0)⟩
  ·replace h := cond_F hc1 h
   apply Runs.exit
   replace h := Option.some.inj h; subst h
   exact ⟨nofun, (.inl ⟨_, w3, rfl, rfl, ⟨rfl, trivial⟩, H⟩)⟩
 ·rintro x e σ (⟨a2, w6, rfl, rfl, he, H⟩ | ⟨r', rfl, rfl, hE⟩)
  ·skip
   replace h := jgo h
   obtain ⟨e, rfl⟩ := he.ex
   apply Runs.then
   refine .regionH 3 rfl H ?_; intro b12 σ H
   refine .move (v := w6) rfl rfl (.assign (v := w6) rfl rfl (.assign (v := (vi 0)) rfl rfl ?_))
   apply Ops.nil
   replace H := H.all
   apply Runs.ret
   replace h := Option.some.inj h; subst h
   exact (Ends.H (xs := [w6, (vi 0)]) (.inr rfl) H (.tmp (v := w6) rfl (.tmp (v := (vi 0)) rfl .nil)) (.two (.cons (.c (.s 0 rfl)) (.cons (.c (.v _)) .nil))))
  ·skip
   replace h := jret h
   replace h := Option.some.inj h; subst h
   exact hE

theorem gran_Get_fn {f : Form} {i : Int} {r : (List Span) × Int} (h : gran_Get f i = some r) : Fn CX 31 [(.agg (vs (Form.cs f))), (vi i)] (.tup [(vl Span.cs r.1), (vi r.2)]) := by
 refine Fn.ends Try.func31 rfl rfl rfl rfl rfl rfl ?_
 have H : Hs (⟨0, fun _ => .none⟩ : Heap) [] := Has.nil (Nat.le_refl _)
 generalize (⟨0, fun _ => .none⟩ : Heap) = σ at H ⊢
 unfold gran_Get at h
 apply Runs.then
 refine .regionH 3 rfl H ?_; intro b1 σ H
 refine .boxH (cs := (vF f)) H (by omega) (by omega) rfl rfl rfl ?_; intro σ H
 refine .assign (v := .nils) rfl rfl (.assign (v := (vi 0)) rfl rfl ?_)
 apply Ops.nil
 replace H := H.all
 apply Runs.then
 apply Runs.then
 refine .regionH 3 rfl H ?_; intro b2 σ H
 refine .move (v := (vi i)) rfl rfl (.call (ys := [(vi i)]) (r := (vb (gran_inRange i))) rfl (gran_inRange_fn rfl) rfl (.not (b := (gran_inRange i)) rfl rfl ?_))
 apply Ops.nil
 replace H := H.all
 refine .whether (v := (!(gran_inRange i))) rfl ?_ ?_ <;> intro hc1
 ·replace h := cond_T hc1 h
  apply Runs.then
  refine .regionH 2 rfl H ?_; intro b3 σ H
  refine .assign (v := .nils) rfl rfl (.assign (v := (vi 20)) rfl rfl ?_)
  apply Ops.nil
  replace H := H.all
  apply Runs.ret
  replace h := Option.some.inj h; subst h
  exact (Ends.H (xs := [.nils, (vi 20)]) (.inr rfl) H (.tmp (v := .nils) rfl (.tmp (v := (vi 20)) rfl .nil)) (.two (.cons (.c .n) (.cons (.c (.v _)) .nil))))
 ·replace h := cond_F hc1 h
  apply Runs.skip
  apply Runs.then
  refine .regionH 10 rfl H ?_; intro b4 σ H
  refine .loadHA (off := 0) (cs := (vF f)) H 0 rfl rfl rfl rfl rfl rfl rfl nofun rfl (.move (v := (vi i)) rfl rfl ?_)
  obtain ⟨x1, q1, h⟩ := bind_some h
  refine .call (ys := [(.agg (vF f)), (vi i)]) (r := (.tup [(vl Span.cs x1.1), (vi x1.2.1), (vi x1.2.2)])) rfl (gran_kept_fn q1) rfl (.move (v := (.tup [(vl Span.cs x1.1), (vi x1.2.1), (vi x1.2.2)])) rfl rfl (.extract (v := (vl Span.cs x1.1)) rfl rfl rfl (.extract (v := (vi x1.2.1)) rfl rfl rfl ?_)))
  refine .extract (v := (vi x1.2.2)) rfl rfl rfl (.assign (v := (vl Span.cs x1.1)) rfl rfl (.assign (v := (vi x1.2.1)) rfl rfl (.assign (v := (vi x1.2.2)) rfl rfl ?_)))
  apply Ops.nil
  replace H := H.all
  apply Runs.then
  apply Runs.then
  refine .regionH 3 rfl H ?_; intro b5 σ H
  refine .move (v := (vl Span.cs x1.1)) rfl rfl (.lenPt (c := Span.cs) (xs := x1.1) rfl rfl rfl (.int (m := (x1.1.length : Int)) (m' := 0) (r := .bool ((x1.1.length : Int) == 0)) rfl rfl rfl rfl rfl ?_))
  apply Ops.nil
  replace H := H.all
  refine .whether (v := ((x1.1.length : Int) == 0)) rfl ?_ ?_ <;> intro hc2
  ·replace h := cond_T hc2 h
   apply Runs.then
   refine .regionH 2 rfl H ?_; intro b6 σ H
   refine .assign (v := .nils) rfl rfl (.assign (v := (vi 0)) rfl rfl ?_)
   apply Ops.nil
   replace H := H.all
   apply Runs.ret
   replace h := Option.some.inj h; subst h
   exact (Ends.H (xs := [.nils, (vi 0)]) (.inr rfl) H (.tmp (v := .nils) rfl (.tmp (v := (vi 0)) rfl .nil)) (.two (.cons (.c .n) (.cons (.c (.v _)) .nil))))
  ·replace h := cond_F hc2 h
   apply Runs.skip
   apply Runs.then
   apply Runs.then
   refine .regionH 2 rfl H ?_; intro b7 σ H
   refine .move (v := (vi x1.2.2)) rfl rfl (.int (m := x1.2.2) (m' := 0) (r := .bool (x1.2.2 != 0)) rfl rfl rfl rfl rfl ?_)
   apply Ops.nil
   replace H := H.all
   refine .whether (v := (x1.2.2 != 0)) rfl ?_ ?_ <;> intro hc3
   ·replace h := cond_T hc3 h
    apply Runs.then
    refine .regionH 2 rfl H ?_; intro b8 σ H
    refine .assign (v := .nils) rfl rfl (.assign (v := (vi 20)) rfl rfl ?_)
    apply Ops.nil
    replace H := H.all
    apply Runs.ret
    replace h := Option.some.inj h; subst h
    exact (Ends.H (xs := [.nils, (vi 20)]) (.inr rfl) H (.tmp (v := .nils) rfl (.tmp (v := (vi 20)) rfl .nil)) (.two (.cons (.c .n) (.cons (.c (.v _)) .nil))))
   ·replace h := cond_F hc3 h
    apply Runs.skip
    apply Runs.then
    refine .regionH 7 rfl H ?_; intro b9 σ H
    refine .move (v := (vl Span.cs x1.1)) rfl rfl (.move (v := (vi x1.2.1)) rfl rfl ?_)
    obtain ⟨x2, q2, h⟩ := bind_some h
    refine .call (ys := [(vl Span.cs x1.1), (vi x1.2.1)]) (r := (.tup [(vl Span.cs x2.1), (vi x2.2)])) rfl (spans_Move_fn q2) rfl (.extract (v := (vl Span.cs x2.1)) rfl rfl rfl (.extract (v := (vi x2.2)) rfl rfl rfl (.assign (v := (vl Span.cs x2.1)) rfl rfl ?_)))
    refine .assign (v := (vi x2.2)) rfl rfl ?_
    apply Ops.nil
    replace H := H.all
    apply Runs.ret
    replace h := Option.some.inj h; subst h
    exact (Ends.H (xs := [(vl Span.cs x2.1), (vi x2.2)]) (.inr rfl) H (.tmp (v := (vl Span.cs x2.1)) rfl (.tmp (v := (vi x2.2)) rfl .nil)) (.two (.cons (.c (.v _)) (.cons (.c (.v _)) .nil))))

theorem slices_IndexFunc_SSSpan_SSpan_fn {s : (List (List Span))} {f : (List Span) → Option Bool} {C : List Res} {cv0 : PV} (hs0 : cv0.still = true) (hp0 : cv0.pure = true → C = []) (hf0 : ∀ z0 y, f z0 = some y → CloH CX cv0 [(vl Span.cs z0)] (vb y) C) {r : Int} (h : slices_IndexFunc_SSSpan_SSpan s f = some r) : FnH CX 131 [(vl (cL Span.cs) s), cv0] (vi r) C := by
 refine FnH.of Try.func131 rfl rfl rfl rfl (all_t rfl (all_t hs0 all_nil)) rfl (fun h => hp0 (all_get h 1 rfl)) ?_
 intro σ L hC H
 unfold slices_IndexFunc_SSSpan_SSpan at h
 apply Runs.then
 refine .regionH 1 rfl H ?_; intro b1 σ H
 refine .assign (v := (vi 0)) rfl rfl ?_
 apply Ops.nil
 replace H := H.all
 apply Runs.then
 apply Runs.then
 refine .regionH 3 rfl H ?_; intro b2 σ H
 refine .move (v := (vl (cL Span.cs) s)) rfl rfl (.lenPt (c := (cL Span.cs)) (xs := s) rfl rfl rfl (.move (v := (vi 0)) rfl rfl ?_))
 apply Ops.nil
 replace H := H.all
 apply Runs.inBlock
 obtain ⟨y1, hj1, h⟩ := bind_some h
 obtain ⟨n1, hj1⟩ := loopO_iff.1 hj1
 refine .mono (Runs.loopO hj1 (fun s1 e σ => EnvHas e [(0, (vl (cL Span.cs) s)), (1, cv0), (7, (vi (s.length : Int))), (8, (vi s1))] ∧ Hs σ (L)) (fun y1 x e σ => (∃ a1, y1 = (.go a1) ∧ x = .exit 0 ∧ EnvHas e [] ∧ Hs σ (L)) ∨ (∃ r', y1 = (.ret r') ∧ x = .ret ∧ EndsH CX Try.f131.results.toList (vi r') L x e σ)) ⟨⟨rfl, rfl, rfl, rfl, trivial⟩, H⟩ ?_) ?_
 ·intro s1 e σ hI z h
  obtain ⟨he, H⟩ := hI
  obtain ⟨e, rfl⟩ := he.ex
  unfold slices_IndexFunc_SSSpan_SSpan.s0 at h
  apply Runs.then
  refine .regionH 1 rfl H ?_; intro b3 σ H
  refine .int (m := s1) (m' := (s.length : Int)) (r := .bool (decide (s1 < (s.length : Int)))) rfl rfl rfl rfl rfl ?_
  apply Ops.nil
  replace H := H.all
  apply Runs.then
  refine .whether (v := (decide (s1 < (s.length : Int)))) rfl ?_ ?_ <;> intro hc1
  ·replace h := cond_T hc1 h
   apply Runs.skip
   apply Runs.then
   apply Runs.inBlock
   apply Runs.then
   refine .regionH 2 rfl H ?_; intro b4 σ H
   refine .move (v := (vi s1)) rfl rfl (.assign (v := (vi s1)) rfl rfl ?_)
   apply Ops.nil
   replace H := H.all
   apply Runs.then
   refine .regionH 6 rfl H ?_; intro b5 σ H
   refine .move (v := cv0) rfl rfl (.move (v := (vl (cL Span.cs) s)) rfl rfl (.move (v := (vi s1)) rfl rfl ?_))
   obtain ⟨x1, q1, h⟩ := bind_some h
   refine .indexP (c := (cL Span.cs)) (u := x1) rfl rfl q1 rfl rfl rfl rfl (.loadP (u := (.sl (x1.map Span.cs))) rfl rfl rfl rfl ?_)
   obtain ⟨x2, q2, h⟩ := bind_some h
   refine .callV (cv := cv0) (ys := [(vl Span.cs x1)]) (r := (vb x2)) H rfl rfl (hf0 x1 _ q2) hC nofun rfl ?_; intro σ H
   apply Ops.nil
   replace H := H.all
   refine .whether (v := x2) rfl ?_ ?_ <;> intro hc2
   ·replace h := cond_T hc2 h
    apply Runs.then
    refine .regionH 2 rfl H ?_; intro b6 σ H
    refine .move (v := (vi s1)) rfl rfl (.assign (v := (vi s1)) rfl rfl ?_)
    apply Ops.nil
    replace H := H.all
    apply Runs.ret
    replace h := Option.some.inj h; subst h
    exact ⟨nofun, (.inr ⟨_, rfl, rfl, (EndsH.H (xs := [(vi s1)]) (.inr rfl) H (.tmp (v := (vi s1)) rfl .nil) (.one (.c (.v _))) 0 rfl)⟩)⟩
   ·replace h := cond_F hc2 h
    apply Runs.skip
    refine .regionH 2 rfl H ?_; intro b7 σ H
    refine .int (m := s1) (m' := 1) (r := .int .i64 (w64 (s1 + 1))) rfl rfl rfl rfl rfl (.move (v := (vi (w64 (s1 + 1)))) rfl rfl ?_)
    apply Ops.nil
    replace H := H.all
    replace h := Option.some.inj h; subst h
    exact ⟨rfl, ⟨rfl, rfl, rfl, rfl, trivial⟩, H⟩
  ·replace h := cond_F hc1 h
   apply Runs.exit
   replace h := Option.some.inj h; subst h
   exact ⟨nofun, (.inl ⟨_, rfl, rfl, trivial, H⟩)⟩
 ·rintro x e σ (⟨a2, rfl, rfl, he, H⟩ | ⟨r', rfl, rfl, hE⟩)
  ·skip
   replace h := jgo h
   obtain ⟨e, rfl⟩ := he.ex
   apply Runs.then
   refine .regionH 1 rfl H ?_; intro b8 σ H
   refine .assign (v := (vi (-1))) rfl rfl ?_
   apply Ops.nil
   replace H := H.all
   apply Runs.ret
   replace h := Option.some.inj h; subst h
   exact (EndsH.H (xs := [(vi (-1))]) (.inr rfl) H (.tmp (v := (vi (-1))) rfl .nil) (.one (.c (.v _))) 0 rfl)
  ·skip
   replace h := jret h
   replace h := Option.some.inj h; subst h
   exact hE

theorem slices_ContainsFunc_SSSpan_SSpan_fn {s : (List (List Span))} {f : (List Span) → Option Bool} {C : List Res} {cv0 : PV} (hs0 : cv0.still = true) (hp0 : cv0.pure = true → C = []) (hf0 : ∀ z0 y, f z0 = some y → CloH CX cv0 [(vl Span.cs z0)] (vb y) C) {r : Bool} (h : slices_ContainsFunc_SSSpan_SSpan s f = some r) : FnH CX 116 [(vl (cL Span.cs) s), cv0] (vb r) C := by
 refine FnH.of Try.func116 rfl rfl rfl rfl (all_t rfl (all_t hs0 all_nil)) rfl (fun h => hp0 (all_get h 1 rfl)) ?_
 intro σ L hC H
 unfold slices_ContainsFunc_SSSpan_SSpan at h
 apply Runs.then
 refine .regionH 1 rfl H ?_; intro b1 σ H
 refine .assign (v := (vb false)) rfl rfl ?_
 apply Ops.nil
 replace H := H.all
 apply Runs.then
 refine .regionH 5 rfl H ?_; intro b2 σ H
 refine .move (v := (vl (cL Span.cs) s)) rfl rfl (.move (v := cv0) rfl rfl ?_)
 obtain ⟨x1, q1, h⟩ := bind_some h
 refine .callH (ys := [(vl (cL Span.cs) s), cv0]) (r := (vi x1)) H rfl (slices_IndexFunc_SSSpan_SSpan_fn (C := C) hs0 hp0 hf0 q1) hC nofun rfl ?_; intro σ H
 refine .int (m := x1) (m' := 0) (r := .bool (decide (x1 ≥ 0))) rfl rfl rfl rfl rfl (.assign (v := (vb (decide (x1 ≥ 0)))) rfl rfl ?_)
 apply Ops.nil
 replace H := H.all
 apply Runs.ret
 replace h := Option.some.inj h; subst h
 exact (EndsH.H (xs := [(vb (decide (x1 ≥ 0)))]) (.inr rfl) H (.tmp (v := (vb (decide (x1 ≥ 0)))) rfl .nil) (.one (.c (.v _))) 0 rfl)

theorem gran_bare_1_fn {l : (List Span)} {r : Bool} (h : gran_bare_1 l = r) : Fn CX 134 [(vl Span.cs l)] (vb r) := by
 refine Fn.ends Try.func134 rfl rfl rfl rfl rfl rfl ?_
 have H : Hs (⟨0, fun _ => .none⟩ : Heap) [] := Has.nil (Nat.le_refl _)
 generalize (⟨0, fun _ => .none⟩ : Heap) = σ at H ⊢
 unfold gran_bare_1 at h
 apply Runs.then
 refine .regionH 1 rfl H ?_; intro b1 σ H
 refine .assign (v := (vb false)) rfl rfl ?_
 apply Ops.nil
 replace H := H.all
 apply Runs.then
 refine .regionH 4 rfl H ?_; intro b2 σ H
 refine .move (v := (vl Span.cs l)) rfl rfl (.lenPt (c := Span.cs) (xs := l) rfl rfl rfl (.int (m := (l.length : Int)) (m' := 0) (r := .bool (decide ((l.length : Int) > 0))) rfl rfl rfl rfl rfl (.assign (v := (vb (decide ((l.length : Int) > 0)))) rfl rfl ?_)))
 apply Ops.nil
 replace H := H.all
 apply Runs.ret
 subst h
 exact (Ends.H (xs := [(vb (decide ((l.length : Int) > 0)))]) (.inr rfl) H (.tmp (v := (vb (decide ((l.length : Int) > 0)))) rfl .nil) (.one (.c (.v _))))

theorem gran_bare_fn {f : Form} {r : Bool} (h : gran_bare f = some r) : Fn CX 122 [(.agg (vs (Form.cs f)))] (vb r) := by
 refine Fn.ends Try.func122 rfl rfl rfl rfl rfl rfl ?_
 have H : Hs (⟨0, fun _ => .none⟩ : Heap) [] := Has.nil (Nat.le_refl _)
 generalize (⟨0, fun _ => .none⟩ : Heap) = σ at H ⊢
 unfold gran_bare at h
 apply Runs.then
 refine .regionH 2 rfl H ?_; intro b1 σ H
 refine .boxH (cs := (vF f)) H (by omega) (by omega) rfl rfl rfl ?_; intro σ H
 refine .assign (v := (vb false)) rfl rfl ?_
 apply Ops.nil
 replace H := H.all
 apply Runs.then
 refine .regionH 5 rfl H ?_; intro b2 σ H
 refine .fieldAddrH (off := 0) (fo := 2) H 0 rfl rfl rfl rfl rfl nofun rfl (.loadH (off := 2) (v := (vl (cL Span.cs) f.Core)) H 0 rfl rfl rfl rfl rfl nofun rfl ?_)
 obtain ⟨x1, q1, h⟩ := bind_some h
 refine .callH (ys := [(vl (cL Span.cs) f.Core), (.v (.fn 134))]) (r := (vb x1)) H rfl (slices_ContainsFunc_SSSpan_SSpan_fn (C := []) rfl (fun _ => rfl) (fun z0 y hz => (CloH.fn (Fn.toH (gran_bare_1_fn (Option.some.inj hz)) _))) q1) .nil nofun rfl ?_; intro σ H
 refine .not (b := x1) rfl rfl (.assign (v := (vb (!x1))) rfl rfl ?_)
 apply Ops.nil
 replace H := H.all
 apply Runs.ret
 replace h := Option.some.inj h; subst h
 exact (Ends.H (xs := [(vb (!x1))]) (.inr rfl) H (.tmp (v := (vb (!x1))) rfl .nil) (.one (.c (.v _))))

theorem gran_some_fn {f : Form} {i : Int} {r : Bool} (h : gran_some f i = some r) : Fn CX 123 [(.agg (vs (Form.cs f))), (vi i)] (vb r) := by
 refine Fn.ends Try.func123 rfl rfl rfl rfl rfl rfl ?_
 have H : Hs (⟨0, fun _ => .none⟩ : Heap) [] := Has.nil (Nat.le_refl _)
 generalize (⟨0, fun _ => .none⟩ : Heap) = σ at H ⊢
 unfold gran_some at h
 apply Runs.then
 refine .regionH 2 rfl H ?_; intro b1 σ H
 refine .boxH (cs := (vF f)) H (by omega) (by omega) rfl rfl rfl ?_; intro σ H
 refine .assign (v := (vb false)) rfl rfl ?_
 apply Ops.nil
 replace H := H.all
 apply Runs.then
 refine .regionH 10 rfl H ?_; intro b2 σ H
 refine .loadHA (off := 0) (cs := (vF f)) H 0 rfl rfl rfl rfl rfl rfl rfl nofun rfl (.move (v := (vi i)) rfl rfl ?_)
 obtain ⟨x1, q1, h⟩ := bind_some h
 refine .call (ys := [(.agg (vF f)), (vi i)]) (r := (.tup [(vl Span.cs x1.1), (vi x1.2.1), (vi x1.2.2)])) rfl (gran_kept_fn q1) rfl (.move (v := (.tup [(vl Span.cs x1.1), (vi x1.2.1), (vi x1.2.2)])) rfl rfl (.extract (v := (vl Span.cs x1.1)) rfl rfl rfl (.extract (v := (vi x1.2.1)) rfl rfl rfl ?_)))
 refine .extract (v := (vi x1.2.2)) rfl rfl rfl (.assign (v := (vl Span.cs x1.1)) rfl rfl (.assign (v := (vi x1.2.1)) rfl rfl (.assign (v := (vi x1.2.2)) rfl rfl ?_)))
 apply Ops.nil
 replace H := H.all
 apply Runs.then
 refine .regionH 4 rfl H ?_; intro b3 σ H
 refine .move (v := (vl Span.cs x1.1)) rfl rfl (.lenPt (c := Span.cs) (xs := x1.1) rfl rfl rfl (.int (m := (x1.1.length : Int)) (m' := 0) (r := .bool (decide ((x1.1.length : Int) > 0))) rfl rfl rfl rfl rfl (.assign (v := (vb (decide ((x1.1.length : Int) > 0)))) rfl rfl ?_)))
 apply Ops.nil
 replace H := H.all
 apply Runs.ret
 replace h := Option.some.inj h; subst h
 exact (Ends.H (xs := [(vb (decide ((x1.1.length : Int) > 0)))]) (.inr rfl) H (.tmp (v := (vb (decide ((x1.1.length : Int) > 0)))) rfl .nil) (.one (.c (.v _))))

theorem gran_step_fn {f : Form} {from' : Int} {by' : Int} {r : Int × Bool} (h : gran_step f from' by' = some r) : Fn CX 97 [(.agg (vs (Form.cs f))), (vi from'), (vi by')] (.tup [(vi r.1), (vb r.2)]) := by
 refine Fn.ends Try.func97 rfl rfl rfl rfl rfl rfl ?_
 have H : Hs (⟨0, fun _ => .none⟩ : Heap) [] := Has.nil (Nat.le_refl _)
 generalize (⟨0, fun _ => .none⟩ : Heap) = σ at H ⊢
 unfold gran_step at h
 apply Runs.then
 refine .regionH 3 rfl H ?_; intro b1 σ H
 refine .boxH (cs := (vF f)) H (by omega) (by omega) rfl rfl rfl ?_; intro σ H
 refine .assign (v := (vi 0)) rfl rfl (.assign (v := (vb false)) rfl rfl ?_)
 apply Ops.nil
 replace H := H.all
 apply Runs.then
 apply Runs.then
 refine .regionH 2 rfl H ?_; intro b2 σ H
 refine .loadHA (off := 0) (cs := (vF f)) H 0 rfl rfl rfl rfl rfl rfl rfl nofun rfl ?_
 obtain ⟨x1, q1, h⟩ := bind_some h
 refine .call (ys := [(.agg (vF f))]) (r := (vb x1)) rfl (gran_bare_fn q1) rfl ?_
 apply Ops.nil
 replace H := H.all
 refine .whether (v := x1) rfl ?_ ?_ <;> intro hc1
 ·replace h := cond_T hc1 h
  apply Runs.then
  refine .regionH 8 rfl H ?_; intro b3 σ H
  refine .loadHA (off := 0) (cs := (vF f)) H 0 rfl rfl rfl rfl rfl rfl rfl nofun rfl (.move (v := (vi from')) rfl rfl ?_)
  obtain ⟨x2, q2, h⟩ := bind_some h
  refine .call (ys := [(.agg (vF f)), (vi from')]) (r := (.tup [(vi x2.1), (vb x2.2)])) rfl (gran_odd_fn q2) rfl (.move (v := (.tup [(vi x2.1), (vb x2.2)])) rfl rfl (.extract (v := (vi x2.1)) rfl rfl rfl (.extract (v := (vb x2.2)) rfl rfl rfl ?_)))
  refine .assign (v := (vi x2.1)) rfl rfl (.assign (v := (vb x2.2)) rfl rfl ?_)
  apply Ops.nil
  replace H := H.all
  apply Runs.then
  obtain ⟨y1, hj1, h⟩ := bind_some h
  refine .mono (Q := fun x e σ => x = .normal ∧ EnvHas e [(2, (vi by')), (3, (.ptr (b1 + 0) 4 0)), (8, (vi y1))] ∧ Hs σ [.blk (b1 + 0) 25 (vF f)]) ?_ ?_
  ·replace h := hj1
   apply Runs.then
   refine .regionH 6 rfl H ?_; intro b4 σ H
   refine .move (v := (vi by')) rfl rfl (.int (m := by') (m' := 0) (r := .bool (decide (by' < 0))) rfl rfl rfl rfl rfl (.move (v := (vb (decide (by' < 0)))) rfl rfl ?_))
   refine .mid 3 (K1 := fun e σ => EnvHas e [(24, (vb ((decide (by' < 0)) && (!x2.2)))), (2, (vi by')), (3, (.ptr (b1 + 0) 4 0)), (8, (vi x2.1))] ∧ Has σ (b4 + 6) (b4 + 6) [.blk (b1 + 0) 25 (vF f)]) rfl ?_ ?_
   ·refine .split rfl rfl ?_ ?_ <;> intro hc2
    ·skip
     refine .wanted rfl rfl (.move (v := (vb x2.2)) rfl rfl (.wanted rfl rfl (.not (b := x2.2) rfl rfl ?_)))
     refine .pickT (v := (vb (!x2.2))) rfl rfl rfl ?_
     apply Ops.nil
     exact ⟨⟨and_T hc2, rfl, rfl, rfl, trivial⟩, H.weak (by omega) (Nat.le_refl _)⟩
    ·skip
     refine .pass rfl rfl rfl (.pass rfl rfl rfl (.pickF (v := (vb false)) rfl rfl rfl ?_))
     apply Ops.nil
     exact ⟨⟨and_F hc2, rfl, rfl, rfl, trivial⟩, H.weak (by omega) (Nat.le_refl _)⟩
   ·rintro e σ ⟨he, H⟩
    obtain ⟨e, rfl⟩ := he.ex
    apply Ops.nil
    replace H := H.all
    refine .whether (v := ((decide (by' < 0)) && (!x2.2))) rfl ?_ ?_ <;> intro hc3
    ·replace h := cond_T hc3 h
     refine .regionH 3 rfl H ?_; intro b5 σ H
     refine .move (v := (vi x2.1)) rfl rfl (.int (m := x2.1) (m' := 1) (r := .int .i64 (w64 (x2.1 - 1))) rfl rfl rfl rfl rfl (.assign (v := (vi (w64 (x2.1 - 1)))) rfl rfl ?_))
     apply Ops.nil
     replace H := H.all
     replace h := Option.some.inj h; subst h
     exact ⟨rfl, ⟨rfl, rfl, rfl, trivial⟩, H⟩
    ·replace h := cond_F hc3 h
     apply Runs.skip
     replace h := Option.some.inj h; subst h
     exact ⟨rfl, ⟨rfl, rfl, rfl, trivial⟩, H⟩
  ·rintro x e σ ⟨rfl, he, H⟩
   obtain ⟨e, rfl⟩ := he.ex
   apply Runs.then
   apply Runs.inBlock
   obtain ⟨y2, hj2, h⟩ := bind_some h
   obtain ⟨n1, hj2⟩ := loopO_iff.1 hj2
   refine .mono (Runs.loopO hj2 (fun s1 e σ => EnvHas e [(2, (vi by')), (3, (.ptr (b1 + 0) 4 0)), (8, (vi s1))] ∧ Hs σ [.blk (b1 + 0) 25 (vF f)]) (fun y2 x e σ => (∃ a1, y2 = (.go a1) ∧ x = .exit 0 ∧ EnvHas e [] ∧ Hs σ []) ∨ (∃ r', y2 = (.ret r') ∧ x = .ret ∧ Ends CX Try.f97.results.toList (.tup [(vi r'.1), (vb r'.2)]) x e σ)) ⟨⟨rfl, rfl, rfl, trivial⟩, H⟩ ?_) ?_
   ·intro s1 e σ hI z h
    obtain ⟨he, H⟩ := hI
    obtain ⟨e, rfl⟩ := he.ex
    unfold gran_step.s0 at h
    apply Runs.then
    apply Runs.then
    refine .regionH 9 rfl H ?_; intro b6 σ H
    refine .move (v := (vi s1)) rfl rfl (.int (m := s1) (m' := 0) (r := .bool (decide (s1 ≥ 0))) rfl rfl rfl rfl rfl (.move (v := (vb (decide (s1 ≥ 0)))) rfl rfl ?_))
    refine .mid 6 (K1 := fun e σ => EnvHas e [(35, (vb ((decide (s1 ≥ 0)) && (decide (s1 < (f.Odd.length : Int)))))), (2, (vi by')), (3, (.ptr (b1 + 0) 4 0)), (8, (vi s1))] ∧ Has σ (b6 + 9) (b6 + 9) [.blk (b1 + 0) 25 (vF f)]) rfl ?_ ?_
    ·refine .split rfl rfl ?_ ?_ <;> intro hc4
     ·skip
      refine .wanted rfl rfl (.move (v := (vi s1)) rfl rfl (.wanted rfl rfl (.fieldAddrH (off := 0) (fo := 3) H 0 rfl rfl rfl rfl rfl nofun rfl ?_)))
      refine .wanted rfl rfl (.loadH (off := 3) (v := (vl Granule.cs f.Odd)) H 0 rfl rfl rfl rfl rfl nofun rfl (.wanted rfl rfl (.lenPt (c := Granule.cs) (xs := f.Odd) rfl rfl rfl ?_)))
      refine .wanted rfl rfl (.int (m := s1) (m' := (f.Odd.length : Int)) (r := .bool (decide (s1 < (f.Odd.length : Int)))) rfl rfl rfl rfl rfl (.pickT (v := (vb (decide (s1 < (f.Odd.length : Int))))) rfl rfl rfl ?_))
      apply Ops.nil
      exact ⟨⟨and_T hc4, rfl, rfl, rfl, trivial⟩, H.weak (by omega) (Nat.le_refl _)⟩
     ·skip
      refine .pass rfl rfl rfl (.pass rfl rfl rfl (.pass rfl rfl rfl (.pass rfl rfl rfl ?_)))
      refine .pass rfl rfl rfl (.pickF (v := (vb false)) rfl rfl rfl ?_)
      apply Ops.nil
      exact ⟨⟨and_F hc4, rfl, rfl, rfl, trivial⟩, H.weak (by omega) (Nat.le_refl _)⟩
    ·rintro e σ ⟨he, H⟩
     obtain ⟨e, rfl⟩ := he.ex
     apply Ops.nil
     replace H := H.all
     refine .whether (v := ((decide (s1 ≥ 0)) && (decide (s1 < (f.Odd.length : Int))))) rfl ?_ ?_ <;> intro hc5
     ·replace h := cond_T hc5 h
      apply Runs.skip
      apply Runs.then
      apply Runs.inBlock
      apply Runs.then
      refine .regionH 8 rfl H ?_; intro b7 σ H
      refine .fieldAddrH (off := 0) (fo := 3) H 0 rfl rfl rfl rfl rfl nofun rfl (.loadH (off := 3) (v := (vl Granule.cs f.Odd)) H 0 rfl rfl rfl rfl rfl nofun rfl (.move (v := (vi s1)) rfl rfl ?_))
      obtain ⟨x3, q3, h⟩ := bind_some h
      refine .indexP (c := Granule.cs) (u := x3) rfl rfl q3 rfl rfl rfl rfl (.fieldAddrP rfl rfl rfl rfl (.loadP (u := (.sl (x3.Ticks.map Span.cs))) rfl rfl rfl rfl (.lenPt (c := Span.cs) (xs := x3.Ticks) rfl rfl rfl ?_)))
      refine .int (m := (x3.Ticks.length : Int)) (m' := 0) (r := .bool (decide ((x3.Ticks.length : Int) > 0))) rfl rfl rfl rfl rfl ?_
      apply Ops.nil
      replace H := H.all
      refine .whether (v := (decide ((x3.Ticks.length : Int) > 0))) rfl ?_ ?_ <;> intro hc6
      ·replace h := cond_T hc6 h
       apply Runs.then
       refine .regionH 8 rfl H ?_; intro b8 σ H
       refine .fieldAddrH (off := 0) (fo := 3) H 0 rfl rfl rfl rfl rfl nofun rfl (.loadH (off := 3) (v := (vl Granule.cs f.Odd)) H 0 rfl rfl rfl rfl rfl nofun rfl (.move (v := (vi s1)) rfl rfl ?_))
       obtain ⟨x4, q4, h⟩ := bind_some h
       refine .indexP (c := Granule.cs) (u := x4) rfl rfl q4 rfl rfl rfl rfl (.fieldAddrP rfl rfl rfl rfl (.loadP (u := (.int .i64 x4.Index)) rfl rfl rfl rfl (.assign (v := (vi x4.Index)) rfl rfl ?_)))
       refine .assign (v := (vb true)) rfl rfl ?_
       apply Ops.nil
       replace H := H.all
       apply Runs.ret
       replace h := Option.some.inj h; subst h
       exact ⟨nofun, (.inr ⟨_, rfl, rfl, (Ends.H (xs := [(vi x4.Index), (vb true)]) (.inr rfl) H (.tmp (v := (vi x4.Index)) rfl (.tmp (v := (vb true)) rfl .nil)) (.two (.cons (.c (.v _)) (.cons (.c (.v _)) .nil))))⟩)⟩
      ·replace h := cond_F hc6 h
       apply Runs.skip
       refine .regionH 4 rfl H ?_; intro b9 σ H
       refine .move (v := (vi s1)) rfl rfl (.move (v := (vi by')) rfl rfl (.int (m := s1) (m' := by') (r := .int .i64 (w64 (s1 + by'))) rfl rfl rfl rfl rfl (.assign (v := (vi (w64 (s1 + by')))) rfl rfl ?_)))
       apply Ops.nil
       replace H := H.all
       replace h := Option.some.inj h; subst h
       exact ⟨rfl, ⟨rfl, rfl, rfl, trivial⟩, H⟩
     ·replace h := cond_F hc5 h
      apply Runs.exit
      replace h := Option.some.inj h; subst h
      exact ⟨nofun, (.inl ⟨_, rfl, rfl, trivial, (H.erase 0)⟩)⟩
   ·rintro x e σ (⟨a2, rfl, rfl, he, H⟩ | ⟨r', rfl, rfl, hE⟩)
    ·skip
     replace h := jgo h
     obtain ⟨e, rfl⟩ := he.ex
     apply Runs.then
     refine .regionH 2 rfl H ?_; intro b10 σ H
     refine .assign (v := (vi 0)) rfl rfl (.assign (v := (vb false)) rfl rfl ?_)
     apply Ops.nil
     replace H := H.all
     apply Runs.ret
     replace h := Option.some.inj h; subst h
     exact (Ends.H (xs := [(vi 0), (vb false)]) (.inr rfl) H (.tmp (v := (vi 0)) rfl (.tmp (v := (vb false)) rfl .nil)) (.two (.cons (.c (.v _)) (.cons (.c (.v _)) .nil))))
    ·skip
     replace h := jret h
     replace h := Option.some.inj h; subst h
     exact hE
 ·replace h := cond_F hc1 h
  apply Runs.skip
  apply Runs.then
  apply Runs.then
  refine .regionH 2 rfl H ?_; intro b11 σ H
  refine .move (v := (vi from')) rfl rfl (.assign (v := (vi from')) rfl rfl ?_)
  apply Ops.nil
  replace H := H.all
  apply Runs.inBlock
  obtain ⟨y3, hj3, h⟩ := bind_some h
  obtain ⟨n2, hj3⟩ := loopO_iff.1 hj3
  refine .mono (Runs.loopO hj3 (fun s2 e σ => EnvHas e [(2, (vi by')), (3, (.ptr (b1 + 0) 4 0)), (10, (vi s2))] ∧ Hs σ [.blk (b1 + 0) 25 (vF f)]) (fun y3 x e σ => (∃ a3, y3 = (.go a3) ∧ x = .exit 2 ∧ EnvHas e [] ∧ Hs σ []) ∨ (∃ r', y3 = (.ret r') ∧ x = .ret ∧ Ends CX Try.f97.results.toList (.tup [(vi r'.1), (vb r'.2)]) x e σ)) ⟨⟨rfl, rfl, rfl, trivial⟩, H⟩ ?_) ?_
  ·intro s2 e σ hI z h
   obtain ⟨he, H⟩ := hI
   obtain ⟨e, rfl⟩ := he.ex
   unfold gran_step.s1 at h
   apply Runs.then
   apply Runs.then
   refine .regionH 2 rfl H ?_; intro b12 σ H
   refine .move (v := (vi s2)) rfl rfl (.call (ys := [(vi s2)]) (r := (vb (gran_inRange s2))) rfl (gran_inRange_fn rfl) rfl ?_)
   apply Ops.nil
   replace H := H.all
   refine .whether (v := (gran_inRange s2)) rfl ?_ ?_ <;> intro hc7
   ·replace h := cond_T hc7 h
    apply Runs.skip
    apply Runs.then
    apply Runs.inBlock
    apply Runs.then
    refine .regionH 3 rfl H ?_; intro b13 σ H
    refine .loadHA (off := 0) (cs := (vF f)) H 0 rfl rfl rfl rfl rfl rfl rfl nofun rfl (.move (v := (vi s2)) rfl rfl ?_)
    obtain ⟨x5, q5, h⟩ := bind_some h
    refine .call (ys := [(.agg (vF f)), (vi s2)]) (r := (vb x5)) rfl (gran_some_fn q5) rfl ?_
    apply Ops.nil
    replace H := H.all
    refine .whether (v := x5) rfl ?_ ?_ <;> intro hc8
    ·replace h := cond_T hc8 h
     apply Runs.then
     refine .regionH 3 rfl H ?_; intro b14 σ H
     refine .move (v := (vi s2)) rfl rfl (.assign (v := (vi s2)) rfl rfl (.assign (v := (vb true)) rfl rfl ?_))
     apply Ops.nil
     replace H := H.all
     apply Runs.ret
     replace h := Option.some.inj h; subst h
     exact ⟨nofun, (.inr ⟨_, rfl, rfl, (Ends.H (xs := [(vi s2), (vb true)]) (.inr rfl) H (.tmp (v := (vi s2)) rfl (.tmp (v := (vb true)) rfl .nil)) (.two (.cons (.c (.v _)) (.cons (.c (.v _)) .nil))))⟩)⟩
    ·replace h := cond_F hc8 h
     apply Runs.skip
     refine .regionH 4 rfl H ?_; intro b15 σ H
     refine .move (v := (vi s2)) rfl rfl (.move (v := (vi by')) rfl rfl (.int (m := s2) (m' := by') (r := .int .i64 (w64 (s2 + by'))) rfl rfl rfl rfl rfl (.assign (v := (vi (w64 (s2 + by')))) rfl rfl ?_)))
     apply Ops.nil
     replace H := H.all
     replace h := Option.some.inj h; subst h
     exact ⟨rfl, ⟨rfl, rfl, rfl, trivial⟩, H⟩
   ·replace h := cond_F hc7 h
    apply Runs.exit
    replace h := Option.some.inj h; subst h
    exact ⟨nofun, (.inl ⟨_, rfl, rfl, trivial, (H.erase 0)⟩)⟩
  ·rintro x e σ (⟨a4, rfl, rfl, he, H⟩ | ⟨r', rfl, rfl, hE⟩)
   ·skip
    replace h := jgo h
    obtain ⟨e, rfl⟩ := he.ex
    apply Runs.then
    refine .regionH 2 rfl H ?_; intro b16 σ H
    refine .assign (v := (vi 0)) rfl rfl (.assign (v := (vb false)) rfl rfl ?_)
    apply Ops.nil
    replace H := H.all
    apply Runs.ret
    replace h := Option.some.inj h; subst h
    exact (Ends.H (xs := [(vi 0), (vb false)]) (.inr rfl) H (.tmp (v := (vi 0)) rfl (.tmp (v := (vb false)) rfl .nil)) (.two (.cons (.c (.v _)) (.cons (.c (.v _)) .nil))))
   ·skip
    replace h := jret h
    replace h := Option.some.inj h; subst h
    exact hE

theorem gran_Before_fn {f : Form} {i : Int} {r : Int × Bool} (h : gran_Before f i = some r) : Fn CX 71 [(.agg (vs (Form.cs f))), (vi i)] (.tup [(vi r.1), (vb r.2)]) := by
 refine Fn.ends Try.func71 rfl rfl rfl rfl rfl rfl ?_
 have H : Hs (⟨0, fun _ => .none⟩ : Heap) [] := Has.nil (Nat.le_refl _)
 generalize (⟨0, fun _ => .none⟩ : Heap) = σ at H ⊢
 unfold gran_Before at h
 apply Runs.then
 refine .regionH 3 rfl H ?_; intro b1 σ H
 refine .boxH (cs := (vF f)) H (by omega) (by omega) rfl rfl rfl ?_; intro σ H
 refine .assign (v := (vi 0)) rfl rfl (.assign (v := (vb false)) rfl rfl ?_)
 apply Ops.nil
 replace H := H.all
 apply Runs.then
 apply Runs.then
 refine .regionH 2 rfl H ?_; intro b2 σ H
 refine .move (v := (vi i)) rfl rfl (.int (m := i) (m' := (-1099511627776)) (r := .bool (decide (i ≤ (-1099511627776)))) rfl rfl rfl rfl rfl ?_)
 apply Ops.nil
 replace H := H.all
 refine .whether (v := (decide (i ≤ (-1099511627776)))) rfl ?_ ?_ <;> intro hc1
 ·replace h := cond_T hc1 h
  apply Runs.then
  refine .regionH 2 rfl H ?_; intro b3 σ H
  refine .assign (v := (vi 0)) rfl rfl (.assign (v := (vb false)) rfl rfl ?_)
  apply Ops.nil
  replace H := H.all
  apply Runs.ret
  replace h := Option.some.inj h; subst h
  exact (Ends.H (xs := [(vi 0), (vb false)]) (.inr rfl) H (.tmp (v := (vi 0)) rfl (.tmp (v := (vb false)) rfl .nil)) (.two (.cons (.c (.v _)) (.cons (.c (.v _)) .nil))))
 ·replace h := cond_F hc1 h
  apply Runs.skip
  apply Runs.then
  refine .regionH 9 rfl H ?_; intro b4 σ H
  refine .loadHA (off := 0) (cs := (vF f)) H 0 rfl rfl rfl rfl rfl rfl rfl nofun rfl (.move (v := (vi i)) rfl rfl (.int (m := i) (m' := 1) (r := .int .i64 (w64 (i - 1))) rfl rfl rfl rfl rfl (.min2 rfl rfl rfl ?_)))
  obtain ⟨x1, q1, h⟩ := bind_some h
  refine .call (ys := [(.agg (vF f)), (vi (iMin (w64 (i - 1)) 1099511627776)), (vi (-1))]) (r := (.tup [(vi x1.1), (vb x1.2)])) rfl (gran_step_fn q1) rfl (.extract (v := (vi x1.1)) rfl rfl rfl (.extract (v := (vb x1.2)) rfl rfl rfl (.assign (v := (vi x1.1)) rfl rfl ?_)))
  refine .assign (v := (vb x1.2)) rfl rfl ?_
  apply Ops.nil
  replace H := H.all
  apply Runs.ret
  replace h := Option.some.inj h; subst h
  exact (Ends.H (xs := [(vi x1.1), (vb x1.2)]) (.inr rfl) H (.tmp (v := (vi x1.1)) rfl (.tmp (v := (vb x1.2)) rfl .nil)) (.two (.cons (.c (.v _)) (.cons (.c (.v _)) .nil))))

theorem gran_Behind_fn {f : Form} {i : Int} {r : Int × Bool} (h : gran_Behind f i = some r) : Fn CX 72 [(.agg (vs (Form.cs f))), (vi i)] (.tup [(vi r.1), (vb r.2)]) := by
 refine Fn.ends Try.func72 rfl rfl rfl rfl rfl rfl ?_
 have H : Hs (⟨0, fun _ => .none⟩ : Heap) [] := Has.nil (Nat.le_refl _)
 generalize (⟨0, fun _ => .none⟩ : Heap) = σ at H ⊢
 unfold gran_Behind at h
 apply Runs.then
 refine .regionH 3 rfl H ?_; intro b1 σ H
 refine .boxH (cs := (vF f)) H (by omega) (by omega) rfl rfl rfl ?_; intro σ H
 refine .assign (v := (vi 0)) rfl rfl (.assign (v := (vb false)) rfl rfl ?_)
 apply Ops.nil
 replace H := H.all
 apply Runs.then
 apply Runs.then
 refine .regionH 2 rfl H ?_; intro b2 σ H
 refine .move (v := (vi i)) rfl rfl (.int (m := i) (m' := 1099511627776) (r := .bool (decide (i ≥ 1099511627776))) rfl rfl rfl rfl rfl ?_)
 apply Ops.nil
 replace H := H.all
 refine .whether (v := (decide (i ≥ 1099511627776))) rfl ?_ ?_ <;> intro hc1
 ·replace h := cond_T hc1 h
  apply Runs.then
  refine .regionH 2 rfl H ?_; intro b3 σ H
  refine .assign (v := (vi 0)) rfl rfl (.assign (v := (vb false)) rfl rfl ?_)
  apply Ops.nil
  replace H := H.all
  apply Runs.ret
  replace h := Option.some.inj h; subst h
  exact (Ends.H (xs := [(vi 0), (vb false)]) (.inr rfl) H (.tmp (v := (vi 0)) rfl (.tmp (v := (vb false)) rfl .nil)) (.two (.cons (.c (.v _)) (.cons (.c (.v _)) .nil))))
 ·replace h := cond_F hc1 h
  apply Runs.skip
  apply Runs.then
  refine .regionH 9 rfl H ?_; intro b4 σ H
  refine .loadHA (off := 0) (cs := (vF f)) H 0 rfl rfl rfl rfl rfl rfl rfl nofun rfl (.move (v := (vi i)) rfl rfl (.int (m := i) (m' := 1) (r := .int .i64 (w64 (i + 1))) rfl rfl rfl rfl rfl (.max2 rfl rfl rfl ?_)))
  obtain ⟨x1, q1, h⟩ := bind_some h
  refine .call (ys := [(.agg (vF f)), (vi (iMax (w64 (i + 1)) (-1099511627776))), (vi 1)]) (r := (.tup [(vi x1.1), (vb x1.2)])) rfl (gran_step_fn q1) rfl (.extract (v := (vi x1.1)) rfl rfl rfl (.extract (v := (vb x1.2)) rfl rfl rfl (.assign (v := (vi x1.1)) rfl rfl ?_)))
  refine .assign (v := (vb x1.2)) rfl rfl ?_
  apply Ops.nil
  replace H := H.all
  apply Runs.ret
  replace h := Option.some.inj h; subst h
  exact (Ends.H (xs := [(vi x1.1), (vb x1.2)]) (.inr rfl) H (.tmp (v := (vi x1.1)) rfl (.tmp (v := (vb x1.2)) rfl .nil)) (.two (.cons (.c (.v _)) (.cons (.c (.v _)) .nil))))

theorem spans_Ahead_fn {a : (List Span)} {b : (List Span)} {r : Bool} (h : spans_Ahead a b = some r) : Fn CX 73 [(vl Span.cs a), (vl Span.cs b)] (vb r) := by
 refine Fn.ends Try.func73 rfl rfl rfl rfl rfl rfl ?_
 have H : Hs (⟨0, fun _ => .none⟩ : Heap) [] := Has.nil (Nat.le_refl _)
 generalize (⟨0, fun _ => .none⟩ : Heap) = σ at H ⊢
 unfold spans_Ahead at h
 apply Runs.then
 refine .regionH 1 rfl H ?_; intro b1 σ H
 refine .assign (v := (vb false)) rfl rfl ?_
 apply Ops.nil
 replace H := H.all
 apply Runs.then
 refine .drawnH 23 rfl (by kernel_rfl) H ?_; intro b2 σ H B2
 refine .move (v := (vl Span.cs a)) rfl rfl (.lenPt (c := Span.cs) (xs := a) rfl rfl rfl (.int (m := (a.length : Int)) (m' := 0) (r := .bool ((a.length : Int) == 0)) rfl rfl rfl rfl rfl (.move (v := (vb ((a.length : Int) == 0))) rfl rfl ?_)))
 refine .mid 4 (K1 := fun e σ => EnvHas e [(12, (vb (((a.length : Int) == 0) || ((b.length : Int) == 0)))), (0, (vl Span.cs a)), (1, (vl Span.cs b))] ∧ Has σ (b2 + 8) (b2 + 23) []) rfl ?_ ?_
 ·refine .split rfl rfl ?_ ?_ <;> intro hc1
  ·skip
   refine .pass rfl rfl rfl (.pass rfl rfl rfl (.pass rfl rfl rfl (.pickT (v := (vb true)) rfl rfl rfl ?_)))
   apply Ops.nil
   exact ⟨⟨or_T hc1, rfl, rfl, trivial⟩, H.weak (by omega) (Nat.le_refl _)⟩
  ·skip
   refine .wanted rfl rfl (.move (v := (vl Span.cs b)) rfl rfl (.wanted rfl rfl (.lenPt (c := Span.cs) (xs := b) rfl rfl rfl ?_)))
   refine .wanted rfl rfl (.int (m := (b.length : Int)) (m' := 0) (r := .bool ((b.length : Int) == 0)) rfl rfl rfl rfl rfl (.pickF (v := (vb ((b.length : Int) == 0))) rfl rfl rfl ?_))
   apply Ops.nil
   exact ⟨⟨or_F hc1, rfl, rfl, trivial⟩, H.weak (by omega) (Nat.le_refl _)⟩
 ·rintro e σ ⟨he, H⟩
  obtain ⟨e, rfl⟩ := he.ex
  refine .move (v := (vb (((a.length : Int) == 0) || ((b.length : Int) == 0)))) rfl rfl ?_
  obtain ⟨y1, hj1, h⟩ := bind_some h
  refine .mid 13 (K1 := fun e σ => EnvHas e [(26, (vb y1))] ∧ Has σ (b2 + 22) (b2 + 23) []) rfl ?_ ?_
  ·refine .split rfl rfl ?_ ?_ <;> intro hc2
   ·replace h := cond_T hc2 hj1
    refine .pass rfl rfl rfl (.pass rfl rfl rfl (.pass rfl rfl rfl (.pass rfl rfl rfl ?_)))
    refine .pass rfl rfl rfl (.pass rfl rfl rfl (.pass rfl rfl rfl (.pass rfl rfl rfl ?_)))
    refine .pass rfl rfl rfl (.pass rfl rfl rfl (.pass rfl rfl rfl (.pass rfl rfl rfl ?_)))
    refine .pickT (v := (vb true)) rfl rfl rfl ?_
    apply Ops.nil
    replace h := Option.some.inj h; subst h
    exact ⟨⟨rfl, trivial⟩, H.weak (by omega) (Nat.le_refl _)⟩
   ·replace h := cond_F hc2 hj1
    refine .wanted rfl rfl (.move (v := (vl Span.cs a)) rfl rfl (.wanted rfl rfl (.move (v := (vl Span.cs a)) rfl rfl ?_)))
    refine .wanted rfl rfl (.lenPt (c := Span.cs) (xs := a) rfl rfl rfl (.wanted rfl rfl (.int (m := (a.length : Int)) (m' := 1) (r := .int .i64 (w64 ((a.length : Int) - 1))) rfl rfl rfl rfl rfl ?_)))
    refine .wanted rfl rfl ?_
    obtain ⟨x1, q1, h⟩ := bind_some h
    refine .indexP (c := Span.cs) (u := x1) rfl rfl q1 rfl rfl rfl rfl (.wanted rfl rfl (.fieldAddrP rfl rfl rfl rfl (.wanted rfl rfl ?_)))
    refine .loadP (u := (.int .i64 x1.To)) rfl rfl rfl rfl (.wanted rfl rfl (.move (v := (vl Span.cs b)) rfl rfl (.wanted rfl rfl ?_)))
    obtain ⟨x2, q2, h⟩ := bind_some h
    refine .indexP (c := Span.cs) (u := x2) rfl rfl q2 rfl rfl rfl rfl (.wanted rfl rfl (.fieldAddrP rfl rfl rfl rfl (.wanted rfl rfl ?_)))
    refine .loadP (u := (.int .i64 x2.From)) rfl rfl rfl rfl (.wanted rfl rfl (.int (m := x1.To) (m' := x2.From) (r := .bool (decide (x1.To < x2.From))) rfl rfl rfl rfl rfl (.pickF (v := (vb (decide (x1.To < x2.From)))) rfl rfl rfl ?_)))
    apply Ops.nil
    replace h := Option.some.inj h; subst h
    exact ⟨⟨rfl, trivial⟩, H.weak (by omega) (Nat.le_refl _)⟩
  ·rintro e σ ⟨he, H⟩
   obtain ⟨e, rfl⟩ := he.ex
   refine .assign (v := (vb y1)) rfl rfl ?_
   apply Ops.nil
   replace H := H.all
   apply Runs.ret
   replace h := Option.some.inj h; subst h
   exact (Ends.H (xs := [(vb y1)]) (.inr rfl) H (.tmp (v := (vb y1)) rfl .nil) (.one (.c (.v _))))

theorem gran_beside_fn {f : Form} {i : Int} {r : Bool} (h : gran_beside f i = some r) : Fn CX 51 [(.agg (vs (Form.cs f))), (vi i)] (vb r) := by
 refine Fn.ends Try.func51 rfl rfl rfl rfl rfl rfl ?_
 have H : Hs (⟨0, fun _ => .none⟩ : Heap) [] := Has.nil (Nat.le_refl _)
 generalize (⟨0, fun _ => .none⟩ : Heap) = σ at H ⊢
 unfold gran_beside at h
 apply Runs.then
 refine .regionH 2 rfl H ?_; intro b1 σ H
 refine .boxH (cs := (vF f)) H (by omega) (by omega) rfl rfl rfl ?_; intro σ H
 refine .assign (v := (vb false)) rfl rfl ?_
 apply Ops.nil
 replace H := H.all
 apply Runs.then
 refine .regionH 8 rfl H ?_; intro b2 σ H
 refine .loadHA (off := 0) (cs := (vF f)) H 0 rfl rfl rfl rfl rfl rfl rfl nofun rfl (.move (v := (vi i)) rfl rfl ?_)
 obtain ⟨x1, q1, h⟩ := bind_some h
 refine .call (ys := [(.agg (vF f)), (vi i)]) (r := (.tup [(vl Span.cs x1.1), (vi x1.2)])) rfl (gran_Get_fn q1) rfl (.move (v := (.tup [(vl Span.cs x1.1), (vi x1.2)])) rfl rfl (.extract (v := (vl Span.cs x1.1)) rfl rfl rfl (.extract (v := (vi x1.2)) rfl rfl rfl ?_)))
 refine .assign (v := (vl Span.cs x1.1)) rfl rfl (.assign (v := (vi x1.2)) rfl rfl ?_)
 apply Ops.nil
 replace H := H.all
 apply Runs.then
 apply Runs.then
 refine .regionH 2 rfl H ?_; intro b3 σ H
 refine .move (v := (vi x1.2)) rfl rfl (.int (m := x1.2) (m' := 0) (r := .bool (x1.2 != 0)) rfl rfl rfl rfl rfl ?_)
 apply Ops.nil
 replace H := H.all
 refine .whether (v := (x1.2 != 0)) rfl ?_ ?_ <;> intro hc1
 ·replace h := cond_T hc1 h
  apply Runs.then
  refine .regionH 1 rfl H ?_; intro b4 σ H
  refine .assign (v := (vb false)) rfl rfl ?_
  apply Ops.nil
  replace H := H.all
  apply Runs.ret
  replace h := Option.some.inj h; subst h
  exact (Ends.H (xs := [(vb false)]) (.inr rfl) H (.tmp (v := (vb false)) rfl .nil) (.one (.c (.v _))))
 ·replace h := cond_F hc1 h
  apply Runs.skip
  apply Runs.then
  refine .regionH 8 rfl H ?_; intro b5 σ H
  refine .loadHA (off := 0) (cs := (vF f)) H 0 rfl rfl rfl rfl rfl rfl rfl nofun rfl (.move (v := (vi i)) rfl rfl ?_)
  obtain ⟨x2, q2, h⟩ := bind_some h
  refine .call (ys := [(.agg (vF f)), (vi i)]) (r := (.tup [(vi x2.1), (vb x2.2)])) rfl (gran_Before_fn q2) rfl (.move (v := (.tup [(vi x2.1), (vb x2.2)])) rfl rfl (.extract (v := (vi x2.1)) rfl rfl rfl (.extract (v := (vb x2.2)) rfl rfl rfl ?_)))
  refine .assign (v := (vi x2.1)) rfl rfl (.assign (v := (vb x2.2)) rfl rfl ?_)
  apply Ops.nil
  replace H := H.all
  apply Runs.then
  refine .regionH 8 rfl H ?_; intro b6 σ H
  refine .loadHA (off := 0) (cs := (vF f)) H 0 rfl rfl rfl rfl rfl rfl rfl nofun rfl (.move (v := (vi i)) rfl rfl ?_)
  obtain ⟨x3, q3, h⟩ := bind_some h
  refine .call (ys := [(.agg (vF f)), (vi i)]) (r := (.tup [(vi x3.1), (vb x3.2)])) rfl (gran_Behind_fn q3) rfl (.move (v := (.tup [(vi x3.1), (vb x3.2)])) rfl rfl (.extract (v := (vi x3.1)) rfl rfl rfl (.extract (v := (vb x3.2)) rfl rfl rfl ?_)))
  refine .assign (v := (vi x3.1)) rfl rfl (.assign (v := (vb x3.2)) rfl rfl ?_)
  apply Ops.nil
  replace H := H.all
  apply Runs.then
  refine .regionH 2 rfl H ?_; intro b7 σ H
  refine .assign (v := .nils) rfl rfl (.assign (v := .nils) rfl rfl ?_)
  apply Ops.nil
  replace H := H.all
  apply Runs.then
  obtain ⟨y1, hj1, h⟩ := bind_some h
  refine .mono (Q := fun x e σ => (∃ a1, ∃ (w1 : PV), RO w1 (a1.map Span.cs) ∧ y1 = (.go a1) ∧ x = .normal ∧ EnvHas e [(2, (.ptr (b1 + 0) 4 0)), (5, (vl Span.cs x1.1)), (9, (vi x3.1)), (10, (vb x3.2)), (11, w1), (12, .nils)] ∧ Hs σ [.blk (b1 + 0) 25 (vF f)]) ∨ (∃ r', y1 = (.ret r') ∧ x = .ret ∧ Ends CX Try.f51.results.toList (vb r') x e σ)) ?_ ?_
  ·replace h := hj1
   apply Runs.then
   refine .regionH 1 rfl H ?_; intro b8 σ H
   refine .move (v := (vb x2.2)) rfl rfl ?_
   apply Ops.nil
   replace H := H.all
   refine .whether (v := x2.2) rfl ?_ ?_ <;> intro hc2
   ·replace h := cond_T hc2 h
    apply Runs.then
    refine .regionH 8 rfl H ?_; intro b9 σ H
    refine .loadHA (off := 0) (cs := (vF f)) H 0 rfl rfl rfl rfl rfl rfl rfl nofun rfl (.move (v := (vi x2.1)) rfl rfl ?_)
    obtain ⟨x4, q4, h⟩ := bind_some h
    refine .call (ys := [(.agg (vF f)), (vi x2.1)]) (r := (.tup [(vl Span.cs x4.1), (vi x4.2)])) rfl (gran_Get_fn q4) rfl (.move (v := (.tup [(vl Span.cs x4.1), (vi x4.2)])) rfl rfl (.extract (v := (vl Span.cs x4.1)) rfl rfl rfl (.extract (v := (vi x4.2)) rfl rfl rfl ?_)))
    refine .assign (v := (vl Span.cs x4.1)) rfl rfl (.assign (v := (vi x4.2)) rfl rfl ?_)
    apply Ops.nil
    replace H := H.all
    apply Runs.then
    refine .regionH 2 rfl H ?_; intro b10 σ H
    refine .move (v := (vi x4.2)) rfl rfl (.int (m := x4.2) (m' := 0) (r := .bool (x4.2 != 0)) rfl rfl rfl rfl rfl ?_)
    apply Ops.nil
    replace H := H.all
    refine .whether (v := (x4.2 != 0)) rfl ?_ ?_ <;> intro hc3
    ·replace h := cond_T hc3 h
     apply Runs.then
     refine .regionH 1 rfl H ?_; intro b11 σ H
     refine .assign (v := (vb false)) rfl rfl ?_
     apply Ops.nil
     replace H := H.all
     apply Runs.ret
     replace h := Option.some.inj h; subst h
     exact (.inr ⟨_, rfl, rfl, (Ends.H (xs := [(vb false)]) (.inr rfl) H (.tmp (v := (vb false)) rfl .nil) (.one (.c (.v _))))⟩)
    ·replace h := cond_F hc3 h
     apply Runs.skip
     replace h := Option.some.inj h; subst h
     exact (.inl ⟨_, (vl Span.cs x4.1), .inr rfl, rfl, rfl, ⟨rfl, rfl, rfl, rfl, rfl, rfl, trivial⟩, H⟩)
   ·replace h := cond_F hc2 h
    apply Runs.skip
    replace h := Option.some.inj h; subst h
    exact (.inl ⟨_, .nils, .inl ⟨rfl, rfl⟩, rfl, rfl, ⟨rfl, rfl, rfl, rfl, rfl, rfl, trivial⟩, H⟩)
  ·rintro x e σ (⟨a2, w2, hw2, rfl, rfl, he, H⟩ | ⟨r', rfl, rfl, hE⟩)
   ·skip
    replace h := jgo h
    obtain ⟨e, rfl⟩ := he.ex
    apply Runs.then
    obtain ⟨y2, hj2, h⟩ := bind_some h
    refine .mono (Q := fun x e σ => (∃ a3, ∃ (w3 : PV), RO w3 (a3.map Span.cs) ∧ y2 = (.go a3) ∧ x = .normal ∧ EnvHas e [(5, (vl Span.cs x1.1)), (11, w2), (12, w3)] ∧ Hs σ []) ∨ (∃ r', y2 = (.ret r') ∧ x = .ret ∧ Ends CX Try.f51.results.toList (vb r') x e σ)) ?_ ?_
    ·replace h := hj2
     apply Runs.then
     refine .regionH 1 rfl H ?_; intro b12 σ H
     refine .move (v := (vb x3.2)) rfl rfl ?_
     apply Ops.nil
     replace H := H.all
     refine .whether (v := x3.2) rfl ?_ ?_ <;> intro hc4
     ·replace h := cond_T hc4 h
      apply Runs.then
      refine .regionH 8 rfl H ?_; intro b13 σ H
      refine .loadHA (off := 0) (cs := (vF f)) H 0 rfl rfl rfl rfl rfl rfl rfl nofun rfl (.move (v := (vi x3.1)) rfl rfl ?_)
      obtain ⟨x5, q5, h⟩ := bind_some h
      refine .call (ys := [(.agg (vF f)), (vi x3.1)]) (r := (.tup [(vl Span.cs x5.1), (vi x5.2)])) rfl (gran_Get_fn q5) rfl (.move (v := (.tup [(vl Span.cs x5.1), (vi x5.2)])) rfl rfl (.extract (v := (vl Span.cs x5.1)) rfl rfl rfl (.extract (v := (vi x5.2)) rfl rfl rfl ?_)))
      refine .assign (v := (vl Span.cs x5.1)) rfl rfl (.assign (v := (vi x5.2)) rfl rfl ?_)
      apply Ops.nil
      replace H := H.all
      apply Runs.then
      refine .regionH 2 rfl H ?_; intro b14 σ H
      refine .move (v := (vi x5.2)) rfl rfl (.int (m := x5.2) (m' := 0) (r := .bool (x5.2 != 0)) rfl rfl rfl rfl rfl ?_)
      apply Ops.nil
      replace H := H.all
      refine .whether (v := (x5.2 != 0)) rfl ?_ ?_ <;> intro hc5
      ·replace h := cond_T hc5 h
       apply Runs.then
       refine .regionH 1 rfl H ?_; intro b15 σ H
       refine .assign (v := (vb false)) rfl rfl ?_
       apply Ops.nil
       replace H := H.all
       apply Runs.ret
       replace h := Option.some.inj h; subst h
       exact (.inr ⟨_, rfl, rfl, (Ends.H (xs := [(vb false)]) (.inr rfl) H (.tmp (v := (vb false)) rfl .nil) (.one (.c (.v _))))⟩)
      ·replace h := cond_F hc5 h
       apply Runs.skip
       replace h := Option.some.inj h; subst h
       exact (.inl ⟨_, (vl Span.cs x5.1), .inr rfl, rfl, rfl, ⟨rfl, rfl, rfl, trivial⟩, (H.erase 0)⟩)
     ·replace h := cond_F hc4 h
      apply Runs.skip
      replace h := Option.some.inj h; subst h
      exact (.inl ⟨_, .nils, .inl ⟨rfl, rfl⟩, rfl, rfl, ⟨rfl, rfl, rfl, trivial⟩, (H.erase 0)⟩)
    ·rintro x e σ (⟨a4, w4, hw4, rfl, rfl, he, H⟩ | ⟨r', rfl, rfl, hE⟩)
     ·skip
      replace h := jgo h
      obtain ⟨e, rfl⟩ := he.ex
      apply Runs.then
      refine .regionH 14 rfl H ?_; intro b16 σ H
      refine .move (v := w2) rfl rfl (.move (v := (vl Span.cs x1.1)) rfl rfl ?_)
      obtain ⟨x6, q6, h⟩ := bind_some h
      refine .callX (xs := [w2, (vl Span.cs x1.1)]) (ys := [(vl Span.cs a2), (vl Span.cs x1.1)]) H rfl (.cons (.c (.ro hw2)) (.cons (.c (.v _)) .nil)) (spans_Ahead_fn q6) rfl rfl nofun rfl ?_; intro σ H
      refine .move (v := (vb x6)) rfl rfl ?_
      obtain ⟨y3, hj3, h⟩ := bind_some h
      refine .mid 4 (K1 := fun e σ => EnvHas e [(58, (vb y3)), (11, w2), (12, w4)] ∧ Has σ (b16 + 8) (b16 + 14) []) rfl ?_ ?_
      ·refine .split rfl rfl ?_ ?_ <;> intro hc6
       ·replace h := cond_T hc6 hj3
        refine .wanted rfl rfl (.move (v := (vl Span.cs x1.1)) rfl rfl (.wanted rfl rfl (.move (v := w4) rfl rfl ?_)))
        refine .wanted rfl rfl ?_
        obtain ⟨x7, q7, h⟩ := bind_some h
        refine .callX (xs := [(vl Span.cs x1.1), w4]) (ys := [(vl Span.cs x1.1), (vl Span.cs a4)]) H rfl (.cons (.c (.v _)) (.cons (.c (.ro hw4)) .nil)) (spans_Ahead_fn q7) rfl rfl nofun rfl ?_; intro σ H
        refine .pickT (v := (vb x7)) rfl rfl rfl ?_
        apply Ops.nil
        replace h := Option.some.inj h; subst h
        exact ⟨⟨rfl, rfl, rfl, trivial⟩, H.weak (by omega) (Nat.le_refl _)⟩
       ·replace h := cond_F hc6 hj3
        refine .pass rfl rfl rfl (.pass rfl rfl rfl (.pass rfl rfl rfl (.pickF (v := (vb false)) rfl rfl rfl ?_)))
        apply Ops.nil
        replace h := Option.some.inj h; subst h
        exact ⟨⟨rfl, rfl, rfl, trivial⟩, H.weak (by omega) (Nat.le_refl _)⟩
      ·rintro e σ ⟨he, H⟩
       obtain ⟨e, rfl⟩ := he.ex
       refine .move (v := (vb y3)) rfl rfl ?_
       obtain ⟨y4, hj4, h⟩ := bind_some h
       refine .mid 4 (K1 := fun e σ => EnvHas e [(63, (vb y4))] ∧ Has σ (b16 + 13) (b16 + 14) []) rfl ?_ ?_
       ·refine .split rfl rfl ?_ ?_ <;> intro hc7
        ·replace h := cond_T hc7 hj4
         refine .wanted rfl rfl (.move (v := w2) rfl rfl (.wanted rfl rfl (.move (v := w4) rfl rfl ?_)))
         refine .wanted rfl rfl ?_
         obtain ⟨x8, q8, h⟩ := bind_some h
         refine .callX (xs := [w2, w4]) (ys := [(vl Span.cs a2), (vl Span.cs a4)]) H rfl (.cons (.c (.ro hw2)) (.cons (.c (.ro hw4)) .nil)) (spans_Ahead_fn q8) rfl rfl nofun rfl ?_; intro σ H
         refine .pickT (v := (vb x8)) rfl rfl rfl ?_
         apply Ops.nil
         replace h := Option.some.inj h; subst h
         exact ⟨⟨rfl, trivial⟩, H.weak (by omega) (Nat.le_refl _)⟩
        ·replace h := cond_F hc7 hj4
         refine .pass rfl rfl rfl (.pass rfl rfl rfl (.pass rfl rfl rfl (.pickF (v := (vb false)) rfl rfl rfl ?_)))
         apply Ops.nil
         replace h := Option.some.inj h; subst h
         exact ⟨⟨rfl, trivial⟩, H.weak (by omega) (Nat.le_refl _)⟩
       ·rintro e σ ⟨he, H⟩
        obtain ⟨e, rfl⟩ := he.ex
        refine .assign (v := (vb y4)) rfl rfl ?_
        apply Ops.nil
        replace H := H.all
        apply Runs.ret
        replace h := Option.some.inj h; subst h
        exact (Ends.H (xs := [(vb y4)]) (.inr rfl) H (.tmp (v := (vb y4)) rfl .nil) (.one (.c (.v _))))
     ·skip
      replace h := jret h
      replace h := Option.some.inj h; subst h
      exact hE
   ·skip
    replace h := jret h
    replace h := Option.some.inj h; subst h
    exact hE

theorem gran_Right_fn {f : Form} {r : Int} (h : gran_Right f = some r) : Fn CX 21 [(.agg (vs (Form.cs f)))] (vi r) := by
 refine Fn.ends Try.func21 rfl rfl rfl rfl rfl rfl ?_
 have H : Hs (⟨0, fun _ => .none⟩ : Heap) [] := Has.nil (Nat.le_refl _)
 generalize (⟨0, fun _ => .none⟩ : Heap) = σ at H ⊢
 unfold gran_Right at h
 apply Runs.then
 refine .regionH 2 rfl H ?_; intro b1 σ H
 refine .boxH (cs := (vF f)) H (by omega) (by omega) rfl rfl rfl ?_; intro σ H
 refine .assign (v := (vi 0)) rfl rfl ?_
 apply Ops.nil
 replace H := H.all
 apply Runs.then
 apply Runs.then
 refine .regionH 15 rfl H ?_; intro b2 σ H
 refine .fieldAddrH (off := 0) (fo := 2) H 0 rfl rfl rfl rfl rfl nofun rfl (.loadH (off := 2) (v := (vl (cL Span.cs) f.Core)) H 0 rfl rfl rfl rfl rfl nofun rfl (.lenPt (c := (cL Span.cs)) (xs := f.Core) rfl rfl rfl (.int (m := (f.Core.length : Int)) (m' := 6000) (r := .bool (decide ((f.Core.length : Int) > 6000))) rfl rfl rfl rfl rfl ?_)))
 refine .move (v := (vb (decide ((f.Core.length : Int) > 6000)))) rfl rfl ?_
 refine .mid 5 (K1 := fun e σ => EnvHas e [(14, (vb ((decide ((f.Core.length : Int) > 6000)) || (decide ((f.Odd.length : Int) > 6000))))), (1, (.ptr (b1 + 0) 4 0))] ∧ Has σ (b2 + 10) (b2 + 15) [.blk (b1 + 0) 25 (vF f)]) rfl ?_ ?_
 ·refine .split rfl rfl ?_ ?_ <;> intro hc1
  ·skip
   refine .pass rfl rfl rfl (.pass rfl rfl rfl (.pass rfl rfl rfl (.pass rfl rfl rfl ?_)))
   refine .pickT (v := (vb true)) rfl rfl rfl ?_
   apply Ops.nil
   exact ⟨⟨or_T hc1, rfl, trivial⟩, H.weak (by omega) (Nat.le_refl _)⟩
  ·skip
   refine .wanted rfl rfl (.fieldAddrH (off := 0) (fo := 3) H 0 rfl rfl rfl rfl rfl nofun rfl (.wanted rfl rfl (.loadH (off := 3) (v := (vl Granule.cs f.Odd)) H 0 rfl rfl rfl rfl rfl nofun rfl ?_)))
   refine .wanted rfl rfl (.lenPt (c := Granule.cs) (xs := f.Odd) rfl rfl rfl (.wanted rfl rfl (.int (m := (f.Odd.length : Int)) (m' := 6000) (r := .bool (decide ((f.Odd.length : Int) > 6000))) rfl rfl rfl rfl rfl ?_)))
   refine .pickF (v := (vb (decide ((f.Odd.length : Int) > 6000)))) rfl rfl rfl ?_
   apply Ops.nil
   exact ⟨⟨or_F hc1, rfl, trivial⟩, H.weak (by omega) (Nat.le_refl _)⟩
 ·rintro e σ ⟨he, H⟩
  obtain ⟨e, rfl⟩ := he.ex
  refine .move (v := (vb ((decide ((f.Core.length : Int) > 6000)) || (decide ((f.Odd.length : Int) > 6000))))) rfl rfl ?_
  obtain ⟨y1, hj1, h⟩ := bind_some h
  refine .mid 4 (K1 := fun e σ => EnvHas e [(19, (vb y1)), (1, (.ptr (b1 + 0) 4 0))] ∧ Has σ (b2 + 15) (b2 + 15) [.blk (b1 + 0) 25 (vF f)]) rfl ?_ ?_
  ·refine .split rfl rfl ?_ ?_ <;> intro hc2
   ·replace h := cond_T hc2 hj1
    refine .pass rfl rfl rfl (.pass rfl rfl rfl (.pass rfl rfl rfl (.pickT (v := (vb true)) rfl rfl rfl ?_)))
    apply Ops.nil
    replace h := Option.some.inj h; subst h
    exact ⟨⟨rfl, rfl, trivial⟩, H.weak (by omega) (Nat.le_refl _)⟩
   ·replace h := cond_F hc2 hj1
    refine .wanted rfl rfl (.loadHA (off := 0) (cs := (vF f)) H 0 rfl rfl rfl rfl rfl rfl rfl nofun rfl (.wanted rfl rfl ?_))
    obtain ⟨x1, q1, h⟩ := bind_some h
    refine .call (ys := [(.agg (vF f))]) (r := (vi x1)) rfl (gran_Size_fn q1) rfl (.wanted rfl rfl (.int (m := x1) (m' := 60000) (r := .bool (decide (x1 > 60000))) rfl rfl rfl rfl rfl (.pickF (v := (vb (decide (x1 > 60000)))) rfl rfl rfl ?_)))
    apply Ops.nil
    replace h := Option.some.inj h; subst h
    exact ⟨⟨rfl, rfl, trivial⟩, H.weak (by omega) (Nat.le_refl _)⟩
  ·rintro e σ ⟨he, H⟩
   obtain ⟨e, rfl⟩ := he.ex
   apply Ops.nil
   replace H := H.all
   refine .whether (v := y1) rfl ?_ ?_ <;> intro hc3
   ·replace h := cond_T hc3 h
    apply Runs.then
    refine .regionH 1 rfl H ?_; intro b3 σ H
    refine .assign (v := (vi 3)) rfl rfl ?_
    apply Ops.nil
    replace H := H.all
    apply Runs.ret
    replace h := Option.some.inj h; subst h
    exact (Ends.H (xs := [(vi 3)]) (.inr rfl) H (.tmp (v := (vi 3)) rfl .nil) (.one (.c (.v _))))
   ·replace h := cond_F hc3 h
    apply Runs.skip
    apply Runs.then
    apply Runs.then
    refine .regionH 8 rfl H ?_; intro b4 σ H
    refine .loadHA (off := 0) (cs := (vF f)) H 0 rfl rfl rfl rfl rfl rfl rfl nofun rfl ?_
    obtain ⟨x2, q2, h⟩ := bind_some h
    refine .call (ys := [(.agg (vF f))]) (r := (vb x2)) rfl (gran_shape_fn q2) rfl (.not (b := x2) rfl rfl (.move (v := (vb (!x2))) rfl rfl ?_))
    obtain ⟨y2, hj2, h⟩ := bind_some h
    refine .mid 4 (K1 := fun e σ => EnvHas e [(27, (vb y2)), (1, (.ptr (b1 + 0) 4 0))] ∧ Has σ (b4 + 8) (b4 + 8) [.blk (b1 + 0) 25 (vF f)]) rfl ?_ ?_
    ·refine .split rfl rfl ?_ ?_ <;> intro hc4
     ·replace h := cond_T hc4 hj2
      refine .pass rfl rfl rfl (.pass rfl rfl rfl (.pass rfl rfl rfl (.pickT (v := (vb true)) rfl rfl rfl ?_)))
      apply Ops.nil
      replace h := Option.some.inj h; subst h
      exact ⟨⟨rfl, rfl, trivial⟩, H.weak (by omega) (Nat.le_refl _)⟩
     ·replace h := cond_F hc4 hj2
      refine .wanted rfl rfl (.loadHA (off := 0) (cs := (vF f)) H 0 rfl rfl rfl rfl rfl rfl rfl nofun rfl (.wanted rfl rfl ?_))
      obtain ⟨x3, q3, h⟩ := bind_some h
      refine .call (ys := [(.agg (vF f))]) (r := (vb x3)) rfl (gran_turns_fn q3) rfl (.wanted rfl rfl (.not (b := x3) rfl rfl (.pickF (v := (vb (!x3))) rfl rfl rfl ?_)))
      apply Ops.nil
      replace h := Option.some.inj h; subst h
      exact ⟨⟨rfl, rfl, trivial⟩, H.weak (by omega) (Nat.le_refl _)⟩
    ·rintro e σ ⟨he, H⟩
     obtain ⟨e, rfl⟩ := he.ex
     apply Ops.nil
     replace H := H.all
     refine .whether (v := y2) rfl ?_ ?_ <;> intro hc5
     ·replace h := cond_T hc5 h
      apply Runs.then
      refine .regionH 1 rfl H ?_; intro b5 σ H
      refine .assign (v := (vi 50)) rfl rfl ?_
      apply Ops.nil
      replace H := H.all
      apply Runs.ret
      replace h := Option.some.inj h; subst h
      exact (Ends.H (xs := [(vi 50)]) (.inr rfl) H (.tmp (v := (vi 50)) rfl .nil) (.one (.c (.v _))))
     ·replace h := cond_F hc5 h
      apply Runs.skip
      apply Runs.then
      apply Runs.then
      refine .regionH 4 rfl H ?_; intro b6 σ H
      refine .fieldAddrH (off := 0) (fo := 3) H 0 rfl rfl rfl rfl rfl nofun rfl (.loadH (off := 3) (v := (vl Granule.cs f.Odd)) H 0 rfl rfl rfl rfl rfl nofun rfl (.lenPt (c := Granule.cs) (xs := f.Odd) rfl rfl rfl (.move (v := (vi 0)) rfl rfl ?_)))
      apply Ops.nil
      replace H := H.all
      apply Runs.inBlock
      obtain ⟨y3, hj3, h⟩ := bind_some h
      obtain ⟨n1, hj3⟩ := loopO_iff.1 hj3
      refine .mono (Runs.loopO hj3 (fun s1 e σ => EnvHas e [(1, (.ptr (b1 + 0) 4 0)), (29, (vl Granule.cs f.Odd)), (30, (vi (f.Odd.length : Int))), (31, (vi s1))] ∧ Hs σ [.blk (b1 + 0) 25 (vF f)]) (fun y3 x e σ => (∃ a1, y3 = (.go a1) ∧ x = .exit 0 ∧ EnvHas e [] ∧ Hs σ []) ∨ (∃ r', y3 = (.ret r') ∧ x = .ret ∧ Ends CX Try.f21.results.toList (vi r') x e σ)) ⟨⟨rfl, rfl, rfl, rfl, trivial⟩, H⟩ ?_) ?_
      ·intro s1 e σ hI z h
       obtain ⟨he, H⟩ := hI
       obtain ⟨e, rfl⟩ := he.ex
       unfold gran_Right.s0 at h
       apply Runs.then
       refine .regionH 1 rfl H ?_; intro b7 σ H
       refine .int (m := s1) (m' := (f.Odd.length : Int)) (r := .bool (decide (s1 < (f.Odd.length : Int)))) rfl rfl rfl rfl rfl ?_
       apply Ops.nil
       replace H := H.all
       apply Runs.then
       refine .whether (v := (decide (s1 < (f.Odd.length : Int)))) rfl ?_ ?_ <;> intro hc6
       ·replace h := cond_T hc6 h
        apply Runs.skip
        apply Runs.then
        apply Runs.inBlock
        apply Runs.then
        refine .regionH 4 rfl H ?_; intro b8 σ H
        obtain ⟨x4, q4, h⟩ := bind_some h
        refine .indexP (c := Granule.cs) (u := x4) rfl rfl q4 rfl rfl rfl rfl (.loadPA (cs := [(.int .i64 x4.Index), (.sl (x4.Ticks.map Span.cs))]) rfl rfl rfl rfl rfl rfl (.allocH (cs := [(vi 0), .nils]) H (by omega) (by omega) rfl rfl ?_)); intro σ H
        refine .storeH (off := 0) (cells' := [(vi x4.Index), (vl Span.cs x4.Ticks)]) H 0 rfl rfl rfl rfl rfl rfl rfl rfl rfl nofun ?_; intro σ H
        apply Ops.nil
        replace H := H.all
        apply Runs.then
        refine .regionH 5 rfl H ?_; intro b9 σ H
        refine .loadHA (off := 0) (cs := (vF f)) H 1 rfl rfl rfl rfl rfl rfl rfl nofun rfl (.fieldAddrH (off := 0) (fo := 0) H 0 rfl rfl rfl rfl rfl nofun rfl (.loadH (off := 0) (v := (vi x4.Index)) H 0 rfl rfl rfl rfl rfl nofun rfl ?_))
        obtain ⟨x5, q5, h⟩ := bind_some h
        refine .call (ys := [(.agg (vF f)), (vi x4.Index)]) (r := (vb x5)) rfl (gran_beside_fn q5) rfl (.not (b := x5) rfl rfl ?_)
        apply Ops.nil
        replace H := H.all
        refine .whether (v := (!x5)) rfl ?_ ?_ <;> intro hc7
        ·replace h := cond_T hc7 h
         apply Runs.then
         refine .regionH 1 rfl H ?_; intro b10 σ H
         refine .assign (v := (vi 50)) rfl rfl ?_
         apply Ops.nil
         replace H := H.all
         apply Runs.ret
         replace h := Option.some.inj h; subst h
         exact ⟨nofun, (.inr ⟨_, rfl, rfl, (Ends.H (xs := [(vi 50)]) (.inr rfl) H (.tmp (v := (vi 50)) rfl .nil) (.one (.c (.v _))))⟩)⟩
        ·replace h := cond_F hc7 h
         apply Runs.skip
         refine .regionH 2 rfl H ?_; intro b11 σ H
         refine .int (m := s1) (m' := 1) (r := .int .i64 (w64 (s1 + 1))) rfl rfl rfl rfl rfl (.move (v := (vi (w64 (s1 + 1)))) rfl rfl ?_)
         apply Ops.nil
         replace H := H.all
         replace h := Option.some.inj h; subst h
         exact ⟨rfl, ⟨rfl, rfl, rfl, rfl, trivial⟩, (H.erase 0)⟩
       ·replace h := cond_F hc6 h
        apply Runs.exit
        replace h := Option.some.inj h; subst h
        exact ⟨nofun, (.inl ⟨_, rfl, rfl, trivial, (H.erase 0)⟩)⟩
      ·rintro x e σ (⟨a2, rfl, rfl, he, H⟩ | ⟨r', rfl, rfl, hE⟩)
       ·skip
        replace h := jgo h
        obtain ⟨e, rfl⟩ := he.ex
        apply Runs.then
        refine .regionH 1 rfl H ?_; intro b12 σ H
        refine .assign (v := (vi 0)) rfl rfl ?_
        apply Ops.nil
        replace H := H.all
        apply Runs.ret
        replace h := Option.some.inj h; subst h
        exact (Ends.H (xs := [(vi 0)]) (.inr rfl) H (.tmp (v := (vi 0)) rfl .nil) (.one (.c (.v _))))
       ·skip
        replace h := jret h
        replace h := Option.some.inj h; subst h
        exact hE

theorem epactlaw05_Weeks_fn {r : Form} (h : epactlaw05_Weeks = r) : Fn CX 41 [] (.agg (vs (Form.cs r))) := by
 refine Fn.ends Try.func41 rfl rfl rfl rfl rfl rfl ?_
 have H : Hs (⟨0, fun _ => .none⟩ : Heap) [] := Has.nil (Nat.le_refl _)
 generalize (⟨0, fun _ => .none⟩ : Heap) = σ at H ⊢
 unfold epactlaw05_Weeks at h
 apply Runs.then
 refine .regionH 1 rfl H ?_; intro b1 σ H
 refine .allocH (cs := [(vi 0), (vi 0), .nils, .nils]) H (by omega) (by omega) rfl rfl ?_; intro σ H
 apply Ops.nil
 replace H := H.all
 apply Runs.then
 refine .regionH 5 rfl H ?_; intro b2 σ H
 refine .buildA (cs := [(vi 0), (vi 4)]) rfl rfl (.buildS (sz := 2) ([(Span.mk 0 4)].map Span.cs) H (by omega) (by omega) rfl rfl rfl rfl rfl rfl rfl rfl rfl ?_); intro σ H
 refine .buildSF (sz := 1) ([[(Span.mk 0 4)]].map (cL Span.cs)) H (by omega) (by omega) rfl rfl (.exp (.c (.s 0 rfl)) .nil) rfl rfl rfl rfl rfl rfl rfl nofun ?_; intro σ H
 refine .buildA (cs := [(vi 7), (vi 1), (.buf (b2 + 2) 1 1), .nils]) rfl rfl (.storeH (off := 0) (cells' := [(vi 7), (vi 1), (.buf (b2 + 2) 1 1), .nils]) H 2 rfl rfl rfl rfl rfl rfl rfl rfl rfl nofun ?_); intro σ H
 apply Ops.nil
 replace H := H.all
 apply Runs.ret
 subst h
 exact (Ends.H (xs := [(.agg [(vi 7), (vi 1), (.buf (b2 + 2) 1 1), .nils])]) (.inr rfl) H (.agg (cs := [(vi 7), (vi 1), (.buf (b2 + 2) 1 1), .nils]) (off := 0) 2 rfl rfl rfl rfl rfl rfl rfl .nil) (.one (.a (.cons (.v _) (.cons (.v _) (.cons (.s 0 rfl) (.cons .n .nil)))))))

theorem sort_Search_fn {n : Int} {f : Int → Option Bool} {C : List Res} {cv0 : PV} (hs0 : cv0.still = true) (hp0 : cv0.pure = true → C = []) (hf0 : ∀ z0 y, f z0 = some y → CloH CX cv0 [(vi z0)] (vb y) C) {r : Int} (h : sort_Search n f = some r) : FnH CX 45 [(vi n), cv0] (vi r) C := by
 refine FnH.of Try.func45 rfl rfl rfl rfl (all_t rfl (all_t hs0 all_nil)) rfl (fun h => hp0 (all_get h 1 rfl)) ?_
 intro σ L hC H
 unfold sort_Search at h
 apply Runs.then
 refine .regionH 1 rfl H ?_; intro b1 σ H
 refine .assign (v := (vi 0)) rfl rfl ?_
 apply Ops.nil
 replace H := H.all
 apply Runs.then
 refine .regionH 3 rfl H ?_; intro b2 σ H
 refine .move (v := (vi n)) rfl rfl (.assign (v := (vi 0)) rfl rfl (.assign (v := (vi n)) rfl rfl ?_))
 apply Ops.nil
 replace H := H.all
 apply Runs.then
 apply Runs.inBlock
 obtain ⟨y1, hj1, h⟩ := bind_some h
 obtain ⟨n1, hj1⟩ := loopO_iff.1 hj1
 refine .mono (Runs.loopO hj1 (fun s1 e σ => EnvHas e [(1, cv0), (5, (vi s1.1)), (6, (vi s1.2))] ∧ Hs σ (L)) (fun y1 x e σ => x = .exit 0 ∧ EnvHas e [(5, (vi y1))] ∧ Hs σ (L)) ⟨⟨rfl, rfl, rfl, trivial⟩, H⟩ ?_) ?_
 ·intro s1 e σ hI z h
  obtain ⟨he, H⟩ := hI
  obtain ⟨e, rfl⟩ := he.ex
  unfold sort_Search.s0 at h
  apply Runs.then
  apply Runs.then
  refine .regionH 3 rfl H ?_; intro b3 σ H
  refine .move (v := (vi s1.1)) rfl rfl (.move (v := (vi s1.2)) rfl rfl (.int (m := s1.1) (m' := s1.2) (r := .bool (decide (s1.1 < s1.2))) rfl rfl rfl rfl rfl ?_))
  apply Ops.nil
  replace H := H.all
  refine .whether (v := (decide (s1.1 < s1.2))) rfl ?_ ?_ <;> intro hc1
  ·replace h := cond_T hc1 h
   apply Runs.skip
   apply Runs.inBlock
   obtain ⟨y2, hj2, h⟩ := bind_some h
   refine .mono (Q := fun x e σ => x = .normal ∧ EnvHas e [(1, cv0), (5, (vi y2.1)), (6, (vi y2.2))] ∧ Hs σ (L)) ?_ ?_
   ·replace h := hj2
    apply Runs.then
    refine .regionH 7 rfl H ?_; intro b4 σ H
    refine .move (v := (vi s1.1)) rfl rfl (.move (v := (vi s1.2)) rfl rfl (.int (m := s1.1) (m' := s1.2) (r := .int .i64 (w64 (s1.1 + s1.2))) rfl rfl rfl rfl rfl (.conv (m := (w64 (s1.1 + s1.2))) rfl rfl rfl rfl ?_)))
    refine .shr (m := (IntKind.u64.wrap (w64 (s1.1 + s1.2)))) (m' := 1) rfl rfl (by decide) rfl (.conv (m := ((IntKind.u64.wrap (w64 (s1.1 + s1.2))).fdiv (2 ^ 1))) rfl rfl rfl rfl (.assign (v := (vi (w64 ((IntKind.u64.wrap (w64 (s1.1 + s1.2))).fdiv (2 ^ 1))))) rfl rfl ?_))
    apply Ops.nil
    replace H := H.all
    apply Runs.then
    refine .regionH 4 rfl H ?_; intro b5 σ H
    refine .move (v := cv0) rfl rfl (.move (v := (vi (w64 ((IntKind.u64.wrap (w64 (s1.1 + s1.2))).fdiv (2 ^ 1))))) rfl rfl ?_)
    obtain ⟨x1, q1, h⟩ := bind_some h
    refine .callV (cv := cv0) (ys := [(vi (w64 ((IntKind.u64.wrap (w64 (s1.1 + s1.2))).fdiv (2 ^ 1))))]) (r := (vb x1)) H rfl rfl (hf0 (w64 ((IntKind.u64.wrap (w64 (s1.1 + s1.2))).fdiv (2 ^ 1))) _ q1) hC nofun rfl ?_; intro σ H
    refine .not (b := x1) rfl rfl ?_
    apply Ops.nil
    replace H := H.all
    refine .whether (v := (!x1)) rfl ?_ ?_ <;> intro hc2
    ·replace h := cond_T hc2 h
     refine .regionH 3 rfl H ?_; intro b6 σ H
     refine .move (v := (vi (w64 ((IntKind.u64.wrap (w64 (s1.1 + s1.2))).fdiv (2 ^ 1))))) rfl rfl (.int (m := (w64 ((IntKind.u64.wrap (w64 (s1.1 + s1.2))).fdiv (2 ^ 1)))) (m' := 1) (r := .int .i64 (w64 ((w64 ((IntKind.u64.wrap (w64 (s1.1 + s1.2))).fdiv (2 ^ 1))) + 1))) rfl rfl rfl rfl rfl (.assign (v := (vi (w64 ((w64 ((IntKind.u64.wrap (w64 (s1.1 + s1.2))).fdiv (2 ^ 1))) + 1)))) rfl rfl ?_))
     apply Ops.nil
     replace H := H.all
     replace h := Option.some.inj h; subst h
     exact ⟨rfl, ⟨rfl, rfl, rfl, trivial⟩, H⟩
    ·replace h := cond_F hc2 h
     refine .regionH 2 rfl H ?_; intro b7 σ H
     refine .move (v := (vi (w64 ((IntKind.u64.wrap (w64 (s1.1 + s1.2))).fdiv (2 ^ 1))))) rfl rfl (.assign (v := (vi (w64 ((IntKind.u64.wrap (w64 (s1.1 + s1.2))).fdiv (2 ^ 1))))) rfl rfl ?_)
     apply Ops.nil
     replace H := H.all
     replace h := Option.some.inj h; subst h
     exact ⟨rfl, ⟨rfl, rfl, rfl, trivial⟩, H⟩
   ·rintro x e σ ⟨rfl, he, H⟩
    obtain ⟨e, rfl⟩ := he.ex
    replace h := Option.some.inj h; subst h
    exact ⟨rfl, ⟨rfl, rfl, rfl, trivial⟩, H⟩
  ·replace h := cond_F hc1 h
   apply Runs.exit
   replace h := Option.some.inj h; subst h
   exact ⟨nofun, ⟨rfl, ⟨rfl, trivial⟩, H⟩⟩
 ·rintro x e σ ⟨rfl, he, H⟩
  obtain ⟨e, rfl⟩ := he.ex
  apply Runs.then
  refine .regionH 2 rfl H ?_; intro b8 σ H
  refine .move (v := (vi y1)) rfl rfl (.assign (v := (vi y1)) rfl rfl ?_)
  apply Ops.nil
  replace H := H.all
  apply Runs.ret
  replace h := Option.some.inj h; subst h
  exact (EndsH.H (xs := [(vi y1)]) (.inr rfl) H (.tmp (v := (vi y1)) rfl .nil) (.one (.c (.v _))) 0 rfl)

theorem size_inRange_fn {k : Int} {r : Bool} (h : size_inRange k = r) : Fn CX 58 [(vi k)] (vb r) := by
 refine Fn.ends Try.func58 rfl rfl rfl rfl rfl rfl ?_
 have H : Hs (⟨0, fun _ => .none⟩ : Heap) [] := Has.nil (Nat.le_refl _)
 generalize (⟨0, fun _ => .none⟩ : Heap) = σ at H ⊢
 unfold size_inRange at h
 apply Runs.then
 refine .regionH 1 rfl H ?_; intro b1 σ H
 refine .assign (v := (vb false)) rfl rfl ?_
 apply Ops.nil
 replace H := H.all
 apply Runs.then
 refine .regionH 7 rfl H ?_; intro b2 σ H
 refine .move (v := (vi k)) rfl rfl (.int (m := k) (m' := (-1099511627776)) (r := .bool (decide (k ≥ (-1099511627776)))) rfl rfl rfl rfl rfl (.move (v := (vb (decide (k ≥ (-1099511627776))))) rfl rfl ?_))
 refine .mid 3 (K1 := fun e σ => EnvHas e [(8, (vb ((decide (k ≥ (-1099511627776))) && (decide (k ≤ 1099511627776)))))] ∧ Has σ (b2 + 6) (b2 + 7) []) rfl ?_ ?_
 ·refine .split rfl rfl ?_ ?_ <;> intro hc1
  ·skip
   refine .wanted rfl rfl (.move (v := (vi k)) rfl rfl (.wanted rfl rfl (.int (m := k) (m' := 1099511627776) (r := .bool (decide (k ≤ 1099511627776))) rfl rfl rfl rfl rfl ?_)))
   refine .pickT (v := (vb (decide (k ≤ 1099511627776)))) rfl rfl rfl ?_
   apply Ops.nil
   exact ⟨⟨and_T hc1, trivial⟩, H.weak (by omega) (Nat.le_refl _)⟩
  ·skip
   refine .pass rfl rfl rfl (.pass rfl rfl rfl (.pickF (v := (vb false)) rfl rfl rfl ?_))
   apply Ops.nil
   exact ⟨⟨and_F hc1, trivial⟩, H.weak (by omega) (Nat.le_refl _)⟩
 ·rintro e σ ⟨he, H⟩
  obtain ⟨e, rfl⟩ := he.ex
  refine .assign (v := (vb ((decide (k ≥ (-1099511627776))) && (decide (k ≤ 1099511627776))))) rfl rfl ?_
  apply Ops.nil
  replace H := H.all
  apply Runs.ret
  subst h
  exact (Ends.H (xs := [(vb ((decide (k ≥ (-1099511627776))) && (decide (k ≤ 1099511627776))))]) (.inr rfl) H (.tmp (v := (vb ((decide (k ≥ (-1099511627776))) && (decide (k ≤ 1099511627776))))) rfl .nil) (.one (.c (.v _))))

theorem canon_bare_1_fn {l : (List Span)} {r : Bool} (h : canon_bare_1 l = r) : Fn CX 117 [(vl Span.cs l)] (vb r) := by
 refine Fn.ends Try.func117 rfl rfl rfl rfl rfl rfl ?_
 have H : Hs (⟨0, fun _ => .none⟩ : Heap) [] := Has.nil (Nat.le_refl _)
 generalize (⟨0, fun _ => .none⟩ : Heap) = σ at H ⊢
 unfold canon_bare_1 at h
 apply Runs.then
 refine .regionH 1 rfl H ?_; intro b1 σ H
 refine .assign (v := (vb false)) rfl rfl ?_
 apply Ops.nil
 replace H := H.all
 apply Runs.then
 refine .regionH 4 rfl H ?_; intro b2 σ H
 refine .move (v := (vl Span.cs l)) rfl rfl (.lenPt (c := Span.cs) (xs := l) rfl rfl rfl (.int (m := (l.length : Int)) (m' := 0) (r := .bool (decide ((l.length : Int) > 0))) rfl rfl rfl rfl rfl (.assign (v := (vb (decide ((l.length : Int) > 0)))) rfl rfl ?_)))
 apply Ops.nil
 replace H := H.all
 apply Runs.ret
 subst h
 exact (Ends.H (xs := [(vb (decide ((l.length : Int) > 0)))]) (.inr rfl) H (.tmp (v := (vb (decide ((l.length : Int) > 0)))) rfl .nil) (.one (.c (.v _))))

theorem canon_bare_fn {f : Form} {r : Bool} (h : canon_bare f = some r) : Fn CX 91 [(.agg (vs (Form.cs f)))] (vb r) := by
 refine Fn.ends Try.func91 rfl rfl rfl rfl rfl rfl ?_
 have H : Hs (⟨0, fun _ => .none⟩ : Heap) [] := Has.nil (Nat.le_refl _)
 generalize (⟨0, fun _ => .none⟩ : Heap) = σ at H ⊢
 unfold canon_bare at h
 apply Runs.then
 refine .regionH 2 rfl H ?_; intro b1 σ H
 refine .boxH (cs := (vF f)) H (by omega) (by omega) rfl rfl rfl ?_; intro σ H
 refine .assign (v := (vb false)) rfl rfl ?_
 apply Ops.nil
 replace H := H.all
 apply Runs.then
 refine .regionH 5 rfl H ?_; intro b2 σ H
 refine .fieldAddrH (off := 0) (fo := 2) H 0 rfl rfl rfl rfl rfl nofun rfl (.loadH (off := 2) (v := (vl (cL Span.cs) f.Core)) H 0 rfl rfl rfl rfl rfl nofun rfl ?_)
 obtain ⟨x1, q1, h⟩ := bind_some h
 refine .callH (ys := [(vl (cL Span.cs) f.Core), (.v (.fn 117))]) (r := (vb x1)) H rfl (slices_ContainsFunc_SSSpan_SSpan_fn (C := []) rfl (fun _ => rfl) (fun z0 y hz => (CloH.fn (Fn.toH (canon_bare_1_fn (Option.some.inj hz)) _))) q1) .nil nofun rfl ?_; intro σ H
 refine .not (b := x1) rfl rfl (.assign (v := (vb (!x1))) rfl rfl ?_)
 apply Ops.nil
 replace H := H.all
 apply Runs.ret
 replace h := Option.some.inj h; subst h
 exact (Ends.H (xs := [(vb (!x1))]) (.inr rfl) H (.tmp (v := (vb (!x1))) rfl .nil) (.one (.c (.v _))))

theorem canon_divisors_fn {n : Int} {σ : Heap} {lo hi : Nat} {L : List Res} (H : Has σ lo hi L) : ∃ r σ', callL CX (.fn 92) [(vi n)] σ = some (r, σ') ∧ ∃ i0' : Nat, r = (.clo 118 [] [(.ptr i0' 1 0)]) ∧ Hs σ' (.blk i0' 3 [(vi n)] :: L) := by
 refine callO_of (Post := fun r σ' => ∃ i0' : Nat, r = (.clo 118 [] [(.ptr i0' 1 0)]) ∧ Hs σ' (.blk i0' 3 [(vi n)] :: L)) Try.func92 rfl rfl rfl rfl rfl rfl ?_
 replace H := H.all
 apply Runs.then
 refine .regionH 2 rfl H ?_; intro b1 σ H
 refine .boxH (cs := [(vi n)]) H (by omega) (by omega) rfl rfl rfl ?_; intro σ H
 refine .assign (v := (.v .nilf)) rfl rfl ?_
 apply Ops.nil
 replace H := H.all
 apply Runs.then
 refine .regionH 2 rfl H ?_; intro b2 σ H
 refine .makeClo (fs := []) (cs := [(.ptr (b1 + 0) 1 0)]) rfl rfl rfl rfl (.assign (v := (.clo 118 [] [(.ptr (b1 + 0) 1 0)])) rfl rfl ?_)
 apply Ops.nil
 replace H := H.all
 apply Runs.ret
 exact ⟨.inr rfl, [(.clo 118 [] [(.ptr (b1 + 0) 1 0)])], resD_ok H (.tmp (v := (.clo 118 [] [(.ptr (b1 + 0) 1 0)])) rfl .nil), (b1 + 0), rfl, H.all⟩

theorem canon_divisors_1_fn {p1' : Int} {S : Type} {C : S → List Res → Prop} {yield : S → Int → Option (S × Bool)} {yid : Nat} {id0' : Nat} (hy : YldH CX yid C (fun z => [(vi z)]) yield) (hcap : ∀ s L, C s L → Sub [.blk id0' 3 [(vi p1')]] L) {st' r : S} (h : canon_divisors_1 p1' yield st' = some r) : ItF CX 118 [(.yld yid), (.ptr id0' 1 0)] C st' r := by
 refine ItF.of Try.func118 rfl rfl rfl rfl rfl rfl rfl rfl ?_
 intro σ L hC H
 have hc0 := hcap _ _ hC
 obtain ⟨k0', hk0', hc0⟩ := hc0.inv
 unfold canon_divisors_1 at h
 apply Runs.then
 refine .regionH 1 rfl H ?_; intro b1 σ H
 refine .assign (v := (vi 1)) rfl rfl ?_
 apply Ops.nil
 replace H := H.all
 apply Runs.inBlock
 obtain ⟨y1, hj1, h⟩ := bind_some h
 obtain ⟨n1, hj1⟩ := loopO_iff.1 hj1
 refine .mono (Runs.loopO hj1 (fun s1 e σ => ∃ (L : List Res), C s1.2 L ∧ EnvHas e [(0, (.yld yid)), (1, (.ptr id0' 1 0)), (3, (vi s1.1))] ∧ Hs σ (L)) (fun y1 x e σ => (∃ a1, ∃ (L : List Res), C a1 L ∧ y1 = (.go a1) ∧ x = .exit 0 ∧ EnvHas e [] ∧ Hs σ (L)) ∨ (∃ r', y1 = (.ret r') ∧ x = .ret ∧ EndsI C r' x e σ)) ⟨_, hC, ⟨rfl, rfl, rfl, trivial⟩, H⟩ ?_) ?_
 ·intro s1 e σ hI z h
  obtain ⟨L, hC, he, H⟩ := hI
  obtain ⟨e, rfl⟩ := he.ex
  have hc0 := hcap _ _ hC
  obtain ⟨k0', hk0', hc0⟩ := hc0.inv
  unfold canon_divisors_1.s0 at h
  apply Runs.then
  apply Runs.then
  refine .regionH 3 rfl H ?_; intro b2 σ H
  refine .move (v := (vi s1.1)) rfl rfl (.loadH (off := 0) (v := (vi p1')) H k0' hk0' rfl rfl rfl rfl nofun rfl (.int (m := s1.1) (m' := p1') (r := .bool (decide (s1.1 ≤ p1'))) rfl rfl rfl rfl rfl ?_))
  apply Ops.nil
  replace H := H.all
  refine .whether (v := (decide (s1.1 ≤ p1'))) rfl ?_ ?_ <;> intro hc1
  ·replace h := cond_T hc1 h
   apply Runs.skip
   apply Runs.then
   apply Runs.inBlock
   apply Runs.then
   refine .regionH 10 rfl H ?_; intro b3 σ H
   refine .loadH (off := 0) (v := (vi p1')) H k0' hk0' rfl rfl rfl rfl nofun rfl (.move (v := (vi s1.1)) rfl rfl ?_)
   obtain ⟨u1, q1, h⟩ := bind_some h
   refine .rem (m := p1') (m' := s1.1) rfl rfl (nz_ne q1) rfl (.int (m := (p1'.tmod s1.1)) (m' := 0) (r := .bool ((p1'.tmod s1.1) == 0)) rfl rfl rfl rfl rfl (.move (v := (vb ((p1'.tmod s1.1) == 0))) rfl rfl ?_))
   obtain ⟨y2, hj2, h⟩ := bind_some h
   refine .mid 5 (K1 := fun e σ => ∃ L, C y2.2 L ∧ EnvHas e [(18, (vb y2.1)), (0, (.yld yid)), (1, (.ptr id0' 1 0)), (3, (vi s1.1))] ∧ Hs σ (L)) rfl ?_ ?_
   ·refine .split rfl rfl ?_ ?_ <;> intro hc2
    ·replace h := cond_T hc2 hj2
     refine .wanted rfl rfl (.move (v := (.yld yid)) rfl rfl (.wanted rfl rfl (.move (v := (vi s1.1)) rfl rfl ?_)))
     refine .wanted rfl rfl ?_
     obtain ⟨x1, q2, h⟩ := bind_some h
     refine .callY (z := s1.1) (s' := x1.1) (b := x1.2) [] H hC rfl rfl hy q2 rfl rfl ?_; intro σ L hC H
     have hc0 := hcap _ _ hC
     obtain ⟨k0', hk0', hc0⟩ := hc0.inv
     refine .wanted rfl rfl (.not (b := x1.2) rfl rfl (.pickT (v := (vb (!x1.2))) rfl rfl rfl ?_))
     apply Ops.nil
     replace h := Option.some.inj h; subst h
     exact ⟨_, hC, ⟨rfl, rfl, rfl, rfl, trivial⟩, H.all⟩
    ·replace h := cond_F hc2 hj2
     refine .pass rfl rfl rfl (.pass rfl rfl rfl (.pass rfl rfl rfl (.pass rfl rfl rfl ?_)))
     refine .pickF (v := (vb false)) rfl rfl rfl ?_
     apply Ops.nil
     replace h := Option.some.inj h; subst h
     exact ⟨_, hC, ⟨rfl, rfl, rfl, rfl, trivial⟩, H.all⟩
   ·rintro e σ ⟨L, hC, he, H⟩
    obtain ⟨e, rfl⟩ := he.ex
    have hc0 := hcap _ _ hC
    obtain ⟨k0', hk0', hc0⟩ := hc0.inv
    apply Ops.nil
    replace H := H.all
    refine .whether (v := y2.1) rfl ?_ ?_ <;> intro hc3
    ·replace h := cond_T hc3 h
     apply Runs.ret
     replace h := Option.some.inj h; subst h
     exact ⟨nofun, (.inr ⟨_, rfl, rfl, (EndsI.H (.inr rfl) H 0 rfl hC)⟩)⟩
    ·replace h := cond_F hc3 h
     apply Runs.skip
     refine .regionH 3 rfl H ?_; intro b4 σ H
     refine .move (v := (vi s1.1)) rfl rfl (.int (m := s1.1) (m' := 1) (r := .int .i64 (w64 (s1.1 + 1))) rfl rfl rfl rfl rfl (.assign (v := (vi (w64 (s1.1 + 1)))) rfl rfl ?_))
     apply Ops.nil
     replace H := H.all
     replace h := Option.some.inj h; subst h
     exact ⟨rfl, _, hC, ⟨rfl, rfl, rfl, trivial⟩, H⟩
  ·replace h := cond_F hc1 h
   apply Runs.exit
   replace h := Option.some.inj h; subst h
   exact ⟨nofun, (.inl ⟨_, _, hC, rfl, rfl, trivial, H⟩)⟩
 ·rintro x e σ (⟨a2, L, hC, rfl, rfl, he, H⟩ | ⟨r', rfl, rfl, hE⟩)
  ·skip
   replace h := jgo h
   obtain ⟨e, rfl⟩ := he.ex
   have hc0 := hcap _ _ hC
   obtain ⟨k0', hk0', hc0⟩ := hc0.inv
   replace h := Option.some.inj h; subst h
   exact (EndsI.H (.inl rfl) H 0 rfl hC)
  ·skip
   replace h := jret h
   replace h := Option.some.inj h; subst h
   exact hE

theorem slices_EqualFunc_SSpan_SSpan_Span_Span_fn {s1' : (List Span)} {s2' : (List Span)} {eq : Span → Span → Option Bool} {C : List Res} {cv0 : PV} (hs0 : cv0.still = true) (hp0 : cv0.pure = true → C = []) (hf0 : ∀ z0 z1 y, eq z0 z1 = some y → CloH CX cv0 [(.agg (vs (Span.cs z0))), (.agg (vs (Span.cs z1)))] (vb y) C) {r : Bool} (h : slices_EqualFunc_SSpan_SSpan_Span_Span s1' s2' eq = some r) : FnH CX 132 [(vl Span.cs s1'), (vl Span.cs s2'), cv0] (vb r) C := by
 refine FnH.of Try.func132 rfl rfl rfl rfl (all_t rfl (all_t rfl (all_t hs0 all_nil))) rfl (fun h => hp0 (all_get h 2 rfl)) ?_
 intro σ L hC H
 unfold slices_EqualFunc_SSpan_SSpan_Span_Span at h
 apply Runs.then
 refine .regionH 1 rfl H ?_; intro b1 σ H
 refine .assign (v := (vb false)) rfl rfl ?_
 apply Ops.nil
 replace H := H.all
 apply Runs.then
 apply Runs.then
 refine .regionH 5 rfl H ?_; intro b2 σ H
 refine .move (v := (vl Span.cs s1')) rfl rfl (.lenPt (c := Span.cs) (xs := s1') rfl rfl rfl (.move (v := (vl Span.cs s2')) rfl rfl (.lenPt (c := Span.cs) (xs := s2') rfl rfl rfl ?_)))
 refine .int (m := (s1'.length : Int)) (m' := (s2'.length : Int)) (r := .bool ((s1'.length : Int) != (s2'.length : Int))) rfl rfl rfl rfl rfl ?_
 apply Ops.nil
 replace H := H.all
 refine .whether (v := ((s1'.length : Int) != (s2'.length : Int))) rfl ?_ ?_ <;> intro hc1
 ·replace h := cond_T hc1 h
  apply Runs.then
  refine .regionH 1 rfl H ?_; intro b3 σ H
  refine .assign (v := (vb false)) rfl rfl ?_
  apply Ops.nil
  replace H := H.all
  apply Runs.ret
  replace h := Option.some.inj h; subst h
  exact (EndsH.H (xs := [(vb false)]) (.inr rfl) H (.tmp (v := (vb false)) rfl .nil) (.one (.c (.v _))) 0 rfl)
 ·replace h := cond_F hc1 h
  apply Runs.skip
  apply Runs.then
  apply Runs.then
  refine .regionH 3 rfl H ?_; intro b4 σ H
  refine .move (v := (vl Span.cs s1')) rfl rfl (.lenPt (c := Span.cs) (xs := s1') rfl rfl rfl (.move (v := (vi 0)) rfl rfl ?_))
  apply Ops.nil
  replace H := H.all
  apply Runs.inBlock
  obtain ⟨y1, hj1, h⟩ := bind_some h
  obtain ⟨n1, hj1⟩ := loopO_iff.1 hj1
  refine .mono (Runs.loopO hj1 (fun s1 e σ => EnvHas e [(1, (vl Span.cs s2')), (2, cv0), (15, (vl Span.cs s1')), (16, (vi (s1'.length : Int))), (17, (vi s1))] ∧ Hs σ (L)) (fun y1 x e σ => (∃ a1, y1 = (.go a1) ∧ x = .exit 0 ∧ EnvHas e [] ∧ Hs σ (L)) ∨ (∃ r', y1 = (.ret r') ∧ x = .ret ∧ EndsH CX Try.f132.results.toList (vb r') L x e σ)) ⟨⟨rfl, rfl, rfl, rfl, rfl, trivial⟩, H⟩ ?_) ?_
  ·intro s1 e σ hI z h
   obtain ⟨he, H⟩ := hI
   obtain ⟨e, rfl⟩ := he.ex
   unfold slices_EqualFunc_SSpan_SSpan_Span_Span.s0 at h
   apply Runs.then
   refine .regionH 1 rfl H ?_; intro b5 σ H
   refine .int (m := s1) (m' := (s1'.length : Int)) (r := .bool (decide (s1 < (s1'.length : Int)))) rfl rfl rfl rfl rfl ?_
   apply Ops.nil
   replace H := H.all
   apply Runs.then
   refine .whether (v := (decide (s1 < (s1'.length : Int)))) rfl ?_ ?_ <;> intro hc2
   ·replace h := cond_T hc2 h
    apply Runs.skip
    apply Runs.then
    apply Runs.inBlock
    apply Runs.then
    refine .regionH 6 rfl H ?_; intro b6 σ H
    refine .move (v := (vi s1)) rfl rfl ?_
    obtain ⟨x1, q1, h⟩ := bind_some h
    refine .indexP (c := Span.cs) (u := x1) rfl rfl q1 rfl rfl rfl rfl (.loadPA (cs := [(.int .i64 x1.From), (.int .i64 x1.To)]) rfl rfl rfl rfl rfl rfl (.allocH (cs := [(vi 0), (vi 0)]) H (by omega) (by omega) rfl rfl ?_)); intro σ H
    refine .assign (v := (vi s1)) rfl rfl (.storeH (off := 0) (cells' := [(vi x1.From), (vi x1.To)]) H 0 rfl rfl rfl rfl rfl rfl rfl rfl rfl nofun ?_); intro σ H
    apply Ops.nil
    replace H := H.all
    apply Runs.then
    refine .regionH 6 rfl H ?_; intro b7 σ H
    refine .move (v := (vl Span.cs s2')) rfl rfl (.move (v := (vi s1)) rfl rfl ?_)
    obtain ⟨x2, q2, h⟩ := bind_some h
    refine .indexP (c := Span.cs) (u := x2) rfl rfl q2 rfl rfl rfl rfl (.loadPA (cs := [(.int .i64 x2.From), (.int .i64 x2.To)]) rfl rfl rfl rfl rfl rfl (.allocH (cs := [(vi 0), (vi 0)]) H (by omega) (by omega) rfl rfl ?_)); intro σ H
    refine .storeH (off := 0) (cells' := [(vi x2.From), (vi x2.To)]) H 0 rfl rfl rfl rfl rfl rfl rfl rfl rfl nofun ?_; intro σ H
    apply Ops.nil
    replace H := H.all
    apply Runs.then
    refine .regionH 5 rfl H ?_; intro b8 σ H
    refine .move (v := cv0) rfl rfl (.loadHA (off := 0) (cs := [(vi x1.From), (vi x1.To)]) H 1 rfl rfl rfl rfl rfl rfl rfl nofun rfl (.loadHA (off := 0) (cs := [(vi x2.From), (vi x2.To)]) H 0 rfl rfl rfl rfl rfl rfl rfl nofun rfl ?_))
    obtain ⟨x3, q3, h⟩ := bind_some h
    refine .callV (cv := cv0) (ys := [(.agg (vs (Span.cs x1))), (.agg (vs (Span.cs x2)))]) (r := (vb x3)) H rfl rfl (hf0 x1 x2 _ q3) hC.push.push nofun rfl ?_; intro σ H
    refine .not (b := x3) rfl rfl ?_
    apply Ops.nil
    replace H := H.all
    refine .whether (v := (!x3)) rfl ?_ ?_ <;> intro hc3
    ·replace h := cond_T hc3 h
     apply Runs.then
     refine .regionH 1 rfl H ?_; intro b9 σ H
     refine .assign (v := (vb false)) rfl rfl ?_
     apply Ops.nil
     replace H := H.all
     apply Runs.ret
     replace h := Option.some.inj h; subst h
     exact ⟨nofun, (.inr ⟨_, rfl, rfl, (EndsH.H (xs := [(vb false)]) (.inr rfl) H (.tmp (v := (vb false)) rfl .nil) (.one (.c (.v _))) 2 rfl)⟩)⟩
    ·replace h := cond_F hc3 h
     apply Runs.skip
     refine .regionH 2 rfl H ?_; intro b10 σ H
     refine .int (m := s1) (m' := 1) (r := .int .i64 (w64 (s1 + 1))) rfl rfl rfl rfl rfl (.move (v := (vi (w64 (s1 + 1)))) rfl rfl ?_)
     apply Ops.nil
     replace H := H.all
     replace h := Option.some.inj h; subst h
     exact ⟨rfl, ⟨rfl, rfl, rfl, rfl, rfl, trivial⟩, ((H.erase 1).erase 0)⟩
   ·replace h := cond_F hc2 h
    apply Runs.exit
    replace h := Option.some.inj h; subst h
    exact ⟨nofun, (.inl ⟨_, rfl, rfl, trivial, H⟩)⟩
  ·rintro x e σ (⟨a2, rfl, rfl, he, H⟩ | ⟨r', rfl, rfl, hE⟩)
   ·skip
    replace h := jgo h
    obtain ⟨e, rfl⟩ := he.ex
    apply Runs.then
    refine .regionH 1 rfl H ?_; intro b11 σ H
    refine .assign (v := (vb true)) rfl rfl ?_
    apply Ops.nil
    replace H := H.all
    apply Runs.ret
    replace h := Option.some.inj h; subst h
    exact (EndsH.H (xs := [(vb true)]) (.inr rfl) H (.tmp (v := (vb true)) rfl .nil) (.one (.c (.v _))) 0 rfl)
   ·skip
    replace h := jret h
    replace h := Option.some.inj h; subst h
    exact hE

theorem canon_shifted_1_fn {x' : Span} {y : Span} {p2' : Int} {id0' : Nat} {r : Bool} (h : canon_shifted_1 x' y p2' = r) : FnH CX 133 [(.agg (vs (Span.cs x'))), (.agg (vs (Span.cs y))), (.ptr id0' 1 0)] (vb r) [.blk id0' 3 [(vi p2')]] := by
 refine FnH.of Try.func133 rfl rfl rfl rfl rfl rfl (fun h => by have := all_get h 2 rfl; cases this) ?_
 intro σ L hC H
 have hC0 := hC
 obtain ⟨k0', hk0', hC⟩ := hC.inv
 unfold canon_shifted_1 at h
 apply Runs.then
 refine .regionH 3 rfl H ?_; intro b1 σ H
 refine .boxH (cs := [(vi x'.From), (vi x'.To)]) H (by omega) (by omega) rfl rfl rfl ?_; intro σ H
 refine .boxH (cs := [(vi y.From), (vi y.To)]) H (by omega) (by omega) rfl rfl rfl ?_; intro σ H
 refine .assign (v := (vb false)) rfl rfl ?_
 apply Ops.nil
 replace H := H.all
 apply Runs.then
 refine .regionH 17 rfl H ?_; intro b2 σ H
 refine .fieldAddrH (off := 0) (fo := 0) H 0 rfl rfl rfl rfl rfl nofun rfl (.loadH (off := 0) (v := (vi y.From)) H 0 rfl rfl rfl rfl rfl nofun rfl (.fieldAddrH (off := 0) (fo := 0) H 1 rfl rfl rfl rfl rfl nofun rfl (.loadH (off := 0) (v := (vi x'.From)) H 1 rfl rfl rfl rfl rfl nofun rfl ?_)))
 refine .int (m := y.From) (m' := x'.From) (r := .int .i64 (w64 (y.From - x'.From))) rfl rfl rfl rfl rfl (.loadH (off := 0) (v := (vi p2')) H (k0' + 2) hk0' rfl rfl rfl rfl nofun rfl (.int (m := (w64 (y.From - x'.From))) (m' := p2') (r := .bool ((w64 (y.From - x'.From)) == p2')) rfl rfl rfl rfl rfl (.move (v := (vb ((w64 (y.From - x'.From)) == p2'))) rfl rfl ?_)))
 refine .mid 8 (K1 := fun e σ => EnvHas e [(21, (vb (((w64 (y.From - x'.From)) == p2') && ((w64 (y.To - x'.To)) == p2'))))] ∧ Has σ (b2 + 16) (b2 + 17) (L)) rfl ?_ ?_
 ·refine .split rfl rfl ?_ ?_ <;> intro hc1
  ·skip
   refine .wanted rfl rfl (.fieldAddrH (off := 0) (fo := 1) H 0 rfl rfl rfl rfl rfl nofun rfl (.wanted rfl rfl (.loadH (off := 1) (v := (vi y.To)) H 0 rfl rfl rfl rfl rfl nofun rfl ?_)))
   refine .wanted rfl rfl (.fieldAddrH (off := 0) (fo := 1) H 1 rfl rfl rfl rfl rfl nofun rfl (.wanted rfl rfl (.loadH (off := 1) (v := (vi x'.To)) H 1 rfl rfl rfl rfl rfl nofun rfl ?_)))
   refine .wanted rfl rfl (.int (m := y.To) (m' := x'.To) (r := .int .i64 (w64 (y.To - x'.To))) rfl rfl rfl rfl rfl (.wanted rfl rfl (.loadH (off := 0) (v := (vi p2')) H (k0' + 2) hk0' rfl rfl rfl rfl nofun rfl ?_)))
   refine .wanted rfl rfl (.int (m := (w64 (y.To - x'.To))) (m' := p2') (r := .bool ((w64 (y.To - x'.To)) == p2')) rfl rfl rfl rfl rfl (.pickT (v := (vb ((w64 (y.To - x'.To)) == p2'))) rfl rfl rfl ?_))
   apply Ops.nil
   exact ⟨⟨and_T hc1, trivial⟩, ((H.erase 1).erase 0).weak (by omega) (Nat.le_refl _)⟩
  ·skip
   refine .pass rfl rfl rfl (.pass rfl rfl rfl (.pass rfl rfl rfl (.pass rfl rfl rfl ?_)))
   refine .pass rfl rfl rfl (.pass rfl rfl rfl (.pass rfl rfl rfl (.pickF (v := (vb false)) rfl rfl rfl ?_)))
   apply Ops.nil
   exact ⟨⟨and_F hc1, trivial⟩, ((H.erase 1).erase 0).weak (by omega) (Nat.le_refl _)⟩
 ·rintro e σ ⟨he, H⟩
  obtain ⟨e, rfl⟩ := he.ex
  refine .assign (v := (vb (((w64 (y.From - x'.From)) == p2') && ((w64 (y.To - x'.To)) == p2')))) rfl rfl ?_
  apply Ops.nil
  replace H := H.all
  apply Runs.ret
  subst h
  exact (EndsH.H (xs := [(vb (((w64 (y.From - x'.From)) == p2') && ((w64 (y.To - x'.To)) == p2')))]) (.inr rfl) H (.tmp (v := (vb (((w64 (y.From - x'.From)) == p2') && ((w64 (y.To - x'.To)) == p2')))) rfl .nil) (.one (.c (.v _))) 0 rfl)

theorem canon_shifted_fn {a : (List Span)} {b : (List Span)} {by' : Int} {r : Bool} (h : canon_shifted a b by' = some r) : Fn CX 119 [(vl Span.cs a), (vl Span.cs b), (vi by')] (vb r) := by
 refine Fn.ends Try.func119 rfl rfl rfl rfl rfl rfl ?_
 have H : Hs (⟨0, fun _ => .none⟩ : Heap) [] := Has.nil (Nat.le_refl _)
 generalize (⟨0, fun _ => .none⟩ : Heap) = σ at H ⊢
 unfold canon_shifted at h
 apply Runs.then
 refine .regionH 2 rfl H ?_; intro b1 σ H
 refine .boxH (cs := [(vi by')]) H (by omega) (by omega) rfl rfl rfl ?_; intro σ H
 refine .assign (v := (vb false)) rfl rfl ?_
 apply Ops.nil
 replace H := H.all
 apply Runs.then
 refine .regionH 5 rfl H ?_; intro b2 σ H
 refine .move (v := (vl Span.cs a)) rfl rfl (.move (v := (vl Span.cs b)) rfl rfl (.makeClo (fs := []) (cs := [(.ptr (b1 + 0) 1 0)]) rfl rfl rfl rfl ?_))
 obtain ⟨x1, q1, h⟩ := bind_some h
 refine .callH (ys := [(vl Span.cs a), (vl Span.cs b), (.clo 133 [] [(.ptr (b1 + 0) 1 0)])]) (r := (vb x1)) H rfl (slices_EqualFunc_SSpan_SSpan_Span_Span_fn (C := [.blk (b1 + 0) 3 [(vi by')]]) rfl (fun h => by simp [PV.pure] at h) (fun z0 z1 y hz => (CloH.clo (canon_shifted_1_fn (Option.some.inj hz)))) q1) (.cons 0 rfl .nil) nofun rfl ?_; intro σ H
 refine .assign (v := (vb x1)) rfl rfl ?_
 apply Ops.nil
 replace H := H.all
 apply Runs.ret
 replace h := Option.some.inj h; subst h
 exact (Ends.H (xs := [(vb x1)]) (.inr rfl) H (.tmp (v := (vb x1)) rfl .nil) (.one (.c (.v _))))

theorem canon_turn_fn {f : Form} {d : Int} {by' : Int} {r : Bool} (h : canon_turn f d by' = some r) : Fn CX 93 [(.agg (vs (Form.cs f))), (vi d), (vi by')] (vb r) := by
 refine Fn.ends Try.func93 rfl rfl rfl rfl rfl rfl ?_
 have H : Hs (⟨0, fun _ => .none⟩ : Heap) [] := Has.nil (Nat.le_refl _)
 generalize (⟨0, fun _ => .none⟩ : Heap) = σ at H ⊢
 unfold canon_turn at h
 apply Runs.then
 refine .regionH 2 rfl H ?_; intro b1 σ H
 refine .boxH (cs := (vF f)) H (by omega) (by omega) rfl rfl rfl ?_; intro σ H
 refine .assign (v := (vb false)) rfl rfl ?_
 apply Ops.nil
 replace H := H.all
 apply Runs.then
 apply Runs.then
 refine .regionH 4 rfl H ?_; intro b2 σ H
 refine .fieldAddrH (off := 0) (fo := 2) H 0 rfl rfl rfl rfl rfl nofun rfl (.loadH (off := 2) (v := (vl (cL Span.cs) f.Core)) H 0 rfl rfl rfl rfl rfl nofun rfl (.lenPt (c := (cL Span.cs)) (xs := f.Core) rfl rfl rfl (.move (v := (vi 0)) rfl rfl ?_)))
 apply Ops.nil
 replace H := H.all
 apply Runs.inBlock
 obtain ⟨y1, hj1, h⟩ := bind_some h
 obtain ⟨n1, hj1⟩ := loopO_iff.1 hj1
 refine .mono (Runs.loopO hj1 (fun s1 e σ => EnvHas e [(1, (vi d)), (2, (vi by')), (3, (.ptr (b1 + 0) 4 0)), (12, (vl (cL Span.cs) f.Core)), (13, (vi (f.Core.length : Int))), (14, (vi s1))] ∧ Hs σ [.blk (b1 + 0) 25 (vF f)]) (fun y1 x e σ => (∃ a1, y1 = (.go a1) ∧ x = .exit 0 ∧ EnvHas e [] ∧ Hs σ []) ∨ (∃ r', y1 = (.ret r') ∧ x = .ret ∧ Ends CX Try.f93.results.toList (vb r') x e σ)) ⟨⟨rfl, rfl, rfl, rfl, rfl, rfl, trivial⟩, H⟩ ?_) ?_
 ·intro s1 e σ hI z h
  obtain ⟨he, H⟩ := hI
  obtain ⟨e, rfl⟩ := he.ex
  unfold canon_turn.s0 at h
  apply Runs.then
  refine .regionH 1 rfl H ?_; intro b3 σ H
  refine .int (m := s1) (m' := (f.Core.length : Int)) (r := .bool (decide (s1 < (f.Core.length : Int)))) rfl rfl rfl rfl rfl ?_
  apply Ops.nil
  replace H := H.all
  apply Runs.then
  refine .whether (v := (decide (s1 < (f.Core.length : Int)))) rfl ?_ ?_ <;> intro hc1
  ·replace h := cond_T hc1 h
   apply Runs.skip
   apply Runs.then
   obtain ⟨y2, hj2, h⟩ := bind_some h
   refine .mono (Q := fun x e σ => (∃ a2, y2 = (.go a2) ∧ x = .normal ∧ EnvHas e [(1, (vi d)), (2, (vi by')), (3, (.ptr (b1 + 0) 4 0)), (12, (vl (cL Span.cs) f.Core)), (13, (vi (f.Core.length : Int))), (14, (vi s1))] ∧ Hs σ [.blk (b1 + 0) 25 (vF f)]) ∨ (∃ r', y2 = (.ret r') ∧ x = .ret ∧ Ends CX Try.f93.results.toList (vb r') x e σ)) ?_ ?_
   ·replace h := hj2
    apply Runs.inBlock
    obtain ⟨y3, hj3, h⟩ := bind_some h
    refine .mono (Q := fun x e σ => (∃ a3, y3 = (.go a3) ∧ x = .normal ∧ EnvHas e [(1, (vi d)), (2, (vi by')), (3, (.ptr (b1 + 0) 4 0)), (12, (vl (cL Span.cs) f.Core)), (13, (vi (f.Core.length : Int))), (14, (vi s1))] ∧ Hs σ [.blk (b1 + 0) 25 (vF f)]) ∨ (∃ r', y3 = (.ret r') ∧ x = .ret ∧ Ends CX Try.f93.results.toList (vb r') x e σ)) ?_ ?_
    ·replace h := hj3
     apply Runs.then
     refine .regionH 5 rfl H ?_; intro b4 σ H
     refine .move (v := (vi s1)) rfl rfl ?_
     obtain ⟨x1, q1, h⟩ := bind_some h
     refine .indexP (c := (cL Span.cs)) (u := x1) rfl rfl q1 rfl rfl rfl rfl (.loadP (u := (.sl (x1.map Span.cs))) rfl rfl rfl rfl (.assign (v := (vi s1)) rfl rfl (.assign (v := (vl Span.cs x1)) rfl rfl ?_)))
     apply Ops.nil
     replace H := H.all
     apply Runs.then
     refine .regionH 4 rfl H ?_; intro b5 σ H
     refine .move (v := (vi s1)) rfl rfl (.move (v := (vi d)) rfl rfl (.int (m := s1) (m' := d) (r := .int .i64 (w64 (s1 + d))) rfl rfl rfl rfl rfl (.assign (v := (vi (w64 (s1 + d)))) rfl rfl ?_)))
     apply Ops.nil
     replace H := H.all
     apply Runs.then
     refine .regionH 1 rfl H ?_; intro b6 σ H
     refine .assign (v := (vi 0)) rfl rfl ?_
     apply Ops.nil
     replace H := H.all
     apply Runs.then
     obtain ⟨y4, hj4, h⟩ := bind_some h
     refine .mono (Q := fun x e σ => x = .normal ∧ EnvHas e [(1, (vi d)), (2, (vi by')), (3, (.ptr (b1 + 0) 4 0)), (8, (vl Span.cs x1)), (9, (vi y4.1)), (10, (vi y4.2)), (12, (vl (cL Span.cs) f.Core)), (13, (vi (f.Core.length : Int))), (14, (vi s1))] ∧ Hs σ [.blk (b1 + 0) 25 (vF f)]) ?_ ?_
     ·replace h := hj4
      apply Runs.then
      refine .regionH 4 rfl H ?_; intro b7 σ H
      refine .move (v := (vi (w64 (s1 + d)))) rfl rfl (.fieldAddrH (off := 0) (fo := 1) H 0 rfl rfl rfl rfl rfl nofun rfl (.loadH (off := 1) (v := (vi f.Count)) H 0 rfl rfl rfl rfl rfl nofun rfl (.int (m := (w64 (s1 + d))) (m' := f.Count) (r := .bool (decide ((w64 (s1 + d)) ≥ f.Count))) rfl rfl rfl rfl rfl ?_)))
      apply Ops.nil
      replace H := H.all
      refine .whether (v := (decide ((w64 (s1 + d)) ≥ f.Count))) rfl ?_ ?_ <;> intro hc2
      ·replace h := cond_T hc2 h
       refine .drawnH 8 rfl (by kernel_rfl) H ?_; intro b8 σ H B8
       refine .move (v := (vi (w64 (s1 + d)))) rfl rfl (.fieldAddrH (off := 0) (fo := 1) H 0 rfl rfl rfl rfl rfl (fun _ => .inl ⟨B8 0 _ rfl _ rfl, nofun⟩) rfl (.loadH (off := 1) (v := (vi f.Count)) H 0 rfl rfl rfl rfl rfl (fun _ => .inl ⟨B8 0 _ rfl _ rfl, nofun⟩) rfl (.int (m := (w64 (s1 + d))) (m' := f.Count) (r := .int .i64 (w64 ((w64 (s1 + d)) - f.Count))) rfl rfl rfl rfl rfl ?_)))
       refine .fieldAddrH (off := 0) (fo := 0) H 0 rfl rfl rfl rfl rfl (fun _ => .inl ⟨B8 0 _ rfl _ rfl, nofun⟩) rfl (.loadH (off := 0) (v := (vi f.Period)) H 0 rfl rfl rfl rfl rfl (fun _ => .inl ⟨B8 0 _ rfl _ rfl, nofun⟩) rfl (.assign (v := (vi (w64 ((w64 (s1 + d)) - f.Count)))) rfl rfl (.assign (v := (vi f.Period)) rfl rfl ?_)))
       apply Ops.nil
       replace H := H.all
       replace h := Option.some.inj h; subst h
       exact ⟨rfl, ⟨rfl, rfl, rfl, rfl, rfl, rfl, rfl, rfl, rfl, trivial⟩, H⟩
      ·replace h := cond_F hc2 h
       apply Runs.skip
       replace h := Option.some.inj h; subst h
       exact ⟨rfl, ⟨rfl, rfl, rfl, rfl, rfl, rfl, rfl, rfl, rfl, trivial⟩, H⟩
     ·rintro x e σ ⟨rfl, he, H⟩
      obtain ⟨e, rfl⟩ := he.ex
      apply Runs.then
      refine .regionH 11 rfl H ?_; intro b9 σ H
      refine .move (v := (vl Span.cs x1)) rfl rfl (.fieldAddrH (off := 0) (fo := 2) H 0 rfl rfl rfl rfl rfl nofun rfl (.loadH (off := 2) (v := (vl (cL Span.cs) f.Core)) H 0 rfl rfl rfl rfl rfl nofun rfl (.move (v := (vi y4.1)) rfl rfl ?_)))
      obtain ⟨x2, q2, h⟩ := bind_some h
      refine .indexP (c := (cL Span.cs)) (u := x2) rfl rfl q2 rfl rfl rfl rfl (.loadP (u := (.sl (x2.map Span.cs))) rfl rfl rfl rfl (.move (v := (vi by')) rfl rfl (.move (v := (vi y4.2)) rfl rfl ?_)))
      refine .int (m := by') (m' := y4.2) (r := .int .i64 (w64 (by' - y4.2))) rfl rfl rfl rfl rfl ?_
      obtain ⟨x3, q3, h⟩ := bind_some h
      refine .call (ys := [(vl Span.cs x1), (vl Span.cs x2), (vi (w64 (by' - y4.2)))]) (r := (vb x3)) rfl (canon_shifted_fn q3) rfl (.not (b := x3) rfl rfl ?_)
      apply Ops.nil
      replace H := H.all
      refine .whether (v := (!x3)) rfl ?_ ?_ <;> intro hc3
      ·replace h := cond_T hc3 h
       apply Runs.then
       refine .regionH 1 rfl H ?_; intro b10 σ H
       refine .assign (v := (vb false)) rfl rfl ?_
       apply Ops.nil
       replace H := H.all
       apply Runs.ret
       replace h := Option.some.inj h; subst h
       exact (.inr ⟨_, rfl, rfl, (Ends.H (xs := [(vb false)]) (.inr rfl) H (.tmp (v := (vb false)) rfl .nil) (.one (.c (.v _))))⟩)
      ·replace h := cond_F hc3 h
       apply Runs.skip
       replace h := Option.some.inj h; subst h
       exact (.inl ⟨_, rfl, rfl, ⟨rfl, rfl, rfl, rfl, rfl, rfl, trivial⟩, H⟩)
    ·rintro x e σ (⟨a4, rfl, rfl, he, H⟩ | ⟨r', rfl, rfl, hE⟩)
     ·skip
      replace h := jgo h
      obtain ⟨e, rfl⟩ := he.ex
      replace h := Option.some.inj h; subst h
      exact (.inl ⟨_, rfl, rfl, ⟨rfl, rfl, rfl, rfl, rfl, rfl, trivial⟩, H⟩)
     ·skip
      replace h := jret h
      replace h := Option.some.inj h; subst h
      exact (.inr ⟨_, rfl, rfl, hE⟩)
   ·rintro x e σ (⟨a5, rfl, rfl, he, H⟩ | ⟨r', rfl, rfl, hE⟩)
    ·skip
     replace h := jgo h
     obtain ⟨e, rfl⟩ := he.ex
     refine .regionH 2 rfl H ?_; intro b11 σ H
     refine .int (m := s1) (m' := 1) (r := .int .i64 (w64 (s1 + 1))) rfl rfl rfl rfl rfl (.move (v := (vi (w64 (s1 + 1)))) rfl rfl ?_)
     apply Ops.nil
     replace H := H.all
     replace h := Option.some.inj h; subst h
     exact ⟨rfl, ⟨rfl, rfl, rfl, rfl, rfl, rfl, trivial⟩, H⟩
    ·skip
     replace h := jret h
     replace h := Option.some.inj h; subst h
     exact ⟨nofun, (.inr ⟨_, rfl, rfl, hE⟩)⟩
  ·replace h := cond_F hc1 h
   apply Runs.exit
   replace h := Option.some.inj h; subst h
   exact ⟨nofun, (.inl ⟨_, rfl, rfl, trivial, (H.erase 0)⟩)⟩
 ·rintro x e σ (⟨a6, rfl, rfl, he, H⟩ | ⟨r', rfl, rfl, hE⟩)
  ·skip
   replace h := jgo h
   obtain ⟨e, rfl⟩ := he.ex
   apply Runs.then
   refine .regionH 1 rfl H ?_; intro b12 σ H
   refine .assign (v := (vb true)) rfl rfl ?_
   apply Ops.nil
   replace H := H.all
   apply Runs.ret
   replace h := Option.some.inj h; subst h
   exact (Ends.H (xs := [(vb true)]) (.inr rfl) H (.tmp (v := (vb true)) rfl .nil) (.one (.c (.v _))))
  ·skip
   replace h := jret h
   replace h := Option.some.inj h; subst h
   exact hE

end Go.Dn

namespace Go.Dn
open Go Go.Proofs
set_option maxRecDepth 100000
set_option maxHeartbeats 4000000

theorem slices_Clone_SSpan_Span_fn {l : List Span} {r : List Span} (h : clone? 16 l = some r) : Fn CX 67 [(vl Span.cs l)] (vl Span.cs r) := by
 obtain ⟨h1, rfl⟩ := clone_some h
 refine Fn.intr ?_ rfl rfl rfl
 rw [cx_intr67]
 unfold cloneV
 dsimp only
 rw [if_pos ⟨by simp [Span.cs], by simpa using h1⟩]

theorem canon_core_fn {f : Form} {r : Form} (h : canon_core f = some r) : Fn CX 65 [(.agg (vs (Form.cs f)))] (.agg (vs (Form.cs r))) := by
 refine Fn.ends Try.func65 rfl rfl rfl rfl rfl rfl ?_
 have H : Hs (⟨0, fun _ => .none⟩ : Heap) [] := Has.nil (Nat.le_refl _)
 generalize (⟨0, fun _ => .none⟩ : Heap) = σ at H ⊢
 unfold canon_core at h
 apply Runs.then
 refine .regionH 2 rfl H ?_; intro b1 σ H
 refine .boxH (cs := (vF f)) H (by omega) (by omega) rfl rfl rfl ?_; intro σ H
 refine .allocH (cs := [(vi 0), (vi 0), .nils, .nils]) H (by omega) (by omega) rfl rfl ?_; intro σ H
 apply Ops.nil
 replace H := H.all
 apply Runs.scope
 apply Runs.then
 refine .regionH 3 rfl H ?_; intro b2 σ H
 refine .buildA (cs := [(vi 0), (vi 0), .nils, .nils]) rfl rfl (.allocH (cs := [(vi 0), (vi 0), .nils, .nils]) H (by omega) (by omega) rfl rfl ?_); intro σ H
 refine .storeH (off := 0) (cells' := [(vi 0), (vi 0), .nils, .nils]) H 0 rfl rfl rfl rfl rfl rfl rfl rfl rfl nofun ?_; intro σ H
 apply Ops.nil
 replace H := H.all
 apply Runs.then
 apply Runs.then
 refine .regionH 2 rfl H ?_; intro b3 σ H
 refine .loadHA (off := 0) (cs := (vF f)) H 2 rfl rfl rfl rfl rfl rfl rfl nofun rfl ?_
 obtain ⟨x1, q1, h⟩ := bind_some h
 refine .call (ys := [(.agg (vF f))]) (r := (vb x1)) rfl (canon_bare_fn q1) rfl ?_
 apply Ops.nil
 replace H := H.all
 refine .whether (v := x1) rfl ?_ ?_ <;> intro hc1
 ·replace h := cond_T hc1 h
  apply Runs.then
  refine .regionH 2 rfl H ?_; intro b4 σ H
  refine .loadHA (off := 0) (cs := [(vi 0), (vi 0), .nils, .nils]) H 0 rfl rfl rfl rfl rfl rfl rfl nofun rfl (.storeH (off := 0) (cells' := [(vi 0), (vi 0), .nils, .nils]) H 1 rfl rfl rfl rfl rfl rfl rfl rfl rfl nofun ?_); intro σ H
  apply Ops.nil
  replace H := H.all
  apply Runs.ret
  replace h := Option.some.inj h; subst h
  exact (Ends.H (xs := [(.agg [(vi 0), (vi 0), .nils, .nils])]) (.inr rfl) H (.agg (cs := [(vi 0), (vi 0), .nils, .nils]) (off := 0) 1 rfl rfl rfl rfl rfl rfl rfl .nil) (.one (.a (.cons (.v _) (.cons (.v _) (.cons .n (.cons .n .nil)))))))
 ·replace h := cond_F hc1 h
  apply Runs.skip
  apply Runs.then
  apply Runs.label
  apply Runs.then
  obtain ⟨y1, hj1, h⟩ := bind_some h
  refine .mono (Q := fun x e σ => ∃ (w1 : PV), x = .normal ∧ EnvHas e [(2, (.ptr (b1 + 1) 4 0)), (3, (.ptr (b2 + 1) 4 0))] ∧ Hs σ [.sl w1 41 1 (y1.1.map (cL Span.cs)) true, .blk (b2 + 1) 25 [(vi y1.2.1), (vi y1.2.2), w1, .nils], .blk (b1 + 1) 25 [(vi 0), (vi 0), .nils, .nils]]) ?_ ?_
  ·replace h := hj1
   apply Runs.then
   refine .regionH 3 rfl H ?_; intro b5 σ H
   refine .fieldAddrH (off := 0) (fo := 1) H 2 rfl rfl rfl rfl rfl nofun rfl (.loadH (off := 1) (v := (vi f.Count)) H 2 rfl rfl rfl rfl rfl nofun rfl ?_)
   refine .callO (ys := [(vi f.Count)]) rfl (canon_divisors_fn H) nofun rfl ?_; rintro _ σ ⟨id1, rfl, H⟩
   apply Ops.nil
   replace H := H.all
   apply Runs.inBlock
   replace H := H.pushNil 41 1 true
   obtain ⟨y2, hj2, h⟩ := bind_some h
   refine .rangeH H rfl (fun s2 M => ∃ (w4 : PV), M = [.sl w4 41 1 (s2.1.map (cL Span.cs)) true, .blk id1 3 [(vi f.Count)], .blk (b2 + 1) 25 [(vi s2.2.1), (vi s2.2.2), w4, .nils], .blk (b1 + 1) 25 [(vi 0), (vi 0), .nils, .nils], .blk (b1 + 0) 25 (vF f)]) (fun z2 => [(vi z2)]) (canon_core.b0 f) (fun p => if p = 0 then none else some (.exit 0)) rfl (fun p => by (repeat' split) <;> exact ⟨_, rfl⟩) (r := y2) ⟨.nils, rfl⟩ (fun _ => rfl) (fun _ => rfl) ?_ (fun id hy => canon_divisors_1_fn hy (fun s L hL => by obtain ⟨M, hM, rfl⟩ := hL; obtain ⟨_, rfl⟩ := hM; exact (.cons 2 rfl .nil)) hj2) ?_
   ·intro R0 R1 s2 z2 s' p h σ M O hM H
    obtain ⟨w4, rfl⟩ := hM
    unfold canon_core.b0 at h
    refine .env [(17, (vi z2)), (1, (.ptr (b1 + 0) 4 0)), (2, (.ptr (b1 + 1) 4 0)), (3, (.ptr (b2 + 1) 4 0)), (16, (.clo 118 [] [(.ptr id1 1 0)]))] ⟨rfl, rfl, rfl, rfl, rfl, trivial⟩ fun e => (.regionH 1 rfl H ?_); intro b6 σ H
    refine .assign (v := (vi z2)) rfl rfl ?_
    apply Ops.nil
    replace H := H.all
    refine ⟨rfl, [.sl w4 41 1 (s2.1.map (cL Span.cs)) true, .blk id1 3 [(vi f.Count)], .blk (b2 + 1) 25 [(vi s2.2.1), (vi s2.2.2), w4, .nils], .blk (b1 + 1) 25 [(vi 0), (vi 0), .nils, .nils], .blk (b1 + 0) 25 (vF f)], H, ?_⟩; intro σ H
    apply Runs.inBlock
    apply Runs.then
    refine .drawnH 14 rfl (by kernel_rfl) H ?_; intro b7 σ H B7
    refine .fieldAddrH (off := 0) (fo := 0) H 5 rfl rfl rfl rfl rfl (fun _ => .inl ⟨B7 5 _ rfl _ rfl, nofun⟩) rfl (.loadH (off := 0) (v := (vi f.Period)) H 5 rfl rfl rfl rfl rfl (fun _ => .inl ⟨B7 5 _ rfl _ rfl, nofun⟩) rfl (.fieldAddrH (off := 0) (fo := 1) H 5 rfl rfl rfl rfl rfl (fun _ => .inl ⟨B7 5 _ rfl _ rfl, nofun⟩) rfl (.loadH (off := 1) (v := (vi f.Count)) H 5 rfl rfl rfl rfl rfl (fun _ => .inl ⟨B7 5 _ rfl _ rfl, nofun⟩) rfl ?_)))
    refine .move (v := (vi z2)) rfl rfl ?_
    obtain ⟨u1, q2, h⟩ := bind_some h
    refine .quo (m := f.Count) (m' := z2) rfl rfl (nz_ne q2) rfl ?_
    obtain ⟨x2, q3, h⟩ := bind_some h
    refine .call (ys := [(vi f.Period), (vi (w64 (f.Count.tdiv z2)))]) (r := (.tup [(vi x2.1), (vi x2.2.1), (vi x2.2.2)])) rfl (safe_Floor_fn q3) rfl (.move (v := (.tup [(vi x2.1), (vi x2.2.1), (vi x2.2.2)])) rfl rfl (.extract (v := (vi x2.1)) rfl rfl rfl (.extract (v := (vi x2.2.1)) rfl rfl rfl ?_)))
    refine .extract (v := (vi x2.2.2)) rfl rfl rfl (.assign (v := (vi x2.1)) rfl rfl (.assign (v := (vi x2.2.1)) rfl rfl (.assign (v := (vi x2.2.2)) rfl rfl ?_)))
    apply Ops.nil
    replace H := H.all
    apply Runs.then
    apply Runs.then
    refine .regionH 9 rfl H ?_; intro b8 σ H
    refine .move (v := (vi x2.2.1)) rfl rfl (.int (m := x2.2.1) (m' := 0) (r := .bool (x2.2.1 != 0)) rfl rfl rfl rfl rfl (.move (v := (vb (x2.2.1 != 0))) rfl rfl ?_))
    obtain ⟨y3, hj3, h⟩ := bind_some h
    refine .mid 6 (K1 := fun e σ => EnvHas e [(37, (vb y3)), (1, (.ptr (b1 + 0) 4 0)), (2, (.ptr (b1 + 1) 4 0)), (3, (.ptr (b2 + 1) 4 0)), (4, (vi z2)), (5, (vi x2.1))] ∧ Has σ (b8 + 9) (b8 + 9) (R1 :: .sl w4 41 1 (s2.1.map (cL Span.cs)) true :: .blk id1 3 [(vi f.Count)] :: .blk (b2 + 1) 25 [(vi s2.2.1), (vi s2.2.2), w4, .nils] :: .blk (b1 + 1) 25 [(vi 0), (vi 0), .nils, .nils] :: .blk (b1 + 0) 25 (vF f) :: O)) rfl ?_ ?_
    ·refine .split rfl rfl ?_ ?_ <;> intro hc2
     ·replace h := cond_T hc2 hj3
      refine .pass rfl rfl rfl (.pass rfl rfl rfl (.pass rfl rfl rfl (.pass rfl rfl rfl ?_)))
      refine .pass rfl rfl rfl (.pickT (v := (vb true)) rfl rfl rfl ?_)
      apply Ops.nil
      replace h := Option.some.inj h; subst h
      exact ⟨⟨rfl, rfl, rfl, rfl, rfl, rfl, trivial⟩, H.weak (by omega) (Nat.le_refl _)⟩
     ·replace h := cond_F hc2 hj3
      refine .wanted rfl rfl (.loadHA (off := 0) (cs := (vF f)) H 5 rfl rfl rfl rfl rfl rfl rfl nofun rfl (.wanted rfl rfl (.move (v := (vi z2)) rfl rfl ?_)))
      refine .wanted rfl rfl (.move (v := (vi x2.1)) rfl rfl (.wanted rfl rfl ?_))
      obtain ⟨x3, q4, h⟩ := bind_some h
      refine .call (ys := [(.agg (vF f)), (vi z2), (vi x2.1)]) (r := (vb x3)) rfl (canon_turn_fn q4) rfl (.wanted rfl rfl (.not (b := x3) rfl rfl (.pickF (v := (vb (!x3))) rfl rfl rfl ?_)))
      apply Ops.nil
      replace h := Option.some.inj h; subst h
      exact ⟨⟨rfl, rfl, rfl, rfl, rfl, rfl, trivial⟩, H.weak (by omega) (Nat.le_refl _)⟩
    ·rintro e σ ⟨he, H⟩
     obtain ⟨e, rfl⟩ := he.ex
     apply Ops.nil
     replace H := H.all
     refine .whether (v := y3) rfl ?_ ?_ <;> intro hc3
     ·replace h := cond_T hc3 h
      apply Runs.exit
      obtain ⟨rfl, rfl⟩ := Prod.mk.inj (Option.some.inj h)
      exact ⟨⟨rfl, (iff_of_true rfl rfl)⟩, _, ⟨w4, rfl⟩, H⟩
     ·replace h := cond_F hc3 h
      apply Runs.skip
      apply Runs.then
      refine .regionH 6 rfl H ?_; intro b9 σ H
      refine .move (v := (vi x2.1)) rfl rfl (.move (v := (vi z2)) rfl rfl (.fieldAddrH (off := 0) (fo := 0) H 3 rfl rfl rfl rfl rfl nofun rfl (.storeH (off := 0) (cells' := [(vi x2.1), (vi s2.2.2), w4, .nils]) H 3 rfl rfl rfl rfl rfl rfl rfl rfl rfl nofun ?_))); intro σ H
      refine .fieldAddrH (off := 0) (fo := 1) H 3 rfl rfl rfl rfl rfl nofun rfl (.storeH (off := 1) (cells' := [(vi x2.1), (vi z2), w4, .nils]) H 3 rfl rfl rfl rfl rfl rfl rfl rfl rfl nofun ?_); intro σ H
      apply Ops.nil
      replace H := H.all
      apply Runs.then
      apply Runs.then
      refine .regionH 6 rfl H ?_; intro b10 σ H
      refine .fieldAddrH (off := 0) (fo := 2) H 5 rfl rfl rfl rfl rfl nofun rfl (.loadH (off := 2) (v := (vl (cL Span.cs) f.Core)) H 5 rfl rfl rfl rfl rfl nofun rfl (.move (v := (vi z2)) rfl rfl ?_))
      obtain ⟨x4, q5, h⟩ := bind_some h
      refine .sliceP01 (c := (cL Span.cs)) q5 rfl rfl rfl rfl (fun _ => rfl) rfl (.lenPt (c := (cL Span.cs)) (xs := x4) rfl rfl rfl (.move (v := (vi 0)) rfl rfl ?_))
      apply Ops.nil
      replace H := H.all
      apply Runs.inBlock
      obtain ⟨y4, hj4, h⟩ := bind_some h
      obtain ⟨n1, hj4⟩ := loopO_iff.1 hj4
      refine .mono (Runs.loopO hj4 (fun s3 e σ => ∃ (w7 : PV), EnvHas e [(2, (.ptr (b1 + 1) 4 0)), (3, (.ptr (b2 + 1) 4 0)), (45, (vl (cL Span.cs) x4)), (46, (vi (x4.length : Int))), (47, (vi s3.1))] ∧ Hs σ (R1 :: .sl w7 41 1 (s3.2.map (cL Span.cs)) true :: .blk id1 3 [(vi f.Count)] :: .blk (b2 + 1) 25 [(vi x2.1), (vi z2), w7, .nils] :: .blk (b1 + 1) 25 [(vi 0), (vi 0), .nils, .nils] :: .blk (b1 + 0) 25 (vF f) :: O)) (fun y4 x e σ => ∃ (w8 : PV), x = .exit 2 ∧ EnvHas e [(2, (.ptr (b1 + 1) 4 0)), (3, (.ptr (b2 + 1) 4 0))] ∧ Hs σ (R1 :: .sl w8 41 1 (y4.map (cL Span.cs)) true :: .blk id1 3 [(vi f.Count)] :: .blk (b2 + 1) 25 [(vi x2.1), (vi z2), w8, .nils] :: .blk (b1 + 1) 25 [(vi 0), (vi 0), .nils, .nils] :: .blk (b1 + 0) 25 (vF f) :: O)) ⟨w4, ⟨rfl, rfl, rfl, rfl, rfl, trivial⟩, H⟩ ?_) ?_
      ·intro s3 e σ hI z h
       obtain ⟨w7, he, H⟩ := hI
       obtain ⟨e, rfl⟩ := he.ex
       unfold canon_core.s1 at h
       apply Runs.then
       refine .regionH 1 rfl H ?_; intro b11 σ H
       refine .int (m := s3.1) (m' := (x4.length : Int)) (r := .bool (decide (s3.1 < (x4.length : Int)))) rfl rfl rfl rfl rfl ?_
       apply Ops.nil
       replace H := H.all
       apply Runs.then
       refine .whether (v := (decide (s3.1 < (x4.length : Int)))) rfl ?_ ?_ <;> intro hc4
       ·replace h := cond_T hc4 h
        apply Runs.skip
        apply Runs.then
        apply Runs.inBlock
        apply Runs.then
        refine .regionH 3 rfl H ?_; intro b12 σ H
        obtain ⟨x5, q6, h⟩ := bind_some h
        refine .indexP (c := (cL Span.cs)) (u := x5) rfl rfl q6 rfl rfl rfl rfl (.loadP (u := (.sl (x5.map Span.cs))) rfl rfl rfl rfl (.assign (v := (vl Span.cs x5)) rfl rfl ?_))
        apply Ops.nil
        replace H := H.all
        refine .drawnH 8 rfl (by kernel_rfl) H ?_; intro b13 σ H B13
        refine .fieldAddrH (off := 0) (fo := 2) H 3 rfl rfl rfl rfl rfl (fun _ => .inl ⟨B13 3 _ rfl _ rfl, nofun⟩) rfl (.loadH (off := 2) (v := w7) H 3 rfl rfl rfl rfl rfl (fun _ => .inl ⟨B13 3 _ rfl _ rfl, nofun⟩) rfl (.move (v := (vl Span.cs x5)) rfl rfl ?_))
        obtain ⟨x6, q7, h⟩ := bind_some h
        refine .call (ys := [(vl Span.cs x5)]) (r := (vl Span.cs x6)) rfl (slices_Clone_SSpan_Span_fn q7) rfl (.buildS (sz := 1) ([x6].map (cL Span.cs)) H (by omega) (by omega) rfl rfl rfl rfl rfl rfl rfl rfl rfl ?_); intro σ H
        obtain ⟨x7, q8, h⟩ := bind_some h
        refine .appendSt (c := (cL Span.cs)) (v := w7) (w := (.buf (b13 + 4) 1 1)) (xs := s3.2) (ys := [x6]) H (by omega) (by omega) 2 rfl rfl rfl (.s 0 rfl) q8 rfl rfl rfl rfl rfl (fun h => ⟨(fun id ho => .inl ⟨B13 1 _ rfl id ho, (fun _ => by kernel_rfl)⟩), (fun id ho => .inr ⟨4, (by cases ho; rfl), (fun h => nomatch h), by kernel_rfl, by decide⟩)⟩) rfl ?_; intro w9 σ H
        refine .fieldAddrH (off := 0) (fo := 2) H 4 rfl rfl rfl rfl rfl (fun _ => .inl ⟨B13 3 _ rfl _ rfl, nofun⟩) rfl (.storeH (off := 2) (v := w9) (ys := [w9]) (cells' := [(vi x2.1), (vi z2), w9, .nils]) H 4 rfl rfl rfl rfl (H.slCells (k := 2) rfl) rfl rfl rfl rfl (fun _ => .inl ⟨B13 3 _ rfl _ rfl, (fresh_static (by kernel_rfl))⟩) ?_); intro σ H
        apply Ops.nil
        replace H := H.all
        refine .regionH 2 rfl H ?_; intro b14 σ H
        refine .int (m := s3.1) (m' := 1) (r := .int .i64 (w64 (s3.1 + 1))) rfl rfl rfl rfl rfl (.move (v := (vi (w64 (s3.1 + 1)))) rfl rfl ?_)
        apply Ops.nil
        replace H := H.all
        replace h := Option.some.inj h; subst h
        exact ⟨rfl, w9, ⟨rfl, rfl, rfl, rfl, rfl, trivial⟩, (H.erase 0)⟩
       ·replace h := cond_F hc4 h
        apply Runs.exit
        replace h := Option.some.inj h; subst h
        exact ⟨nofun, ⟨w7, rfl, ⟨rfl, rfl, trivial⟩, H⟩⟩
      ·rintro x e σ ⟨w10, rfl, he, H⟩
       obtain ⟨e, rfl⟩ := he.ex
       apply Runs.exit
       obtain ⟨rfl, rfl⟩ := Prod.mk.inj (Option.some.inj h)
       exact ⟨⟨rfl, (iff_of_false nofun nofun)⟩, _, ⟨w10, rfl⟩, H⟩
   ·intro x σ M hx hM H
    obtain ⟨w11, rfl⟩ := hM
    cases hc0_ : (y2.2 == 0)
    ·replace h := cond_F hc0_ h
     have hx : x = .exit 0 := by simpa [ne_of_beq_false hc0_, jumpD] using hx.symm
     subst hx
     replace h := Option.some.inj h; subst h
     exact ⟨w11, rfl, ⟨rfl, rfl, trivial⟩, ((H.erase 4).erase 1)⟩
    ·replace h := cond_T hc0_ h
     have hx : x = .normal := by rw [eq_of_beq hc0_] at hx; exact (Option.some.inj hx).symm
     subst hx
     replace h := Option.some.inj h; subst h
     exact ⟨w11, rfl, ⟨rfl, rfl, trivial⟩, ((H.erase 4).erase 1)⟩
  ·rintro x e σ ⟨w12, rfl, he, H⟩
   obtain ⟨e, rfl⟩ := he.ex
   apply Runs.then
   refine .regionH 2 rfl H ?_; intro b15 σ H
   refine .loadHA (off := 0) (cs := [(vi y1.2.1), (vi y1.2.2), w12, .nils]) H 1 rfl rfl rfl rfl rfl rfl rfl nofun rfl (.storeH (off := 0) (cells' := [(vi y1.2.1), (vi y1.2.2), w12, .nils]) H 2 rfl rfl rfl rfl rfl rfl rfl rfl rfl nofun ?_); intro σ H
   apply Ops.nil
   replace H := H.all
   apply Runs.ret
   replace h := Option.some.inj h; subst h
   exact (Ends.H (xs := [(.agg [(vi y1.2.1), (vi y1.2.2), w12, .nils])]) (.inr rfl) H (.agg (cs := [(vi y1.2.1), (vi y1.2.2), w12, .nils]) (off := 0) 2 rfl rfl rfl rfl rfl rfl rfl .nil) (.one (.a (.cons (.v _) (.cons (.v _) (.cons (.s 0 rfl) (.cons .n .nil)))))))

theorem slices_Equal_SSpan_Span_fn {s1' : (List Span)} {s2' : (List Span)} {r : Bool} (h : slices_Equal_SSpan_Span s1' s2' = some r) : Fn CX 120 [(vl Span.cs s1'), (vl Span.cs s2')] (vb r) := by
 refine Fn.ends Try.func120 rfl rfl rfl rfl rfl rfl ?_
 have H : Hs (⟨0, fun _ => .none⟩ : Heap) [] := Has.nil (Nat.le_refl _)
 generalize (⟨0, fun _ => .none⟩ : Heap) = σ at H ⊢
 unfold slices_Equal_SSpan_Span at h
 apply Runs.then
 refine .regionH 1 rfl H ?_; intro b1 σ H
 refine .assign (v := (vb false)) rfl rfl ?_
 apply Ops.nil
 replace H := H.all
 apply Runs.then
 apply Runs.then
 refine .regionH 5 rfl H ?_; intro b2 σ H
 refine .move (v := (vl Span.cs s1')) rfl rfl (.lenPt (c := Span.cs) (xs := s1') rfl rfl rfl (.move (v := (vl Span.cs s2')) rfl rfl (.lenPt (c := Span.cs) (xs := s2') rfl rfl rfl ?_)))
 refine .int (m := (s1'.length : Int)) (m' := (s2'.length : Int)) (r := .bool ((s1'.length : Int) != (s2'.length : Int))) rfl rfl rfl rfl rfl ?_
 apply Ops.nil
 replace H := H.all
 refine .whether (v := ((s1'.length : Int) != (s2'.length : Int))) rfl ?_ ?_ <;> intro hc1
 ·replace h := cond_T hc1 h
  apply Runs.then
  refine .regionH 1 rfl H ?_; intro b3 σ H
  refine .assign (v := (vb false)) rfl rfl ?_
  apply Ops.nil
  replace H := H.all
  apply Runs.ret
  replace h := Option.some.inj h; subst h
  exact (Ends.H (xs := [(vb false)]) (.inr rfl) H (.tmp (v := (vb false)) rfl .nil) (.one (.c (.v _))))
 ·replace h := cond_F hc1 h
  apply Runs.skip
  apply Runs.then
  apply Runs.then
  refine .regionH 3 rfl H ?_; intro b4 σ H
  refine .move (v := (vl Span.cs s1')) rfl rfl (.lenPt (c := Span.cs) (xs := s1') rfl rfl rfl (.move (v := (vi 0)) rfl rfl ?_))
  apply Ops.nil
  replace H := H.all
  apply Runs.inBlock
  obtain ⟨y1, hj1, h⟩ := bind_some h
  obtain ⟨n1, hj1⟩ := loopO_iff.1 hj1
  refine .mono (Runs.loopO hj1 (fun s1 e σ => EnvHas e [(0, (vl Span.cs s1')), (1, (vl Span.cs s2')), (12, (vi (s1'.length : Int))), (13, (vi s1))] ∧ Hs σ []) (fun y1 x e σ => (∃ a1, y1 = (.go a1) ∧ x = .exit 0 ∧ EnvHas e [] ∧ Hs σ []) ∨ (∃ r', y1 = (.ret r') ∧ x = .ret ∧ Ends CX Try.f120.results.toList (vb r') x e σ)) ⟨⟨rfl, rfl, rfl, rfl, trivial⟩, H⟩ ?_) ?_
  ·intro s1 e σ hI z h
   obtain ⟨he, H⟩ := hI
   obtain ⟨e, rfl⟩ := he.ex
   unfold slices_Equal_SSpan_Span.s0 at h
   apply Runs.then
   refine .regionH 1 rfl H ?_; intro b5 σ H
   refine .int (m := s1) (m' := (s1'.length : Int)) (r := .bool (decide (s1 < (s1'.length : Int)))) rfl rfl rfl rfl rfl ?_
   apply Ops.nil
   replace H := H.all
   apply Runs.then
   refine .whether (v := (decide (s1 < (s1'.length : Int)))) rfl ?_ ?_ <;> intro hc2
   ·replace h := cond_T hc2 h
    apply Runs.skip
    apply Runs.then
    apply Runs.inBlock
    apply Runs.then
    refine .regionH 2 rfl H ?_; intro b6 σ H
    refine .move (v := (vi s1)) rfl rfl (.assign (v := (vi s1)) rfl rfl ?_)
    apply Ops.nil
    replace H := H.all
    apply Runs.then
    refine .drawnH 9 rfl (by kernel_rfl) H ?_; intro b7 σ H B7
    refine .move (v := (vl Span.cs s1')) rfl rfl (.move (v := (vi s1)) rfl rfl ?_)
    obtain ⟨x1, q1, h⟩ := bind_some h
    refine .indexP (c := Span.cs) (u := x1) rfl rfl q1 rfl rfl rfl rfl (.loadPA (cs := [(.int .i64 x1.From), (.int .i64 x1.To)]) rfl rfl rfl rfl rfl rfl (.move (v := (vl Span.cs s2')) rfl rfl (.move (v := (vi s1)) rfl rfl ?_)))
    obtain ⟨x2, q2, h⟩ := bind_some h
    refine .indexP (c := Span.cs) (u := x2) rfl rfl q2 rfl rfl rfl rfl (.loadPA (cs := [(.int .i64 x2.From), (.int .i64 x2.To)]) rfl rfl rfl rfl rfl rfl (.binA (u := (.agg [(vi x1.From), (vi x1.To)])) (w := (.agg [(vi x2.From), (vi x2.To)])) (r := .bool (!((x1.From == x2.From) && ((x1.To == x2.To) && true)))) rfl rfl (by kernel_rfl) (fun _ => ask_eqA rfl rfl rfl rfl) rfl ?_))
    apply Ops.nil
    replace H := H.all
    refine .whether (v := (!((x1.From == x2.From) && ((x1.To == x2.To) && true)))) rfl ?_ ?_ <;> intro hc3
    ·replace h := cond_T hc3 h
     apply Runs.then
     refine .regionH 1 rfl H ?_; intro b8 σ H
     refine .assign (v := (vb false)) rfl rfl ?_
     apply Ops.nil
     replace H := H.all
     apply Runs.ret
     replace h := Option.some.inj h; subst h
     exact ⟨nofun, (.inr ⟨_, rfl, rfl, (Ends.H (xs := [(vb false)]) (.inr rfl) H (.tmp (v := (vb false)) rfl .nil) (.one (.c (.v _))))⟩)⟩
    ·replace h := cond_F hc3 h
     apply Runs.skip
     refine .regionH 2 rfl H ?_; intro b9 σ H
     refine .int (m := s1) (m' := 1) (r := .int .i64 (w64 (s1 + 1))) rfl rfl rfl rfl rfl (.move (v := (vi (w64 (s1 + 1)))) rfl rfl ?_)
     apply Ops.nil
     replace H := H.all
     replace h := Option.some.inj h; subst h
     exact ⟨rfl, ⟨rfl, rfl, rfl, rfl, trivial⟩, H⟩
   ·replace h := cond_F hc2 h
    apply Runs.exit
    replace h := Option.some.inj h; subst h
    exact ⟨nofun, (.inl ⟨_, rfl, rfl, trivial, H⟩)⟩
  ·rintro x e σ (⟨a2, rfl, rfl, he, H⟩ | ⟨r', rfl, rfl, hE⟩)
   ·skip
    replace h := jgo h
    obtain ⟨e, rfl⟩ := he.ex
    apply Runs.then
    refine .regionH 1 rfl H ?_; intro b10 σ H
    refine .assign (v := (vb true)) rfl rfl ?_
    apply Ops.nil
    replace H := H.all
    apply Runs.ret
    replace h := Option.some.inj h; subst h
    exact (Ends.H (xs := [(vb true)]) (.inr rfl) H (.tmp (v := (vb true)) rfl .nil) (.one (.c (.v _))))
   ·skip
    replace h := jret h
    replace h := Option.some.inj h; subst h
    exact hE

theorem spans_Same_fn {a : (List Span)} {b : (List Span)} {r : Bool} (h : spans_Same a b = some r) : Fn CX 94 [(vl Span.cs a), (vl Span.cs b)] (vb r) := by
 refine Fn.ends Try.func94 rfl rfl rfl rfl rfl rfl ?_
 have H : Hs (⟨0, fun _ => .none⟩ : Heap) [] := Has.nil (Nat.le_refl _)
 generalize (⟨0, fun _ => .none⟩ : Heap) = σ at H ⊢
 unfold spans_Same at h
 apply Runs.then
 refine .regionH 1 rfl H ?_; intro b1 σ H
 refine .assign (v := (vb false)) rfl rfl ?_
 apply Ops.nil
 replace H := H.all
 apply Runs.then
 refine .regionH 4 rfl H ?_; intro b2 σ H
 refine .move (v := (vl Span.cs a)) rfl rfl (.move (v := (vl Span.cs b)) rfl rfl ?_)
 obtain ⟨x1, q1, h⟩ := bind_some h
 refine .call (ys := [(vl Span.cs a), (vl Span.cs b)]) (r := (vb x1)) rfl (slices_Equal_SSpan_Span_fn q1) rfl (.assign (v := (vb x1)) rfl rfl ?_)
 apply Ops.nil
 replace H := H.all
 apply Runs.ret
 replace h := Option.some.inj h; subst h
 exact (Ends.H (xs := [(vb x1)]) (.inr rfl) H (.tmp (v := (vb x1)) rfl .nil) (.one (.c (.v _))))

theorem canon_plain_fn {f : Form} {g : Granule} {r : Bool} (h : canon_plain f g = some r) : Fn CX 66 [(.agg (vs (Form.cs f))), (.agg (vs (Granule.cs g)))] (vb r) := by
 refine Fn.ends Try.func66 rfl rfl rfl rfl rfl rfl ?_
 have H : Hs (⟨0, fun _ => .none⟩ : Heap) [] := Has.nil (Nat.le_refl _)
 generalize (⟨0, fun _ => .none⟩ : Heap) = σ at H ⊢
 unfold canon_plain at h
 apply Runs.then
 refine .regionH 3 rfl H ?_; intro b1 σ H
 refine .boxH (cs := (vF f)) H (by omega) (by omega) rfl rfl rfl ?_; intro σ H
 refine .boxH (cs := [(vi g.Index), (vl Span.cs g.Ticks)]) H (by omega) (by omega) rfl rfl rfl ?_; intro σ H
 refine .assign (v := (vb false)) rfl rfl ?_
 apply Ops.nil
 replace H := H.all
 apply Runs.then
 refine .regionH 9 rfl H ?_; intro b2 σ H
 refine .loadHA (off := 0) (cs := (vF f)) H 1 rfl rfl rfl rfl rfl rfl rfl nofun rfl (.fieldAddrH (off := 0) (fo := 0) H 0 rfl rfl rfl rfl rfl nofun rfl (.loadH (off := 0) (v := (vi g.Index)) H 0 rfl rfl rfl rfl rfl nofun rfl ?_))
 obtain ⟨x1, q1, h⟩ := bind_some h
 refine .call (ys := [(.agg (vF f)), (vi g.Index)]) (r := (.tup [(vl Span.cs x1.1), (vi x1.2)])) rfl (gran_Get_fn q1) rfl (.move (v := (.tup [(vl Span.cs x1.1), (vi x1.2)])) rfl rfl (.extract (v := (vl Span.cs x1.1)) rfl rfl rfl (.extract (v := (vi x1.2)) rfl rfl rfl ?_)))
 refine .assign (v := (vl Span.cs x1.1)) rfl rfl (.assign (v := (vi x1.2)) rfl rfl ?_)
 apply Ops.nil
 replace H := H.all
 apply Runs.then
 refine .regionH 9 rfl H ?_; intro b3 σ H
 refine .move (v := (vi x1.2)) rfl rfl (.int (m := x1.2) (m' := 0) (r := .bool (x1.2 == 0)) rfl rfl rfl rfl rfl (.move (v := (vb (x1.2 == 0))) rfl rfl ?_))
 obtain ⟨y1, hj1, h⟩ := bind_some h
 refine .mid 5 (K1 := fun e σ => EnvHas e [(21, (vb y1))] ∧ Has σ (b3 + 8) (b3 + 9) []) rfl ?_ ?_
 ·refine .split rfl rfl ?_ ?_ <;> intro hc1
  ·replace h := cond_T hc1 hj1
   refine .wanted rfl rfl (.move (v := (vl Span.cs x1.1)) rfl rfl (.wanted rfl rfl (.fieldAddrH (off := 0) (fo := 1) H 0 rfl rfl rfl rfl rfl nofun rfl ?_)))
   refine .wanted rfl rfl (.loadH (off := 1) (v := (vl Span.cs g.Ticks)) H 0 rfl rfl rfl rfl rfl nofun rfl (.wanted rfl rfl ?_))
   obtain ⟨x2, q2, h⟩ := bind_some h
   refine .call (ys := [(vl Span.cs x1.1), (vl Span.cs g.Ticks)]) (r := (vb x2)) rfl (spans_Same_fn q2) rfl (.pickT (v := (vb x2)) rfl rfl rfl ?_)
   apply Ops.nil
   replace h := Option.some.inj h; subst h
   exact ⟨⟨rfl, trivial⟩, ((H.erase 1).erase 0).weak (by omega) (Nat.le_refl _)⟩
  ·replace h := cond_F hc1 hj1
   refine .pass rfl rfl rfl (.pass rfl rfl rfl (.pass rfl rfl rfl (.pass rfl rfl rfl ?_)))
   refine .pickF (v := (vb false)) rfl rfl rfl ?_
   apply Ops.nil
   replace h := Option.some.inj h; subst h
   exact ⟨⟨rfl, trivial⟩, ((H.erase 1).erase 0).weak (by omega) (Nat.le_refl _)⟩
 ·rintro e σ ⟨he, H⟩
  obtain ⟨e, rfl⟩ := he.ex
  refine .assign (v := (vb y1)) rfl rfl ?_
  apply Ops.nil
  replace H := H.all
  apply Runs.ret
  replace h := Option.some.inj h; subst h
  exact (Ends.H (xs := [(vb y1)]) (.inr rfl) H (.tmp (v := (vb y1)) rfl .nil) (.one (.c (.v _))))

theorem canon_Form_fn {f : Form} {r : Form} (h : canon_Form f = some r) : Fn CX 38 [(.agg (vs (Form.cs f)))] (.agg (vs (Form.cs r))) := by
 refine Fn.ends Try.func38 rfl rfl rfl rfl rfl rfl ?_
 have H : Hs (⟨0, fun _ => .none⟩ : Heap) [] := Has.nil (Nat.le_refl _)
 generalize (⟨0, fun _ => .none⟩ : Heap) = σ at H ⊢
 unfold canon_Form at h
 apply Runs.then
 refine .regionH 2 rfl H ?_; intro b1 σ H
 refine .boxH (cs := (vF f)) H (by omega) (by omega) rfl rfl rfl ?_; intro σ H
 refine .allocH (cs := [(vi 0), (vi 0), .nils, .nils]) H (by omega) (by omega) rfl rfl ?_; intro σ H
 apply Ops.nil
 replace H := H.all
 apply Runs.then
 refine .regionH 4 rfl H ?_; intro b2 σ H
 refine .loadHA (off := 0) (cs := (vF f)) H 1 rfl rfl rfl rfl rfl rfl rfl nofun rfl ?_
 obtain ⟨x1, q1, h⟩ := bind_some h
 refine .call (ys := [(.agg (vF f))]) (r := (.agg (vF x1))) rfl (canon_core_fn q1) rfl (.allocH (cs := [(vi 0), (vi 0), .nils, .nils]) H (by omega) (by omega) rfl rfl ?_); intro σ H
 refine .storeH (off := 0) (cells' := (vF x1)) H 0 rfl rfl rfl rfl rfl rfl rfl rfl rfl nofun ?_; intro σ H
 apply Ops.nil
 replace H := H.all
 apply Runs.then
 refine .regionH 1 rfl H ?_; intro b3 σ H
 refine .assign (v := .nils) rfl rfl ?_
 apply Ops.nil
 replace H := H.all
 apply Runs.then
 apply Runs.then
 refine .regionH 4 rfl H ?_; intro b4 σ H
 refine .fieldAddrH (off := 0) (fo := 3) H 2 rfl rfl rfl rfl rfl nofun rfl (.loadH (off := 3) (v := (vl Granule.cs f.Odd)) H 2 rfl rfl rfl rfl rfl nofun rfl (.lenPt (c := Granule.cs) (xs := f.Odd) rfl rfl rfl (.move (v := (vi 0)) rfl rfl ?_)))
 apply Ops.nil
 replace H := H.all
 apply Runs.inBlock
 replace H := H.pushNil 76 2 true
 obtain ⟨y1, hj1, h⟩ := bind_some h
 obtain ⟨n1, hj1⟩ := loopO_iff.1 hj1
 refine .mono (Runs.loopO hj1 (fun s2 e σ => ∃ (w3 : PV), EnvHas e [(2, (.ptr (b1 + 1) 4 0)), (3, (.ptr (b2 + 2) 4 0)), (4, w3), (10, (vl Granule.cs f.Odd)), (11, (vi (f.Odd.length : Int))), (12, (vi s2.1))] ∧ Hs σ [.sl w3 76 2 (s2.2.map Granule.cs) true, .blk (b2 + 2) 25 (vF x1), .blk (b1 + 1) 25 [(vi 0), (vi 0), .nils, .nils]]) (fun y1 x e σ => ∃ (w4 : PV), x = .exit 0 ∧ EnvHas e [(2, (.ptr (b1 + 1) 4 0)), (3, (.ptr (b2 + 2) 4 0)), (4, w4)] ∧ Hs σ [.sl w4 76 2 (y1.map Granule.cs) true, .blk (b2 + 2) 25 (vF x1), .blk (b1 + 1) 25 [(vi 0), (vi 0), .nils, .nils]]) ⟨.nils, ⟨rfl, rfl, rfl, rfl, rfl, rfl, trivial⟩, (H.erase 3)⟩ ?_) ?_
 ·intro s2 e σ hI z h
  obtain ⟨w3, he, H⟩ := hI
  obtain ⟨e, rfl⟩ := he.ex
  unfold canon_Form.s0 at h
  apply Runs.then
  refine .regionH 1 rfl H ?_; intro b5 σ H
  refine .int (m := s2.1) (m' := (f.Odd.length : Int)) (r := .bool (decide (s2.1 < (f.Odd.length : Int)))) rfl rfl rfl rfl rfl ?_
  apply Ops.nil
  replace H := H.all
  apply Runs.then
  refine .whether (v := (decide (s2.1 < (f.Odd.length : Int)))) rfl ?_ ?_ <;> intro hc1
  ·replace h := cond_T hc1 h
   apply Runs.skip
   apply Runs.then
   obtain ⟨y2, hj2, h⟩ := bind_some h
   refine .mono (Q := fun x e σ => ∃ (w5 : PV), x = .normal ∧ EnvHas e [(2, (.ptr (b1 + 1) 4 0)), (3, (.ptr (b2 + 2) 4 0)), (4, w5), (10, (vl Granule.cs f.Odd)), (11, (vi (f.Odd.length : Int))), (12, (vi s2.1))] ∧ Hs σ [.sl w5 76 2 (y2.map Granule.cs) true, .blk (b2 + 2) 25 (vF x1), .blk (b1 + 1) 25 [(vi 0), (vi 0), .nils, .nils]]) ?_ ?_
   ·replace h := hj2
    apply Runs.inBlock
    obtain ⟨y3, hj3, h⟩ := bind_some h
    refine .mono (Q := fun x e σ => ∃ (w6 : PV), x = .normal ∧ EnvHas e [(2, (.ptr (b1 + 1) 4 0)), (3, (.ptr (b2 + 2) 4 0)), (4, w6), (10, (vl Granule.cs f.Odd)), (11, (vi (f.Odd.length : Int))), (12, (vi s2.1))] ∧ Hs σ [.sl w6 76 2 (y3.map Granule.cs) true, .blk (b2 + 2) 25 (vF x1), .blk (b1 + 1) 25 [(vi 0), (vi 0), .nils, .nils]]) ?_ ?_
    ·replace h := hj3
     apply Runs.then
     refine .regionH 4 rfl H ?_; intro b6 σ H
     obtain ⟨x2, q2, h⟩ := bind_some h
     refine .indexP (c := Granule.cs) (u := x2) rfl rfl q2 rfl rfl rfl rfl (.loadPA (cs := [(.int .i64 x2.Index), (.sl (x2.Ticks.map Span.cs))]) rfl rfl rfl rfl rfl rfl (.allocH (cs := [(vi 0), .nils]) H (by omega) (by omega) rfl rfl ?_)); intro σ H
     refine .storeH (off := 0) (cells' := [(vi x2.Index), (vl Span.cs x2.Ticks)]) H 0 rfl rfl rfl rfl rfl rfl rfl rfl rfl nofun ?_; intro σ H
     apply Ops.nil
     replace H := H.all
     apply Runs.then
     refine .regionH 4 rfl H ?_; intro b7 σ H
     refine .loadHA (off := 0) (cs := (vF x1)) H 2 rfl rfl rfl rfl rfl rfl rfl nofun rfl (.loadHA (off := 0) (cs := [(vi x2.Index), (vl Span.cs x2.Ticks)]) H 0 rfl rfl rfl rfl rfl rfl rfl nofun rfl ?_)
     obtain ⟨x3, q3, h⟩ := bind_some h
     refine .call (ys := [(.agg (vF x1)), (.agg [(vi x2.Index), (vl Span.cs x2.Ticks)])]) (r := (vb x3)) rfl (canon_plain_fn q3) rfl (.not (b := x3) rfl rfl ?_)
     apply Ops.nil
     replace H := H.all
     refine .whether (v := (!x3)) rfl ?_ ?_ <;> intro hc2
     ·replace h := cond_T hc2 h
      refine .drawnH 10 rfl (by kernel_rfl) H ?_; intro b8 σ H B8
      refine .move (v := w3) rfl rfl (.fieldAddrH (off := 0) (fo := 0) H 0 rfl rfl rfl rfl rfl (fun _ => .inl ⟨B8 0 _ rfl _ rfl, nofun⟩) rfl (.loadH (off := 0) (v := (vi x2.Index)) H 0 rfl rfl rfl rfl rfl (fun _ => .inl ⟨B8 0 _ rfl _ rfl, nofun⟩) rfl (.fieldAddrH (off := 0) (fo := 1) H 0 rfl rfl rfl rfl rfl (fun _ => .inl ⟨B8 0 _ rfl _ rfl, nofun⟩) rfl ?_)))
      refine .loadH (off := 1) (v := (vl Span.cs x2.Ticks)) H 0 rfl rfl rfl rfl rfl (fun _ => .inl ⟨B8 0 _ rfl _ rfl, nofun⟩) rfl ?_
      obtain ⟨x4, q4, h⟩ := bind_some h
      refine .call (ys := [(vl Span.cs x2.Ticks)]) (r := (vl Span.cs x4)) rfl (slices_Clone_SSpan_Span_fn q4) rfl (.buildA (cs := [(vi x2.Index), (vl Span.cs x4)]) rfl rfl (.buildS (sz := 2) ([(Granule.mk x2.Index x4)].map Granule.cs) H (by omega) (by omega) rfl rfl rfl rfl rfl rfl rfl rfl rfl ?_)); intro σ H
      obtain ⟨x5, q5, h⟩ := bind_some h
      refine .appendSt (c := Granule.cs) (v := w3) (w := (.buf (b8 + 7) 1 2)) (xs := s2.2) (ys := [(Granule.mk x2.Index x4)]) H (by omega) (by omega) 2 rfl rfl rfl (.s 0 rfl) q5 rfl rfl rfl rfl rfl (fun h => ⟨(fun id ho => .inl ⟨B8 1 _ rfl id ho, (fun _ => by kernel_rfl)⟩), (fun id ho => .inr ⟨7, (by cases ho; rfl), (fun h => nomatch h), by kernel_rfl, by decide⟩)⟩) rfl ?_; intro w7 σ H
      refine .assign (v := w7) rfl rfl ?_
      apply Ops.nil
      replace H := H.all
      replace h := Option.some.inj h; subst h
      exact ⟨w7, rfl, ⟨rfl, rfl, rfl, rfl, rfl, rfl, trivial⟩, ((H.erase 1).erase 0)⟩
     ·replace h := cond_F hc2 h
      apply Runs.skip
      replace h := Option.some.inj h; subst h
      exact ⟨w3, rfl, ⟨rfl, rfl, rfl, rfl, rfl, rfl, trivial⟩, (H.erase 0)⟩
    ·rintro x e σ ⟨w8, rfl, he, H⟩
     obtain ⟨e, rfl⟩ := he.ex
     replace h := Option.some.inj h; subst h
     exact ⟨w8, rfl, ⟨rfl, rfl, rfl, rfl, rfl, rfl, trivial⟩, H⟩
   ·rintro x e σ ⟨w9, rfl, he, H⟩
    obtain ⟨e, rfl⟩ := he.ex
    refine .regionH 2 rfl H ?_; intro b9 σ H
    refine .int (m := s2.1) (m' := 1) (r := .int .i64 (w64 (s2.1 + 1))) rfl rfl rfl rfl rfl (.move (v := (vi (w64 (s2.1 + 1)))) rfl rfl ?_)
    apply Ops.nil
    replace H := H.all
    replace h := Option.some.inj h; subst h
    exact ⟨rfl, w9, ⟨rfl, rfl, rfl, rfl, rfl, rfl, trivial⟩, H⟩
  ·replace h := cond_F hc1 h
   apply Runs.exit
   replace h := Option.some.inj h; subst h
   exact ⟨nofun, ⟨w3, rfl, ⟨rfl, rfl, rfl, trivial⟩, H⟩⟩
 ·rintro x e σ ⟨w10, rfl, he, H⟩
  obtain ⟨e, rfl⟩ := he.ex
  apply Runs.then
  refine .regionH 3 rfl H ?_; intro b10 σ H
  refine .move (v := w10) rfl rfl (.fieldAddrH (off := 0) (fo := 3) H 1 rfl rfl rfl rfl rfl nofun rfl (.storeH (off := 3) (v := w10) (ys := [w10]) (cells' := [(vi x1.Period), (vi x1.Count), (vl (cL Span.cs) x1.Core), w10]) H 1 rfl rfl rfl rfl (H.slCells (k := 0) rfl) rfl rfl rfl rfl nofun ?_)); intro σ H
  apply Ops.nil
  replace H := H.all
  apply Runs.then
  refine .regionH 2 rfl H ?_; intro b11 σ H
  refine .loadHA (off := 0) (cs := [(vi x1.Period), (vi x1.Count), (vl (cL Span.cs) x1.Core), w10]) H 1 rfl rfl rfl rfl rfl rfl rfl nofun rfl (.storeH (off := 0) (cells' := [(vi x1.Period), (vi x1.Count), (vl (cL Span.cs) x1.Core), w10]) H 2 rfl rfl rfl rfl rfl rfl rfl rfl rfl nofun ?_); intro σ H
  apply Ops.nil
  replace H := H.all
  apply Runs.ret
  replace h := Option.some.inj h; subst h
  exact (Ends.H (xs := [(.agg [(vi x1.Period), (vi x1.Count), (vl (cL Span.cs) x1.Core), w10])]) (.inr rfl) H (.agg (cs := [(vi x1.Period), (vi x1.Count), (vl (cL Span.cs) x1.Core), w10]) (off := 0) 2 rfl rfl rfl rfl rfl rfl rfl .nil) (.one (.a (.cons (.v _) (.cons (.v _) (.cons (.v _) (.cons (.s 0 rfl) .nil)))))))

theorem spans_Hull_fn {l : (List Span)} {r : Span × Bool} (h : spans_Hull l = some r) : Fn CX 40 [(vl Span.cs l)] (.tup [(.agg (vs (Span.cs r.1))), (vb r.2)]) := by
 refine Fn.ends Try.func40 rfl rfl rfl rfl rfl rfl ?_
 have H : Hs (⟨0, fun _ => .none⟩ : Heap) [] := Has.nil (Nat.le_refl _)
 generalize (⟨0, fun _ => .none⟩ : Heap) = σ at H ⊢
 unfold spans_Hull at h
 apply Runs.then
 refine .regionH 2 rfl H ?_; intro b1 σ H
 refine .allocH (cs := [(vi 0), (vi 0)]) H (by omega) (by omega) rfl rfl ?_; intro σ H
 refine .assign (v := (vb false)) rfl rfl ?_
 apply Ops.nil
 replace H := H.all
 apply Runs.then
 apply Runs.then
 refine .regionH 3 rfl H ?_; intro b2 σ H
 refine .move (v := (vl Span.cs l)) rfl rfl (.lenPt (c := Span.cs) (xs := l) rfl rfl rfl (.int (m := (l.length : Int)) (m' := 0) (r := .bool ((l.length : Int) == 0)) rfl rfl rfl rfl rfl ?_))
 apply Ops.nil
 replace H := H.all
 refine .whether (v := ((l.length : Int) == 0)) rfl ?_ ?_ <;> intro hc1
 ·replace h := cond_T hc1 h
  apply Runs.then
  refine .regionH 3 rfl H ?_; intro b3 σ H
  refine .buildA (cs := [(vi 0), (vi 0)]) rfl rfl (.storeH (off := 0) (cells' := [(vi 0), (vi 0)]) H 0 rfl rfl rfl rfl rfl rfl rfl rfl rfl nofun ?_); intro σ H
  refine .assign (v := (vb false)) rfl rfl ?_
  apply Ops.nil
  replace H := H.all
  apply Runs.ret
  replace h := Option.some.inj h; subst h
  exact (Ends.H (xs := [(.agg [(vi 0), (vi 0)]), (vb false)]) (.inr rfl) H (.agg (cs := [(vi 0), (vi 0)]) (off := 0) 0 rfl rfl rfl rfl rfl rfl rfl (.tmp (v := (vb false)) rfl .nil)) (.two (.cons (.p rfl) (.cons (.c (.v _)) .nil))))
 ·replace h := cond_F hc1 h
  apply Runs.skip
  apply Runs.then
  refine .drawnH 14 rfl (by kernel_rfl) H ?_; intro b4 σ H B4
  refine .move (v := (vl Span.cs l)) rfl rfl ?_
  obtain ⟨x1, q1, h⟩ := bind_some h
  refine .indexP (c := Span.cs) (u := x1) rfl rfl q1 rfl rfl rfl rfl (.fieldAddrP rfl rfl rfl rfl (.loadP (u := (.int .i64 x1.From)) rfl rfl rfl rfl (.move (v := (vl Span.cs l)) rfl rfl ?_)))
  refine .move (v := (vl Span.cs l)) rfl rfl (.lenPt (c := Span.cs) (xs := l) rfl rfl rfl (.int (m := (l.length : Int)) (m' := 1) (r := .int .i64 (w64 ((l.length : Int) - 1))) rfl rfl rfl rfl rfl ?_))
  obtain ⟨x2, q2, h⟩ := bind_some h
  refine .indexP (c := Span.cs) (u := x2) rfl rfl q2 rfl rfl rfl rfl (.fieldAddrP rfl rfl rfl rfl (.loadP (u := (.int .i64 x2.To)) rfl rfl rfl rfl (.buildA (cs := [(vi x1.From), (vi x2.To)]) rfl rfl ?_)))
  refine .storeH (off := 0) (cells' := [(vi x1.From), (vi x2.To)]) H 0 rfl rfl rfl rfl rfl rfl rfl rfl rfl (fun _ => .inl ⟨B4 0 _ rfl _ rfl, (fresh_static (by kernel_rfl))⟩) ?_; intro σ H
  refine .assign (v := (vb true)) rfl rfl ?_
  apply Ops.nil
  replace H := H.all
  apply Runs.ret
  replace h := Option.some.inj h; subst h
  exact (Ends.H (xs := [(.agg [(vi x1.From), (vi x2.To)]), (vb true)]) (.inr rfl) H (.agg (cs := [(vi x1.From), (vi x2.To)]) (off := 0) 0 rfl rfl rfl rfl rfl rfl rfl (.tmp (v := (vb true)) rfl .nil)) (.two (.cons (.p rfl) (.cons (.c (.v _)) .nil))))

theorem size_made_fn {f : Form} {r : size_form} (h : size_made f = some r) : Fn CX 59 [(.agg (vs (Form.cs f)))] (.agg (vs (size_form.cs r))) := by
 refine Fn.ends Try.func59 rfl rfl rfl rfl rfl rfl ?_
 have H : Hs (⟨0, fun _ => .none⟩ : Heap) [] := Has.nil (Nat.le_refl _)
 generalize (⟨0, fun _ => .none⟩ : Heap) = σ at H ⊢
 unfold size_made at h
 apply Runs.then
 refine .regionH 2 rfl H ?_; intro b1 σ H
 refine .boxH (cs := (vF f)) H (by omega) (by omega) rfl rfl rfl ?_; intro σ H
 refine .allocH (cs := [(vi 0), (vi 0), .nils, .nils, .nils]) H (by omega) (by omega) rfl rfl ?_; intro σ H
 apply Ops.nil
 replace H := H.all
 apply Runs.then
 refine .regionH 5 rfl H ?_; intro b2 σ H
 refine .loadHA (off := 0) (cs := (vF f)) H 1 rfl rfl rfl rfl rfl rfl rfl nofun rfl ?_
 obtain ⟨x1, q1, h⟩ := bind_some h
 refine .call (ys := [(.agg (vF f))]) (r := (.agg (vF x1))) rfl (canon_Form_fn q1) rfl (.buildA (cs := [(vi x1.Period), (vi x1.Count), (vl (cL Span.cs) x1.Core), (vl Granule.cs x1.Odd), .nils]) rfl rfl (.allocH (cs := [(vi 0), (vi 0), .nils, .nils, .nils]) H (by omega) (by omega) rfl rfl ?_)); intro σ H
 refine .storeH (off := 0) (cells' := [(vi x1.Period), (vi x1.Count), (vl (cL Span.cs) x1.Core), (vl Granule.cs x1.Odd), .nils]) H 0 rfl rfl rfl rfl rfl rfl rfl rfl rfl nofun ?_; intro σ H
 apply Ops.nil
 replace H := H.all
 apply Runs.then
 apply Runs.then
 refine .regionH 5 rfl H ?_; intro b3 σ H
 refine .fieldAddrH (off := 0) (fo := 0) H 0 rfl rfl rfl rfl rfl nofun rfl (.fieldAddrH (off := 0) (fo := 2) H 0 rfl rfl rfl rfl rfl nofun rfl (.loadH (off := 2) (v := (vl (cL Span.cs) x1.Core)) H 0 rfl rfl rfl rfl rfl nofun rfl (.lenPt (c := (cL Span.cs)) (xs := x1.Core) rfl rfl rfl ?_)))
 refine .move (v := (vi 0)) rfl rfl ?_
 apply Ops.nil
 replace H := H.all
 apply Runs.inBlock
 replace H := H.pushNil 116 3 true
 obtain ⟨y1, hj1, h⟩ := bind_some h
 obtain ⟨n1, hj1⟩ := loopO_iff.1 hj1
 refine .mono (Runs.loopO hj1 (fun s2 e σ => ∃ (w3 : PV), EnvHas e [(2, (.ptr (b1 + 1) 5 0)), (3, (.ptr (b2 + 3) 5 0)), (13, (vl (cL Span.cs) x1.Core)), (14, (vi (x1.Core.length : Int))), (15, (vi s2.1))] ∧ Hs σ [.sl w3 116 3 (s2.2.map size_spot.cs) true, .blk (b2 + 3) 96 [(vi x1.Period), (vi x1.Count), (vl (cL Span.cs) x1.Core), (vl Granule.cs x1.Odd), w3], .blk (b1 + 1) 96 [(vi 0), (vi 0), .nils, .nils, .nils]]) (fun y1 x e σ => ∃ (w4 : PV), x = .exit 0 ∧ EnvHas e [(2, (.ptr (b1 + 1) 5 0)), (3, (.ptr (b2 + 3) 5 0))] ∧ Hs σ [.sl w4 116 3 (y1.map size_spot.cs) true, .blk (b2 + 3) 96 [(vi x1.Period), (vi x1.Count), (vl (cL Span.cs) x1.Core), (vl Granule.cs x1.Odd), w4], .blk (b1 + 1) 96 [(vi 0), (vi 0), .nils, .nils, .nils]]) ⟨.nils, ⟨rfl, rfl, rfl, rfl, rfl, trivial⟩, (H.erase 3)⟩ ?_) ?_
 ·intro s2 e σ hI z h
  obtain ⟨w3, he, H⟩ := hI
  obtain ⟨e, rfl⟩ := he.ex
  unfold size_made.s0 at h
  apply Runs.then
  refine .regionH 1 rfl H ?_; intro b4 σ H
  refine .int (m := s2.1) (m' := (x1.Core.length : Int)) (r := .bool (decide (s2.1 < (x1.Core.length : Int)))) rfl rfl rfl rfl rfl ?_
  apply Ops.nil
  replace H := H.all
  apply Runs.then
  refine .whether (v := (decide (s2.1 < (x1.Core.length : Int)))) rfl ?_ ?_ <;> intro hc1
  ·replace h := cond_T hc1 h
   apply Runs.skip
   apply Runs.then
   obtain ⟨y2, hj2, h⟩ := bind_some h
   refine .mono (Q := fun x e σ => ∃ (w5 : PV), x = .normal ∧ EnvHas e [(2, (.ptr (b1 + 1) 5 0)), (3, (.ptr (b2 + 3) 5 0)), (13, (vl (cL Span.cs) x1.Core)), (14, (vi (x1.Core.length : Int))), (15, (vi s2.1))] ∧ Hs σ [.sl w5 116 3 (y2.map size_spot.cs) true, .blk (b2 + 3) 96 [(vi x1.Period), (vi x1.Count), (vl (cL Span.cs) x1.Core), (vl Granule.cs x1.Odd), w5], .blk (b1 + 1) 96 [(vi 0), (vi 0), .nils, .nils, .nils]]) ?_ ?_
   ·replace h := hj2
    apply Runs.inBlock
    obtain ⟨y3, hj3, h⟩ := bind_some h
    refine .mono (Q := fun x e σ => ∃ (w6 : PV), x = .normal ∧ EnvHas e [(2, (.ptr (b1 + 1) 5 0)), (3, (.ptr (b2 + 3) 5 0)), (13, (vl (cL Span.cs) x1.Core)), (14, (vi (x1.Core.length : Int))), (15, (vi s2.1))] ∧ Hs σ [.sl w6 116 3 (y3.map size_spot.cs) true, .blk (b2 + 3) 96 [(vi x1.Period), (vi x1.Count), (vl (cL Span.cs) x1.Core), (vl Granule.cs x1.Odd), w6], .blk (b1 + 1) 96 [(vi 0), (vi 0), .nils, .nils, .nils]]) ?_ ?_
    ·replace h := hj3
     apply Runs.then
     refine .regionH 5 rfl H ?_; intro b5 σ H
     refine .move (v := (vi s2.1)) rfl rfl ?_
     obtain ⟨x2, q2, h⟩ := bind_some h
     refine .indexP (c := (cL Span.cs)) (u := x2) rfl rfl q2 rfl rfl rfl rfl (.loadP (u := (.sl (x2.map Span.cs))) rfl rfl rfl rfl (.assign (v := (vi s2.1)) rfl rfl (.assign (v := (vl Span.cs x2)) rfl rfl ?_)))
     apply Ops.nil
     replace H := H.all
     apply Runs.then
     refine .regionH 8 rfl H ?_; intro b6 σ H
     refine .move (v := (vl Span.cs x2)) rfl rfl ?_
     obtain ⟨x3, q3, h⟩ := bind_some h
     refine .call (ys := [(vl Span.cs x2)]) (r := (.tup [(.agg [(vi x3.1.From), (vi x3.1.To)]), (vb x3.2)])) rfl (spans_Hull_fn q3) rfl (.move (v := (.tup [(.agg [(vi x3.1.From), (vi x3.1.To)]), (vb x3.2)])) rfl rfl (.extract (v := (.agg [(vi x3.1.From), (vi x3.1.To)])) rfl rfl rfl (.extract (v := (vb x3.2)) rfl rfl rfl ?_)))
     refine .allocH (cs := [(vi 0), (vi 0)]) H (by omega) (by omega) rfl rfl ?_; intro σ H
     refine .storeH (off := 0) (cells' := [(vi x3.1.From), (vi x3.1.To)]) H 0 rfl rfl rfl rfl rfl rfl rfl rfl rfl nofun ?_; intro σ H
     refine .assign (v := (vb x3.2)) rfl rfl ?_
     apply Ops.nil
     replace H := H.all
     apply Runs.then
     refine .regionH 1 rfl H ?_; intro b7 σ H
     refine .move (v := (vb x3.2)) rfl rfl ?_
     apply Ops.nil
     replace H := H.all
     refine .whether (v := x3.2) rfl ?_ ?_ <;> intro hc2
     ·replace h := cond_T hc2 h
      refine .regionH 13 rfl H ?_; intro b8 σ H
      refine .fieldAddrH (off := 0) (fo := 4) H 2 rfl rfl rfl rfl rfl nofun rfl (.loadH (off := 4) (v := w3) H 2 rfl rfl rfl rfl rfl nofun rfl (.move (v := (vi s2.1)) rfl rfl (.fieldAddrH (off := 0) (fo := 0) H 0 rfl rfl rfl rfl rfl nofun rfl ?_)))
      refine .loadH (off := 0) (v := (vi x3.1.From)) H 0 rfl rfl rfl rfl rfl nofun rfl (.fieldAddrH (off := 0) (fo := 1) H 0 rfl rfl rfl rfl rfl nofun rfl (.loadH (off := 1) (v := (vi x3.1.To)) H 0 rfl rfl rfl rfl rfl nofun rfl (.buildA (cs := [(vi x3.1.From), (vi x3.1.To)]) rfl rfl ?_)))
      refine .buildA (cs := [(vi s2.1), (vi x3.1.From), (vi x3.1.To)]) rfl rfl (.buildS (sz := 3) ([(size_spot.mk s2.1 (size_place.mk x3.1.From x3.1.To))].map size_spot.cs) H (by omega) (by omega) rfl rfl rfl rfl rfl rfl rfl rfl rfl ?_); intro σ H
      obtain ⟨x4, q4, h⟩ := bind_some h
      refine .appendSt (c := size_spot.cs) (v := w3) (w := (.buf (b8 + 9) 1 3)) (xs := s2.2) (ys := [(size_spot.mk s2.1 (size_place.mk x3.1.From x3.1.To))]) H (by omega) (by omega) 2 rfl rfl rfl (.s 0 rfl) q4 rfl rfl rfl rfl rfl nofun rfl ?_; intro w7 σ H
      refine .fieldAddrH (off := 0) (fo := 4) H 3 rfl rfl rfl rfl rfl nofun rfl (.storeH (off := 4) (v := w7) (ys := [w7]) (cells' := [(vi x1.Period), (vi x1.Count), (vl (cL Span.cs) x1.Core), (vl Granule.cs x1.Odd), w7]) H 3 rfl rfl rfl rfl (H.slCells (k := 2) rfl) rfl rfl rfl rfl nofun ?_); intro σ H
      apply Ops.nil
      replace H := H.all
      replace h := Option.some.inj h; subst h
      exact ⟨w7, rfl, ⟨rfl, rfl, rfl, rfl, rfl, trivial⟩, ((H.erase 1).erase 0)⟩
     ·replace h := cond_F hc2 h
      apply Runs.skip
      replace h := Option.some.inj h; subst h
      exact ⟨w3, rfl, ⟨rfl, rfl, rfl, rfl, rfl, trivial⟩, (H.erase 0)⟩
    ·rintro x e σ ⟨w8, rfl, he, H⟩
     obtain ⟨e, rfl⟩ := he.ex
     replace h := Option.some.inj h; subst h
     exact ⟨w8, rfl, ⟨rfl, rfl, rfl, rfl, rfl, trivial⟩, H⟩
   ·rintro x e σ ⟨w9, rfl, he, H⟩
    obtain ⟨e, rfl⟩ := he.ex
    refine .regionH 2 rfl H ?_; intro b9 σ H
    refine .int (m := s2.1) (m' := 1) (r := .int .i64 (w64 (s2.1 + 1))) rfl rfl rfl rfl rfl (.move (v := (vi (w64 (s2.1 + 1)))) rfl rfl ?_)
    apply Ops.nil
    replace H := H.all
    replace h := Option.some.inj h; subst h
    exact ⟨rfl, w9, ⟨rfl, rfl, rfl, rfl, rfl, trivial⟩, H⟩
  ·replace h := cond_F hc1 h
   apply Runs.exit
   replace h := Option.some.inj h; subst h
   exact ⟨nofun, ⟨w3, rfl, ⟨rfl, rfl, trivial⟩, H⟩⟩
 ·rintro x e σ ⟨w10, rfl, he, H⟩
  obtain ⟨e, rfl⟩ := he.ex
  apply Runs.then
  refine .regionH 2 rfl H ?_; intro b10 σ H
  refine .loadHA (off := 0) (cs := [(vi x1.Period), (vi x1.Count), (vl (cL Span.cs) x1.Core), (vl Granule.cs x1.Odd), w10]) H 1 rfl rfl rfl rfl rfl rfl rfl nofun rfl (.storeH (off := 0) (cells' := [(vi x1.Period), (vi x1.Count), (vl (cL Span.cs) x1.Core), (vl Granule.cs x1.Odd), w10]) H 2 rfl rfl rfl rfl rfl rfl rfl rfl rfl nofun ?_); intro σ H
  apply Ops.nil
  replace H := H.all
  apply Runs.ret
  replace h := Option.some.inj h; subst h
  exact (Ends.H (xs := [(.agg [(vi x1.Period), (vi x1.Count), (vl (cL Span.cs) x1.Core), (vl Granule.cs x1.Odd), w10])]) (.inr rfl) H (.agg (cs := [(vi x1.Period), (vi x1.Count), (vl (cL Span.cs) x1.Core), (vl Granule.cs x1.Odd), w10]) (off := 0) 2 rfl rfl rfl rfl rfl rfl rfl .nil) (.one (.a (.cons (.v _) (.cons (.v _) (.cons (.v _) (.cons (.v _) (.cons (.s 0 rfl) .nil))))))))

theorem size_form_core_1_fn {n : Int} {p1' : size_form} {p2' : Int} {p3' : Int} {id0' : Nat} {id1' : Nat} {id2' : Nat} {r : Bool} (h : size_form_core_1 n p1' p2' p3' = some r) : FnH CX 113 [(vi n), (.ptr id0' 5 0), (.ptr id1' 1 0), (.ptr id2' 1 0)] (vb r) [.blk id0' 96 (vG p1'), .blk id1' 3 [(vi p2')], .blk id2' 3 [(vi p3')]] := by
 refine FnH.of Try.func113 rfl rfl rfl rfl rfl rfl (fun h => by have := all_get h 1 rfl; cases this) ?_
 intro σ L hC H
 have hC0 := hC
 obtain ⟨k0', hk0', hC⟩ := hC.inv
 obtain ⟨k1', hk1', hC⟩ := hC.inv
 obtain ⟨k2', hk2', hC⟩ := hC.inv
 unfold size_form_core_1 at h
 apply Runs.then
 refine .regionH 1 rfl H ?_; intro b1 σ H
 refine .assign (v := (vb false)) rfl rfl ?_
 apply Ops.nil
 replace H := H.all
 apply Runs.then
 refine .drawnH 16 rfl (by kernel_rfl) H ?_; intro b2 σ H B2
 refine .fieldAddrH (off := 0) (fo := 4) H k0' hk0' rfl rfl rfl rfl (fun _ => .inl ⟨B2 (k0' + 0) _ hk0' _ rfl, nofun⟩) rfl (.loadH (off := 4) (v := (vl size_spot.cs p1'.spots)) H k0' hk0' rfl rfl rfl rfl (fun _ => .inl ⟨B2 (k0' + 0) _ hk0' _ rfl, nofun⟩) rfl (.move (v := (vi n)) rfl rfl ?_))
 obtain ⟨x1, q1, h⟩ := bind_some h
 refine .indexP (c := size_spot.cs) (u := x1) rfl rfl q1 rfl rfl rfl rfl (.fieldAddrP rfl rfl rfl rfl (.fieldAddrP rfl rfl rfl rfl (.loadP (u := (.int .i64 x1.place.last)) rfl rfl rfl rfl ?_)))
 refine .loadH (off := 0) (v := (vi p2')) H k1' hk1' rfl rfl rfl rfl (fun _ => .inl ⟨B2 (k1' + 0) _ hk1' _ rfl, nofun⟩) rfl (.fieldAddrH (off := 0) (fo := 0) H k0' hk0' rfl rfl rfl rfl (fun _ => .inl ⟨B2 (k0' + 0) _ hk0' _ rfl, nofun⟩) rfl (.fieldAddrH (off := 0) (fo := 0) H k0' hk0' rfl rfl rfl rfl (fun _ => .inl ⟨B2 (k0' + 0) _ hk0' _ rfl, nofun⟩) rfl (.loadH (off := 0) (v := (vi p1'.Form.Period)) H k0' hk0' rfl rfl rfl rfl (fun _ => .inl ⟨B2 (k0' + 0) _ hk0' _ rfl, nofun⟩) rfl ?_)))
 refine .int (m := p2') (m' := p1'.Form.Period) (r := .int .i64 (w64 (p2' * p1'.Form.Period))) rfl rfl rfl rfl rfl (.int (m := x1.place.last) (m' := (w64 (p2' * p1'.Form.Period))) (r := .int .i64 (w64 (x1.place.last - (w64 (p2' * p1'.Form.Period))))) rfl rfl rfl rfl rfl (.loadH (off := 0) (v := (vi p3')) H k2' hk2' rfl rfl rfl rfl (fun _ => .inl ⟨B2 (k2' + 0) _ hk2' _ rfl, nofun⟩) rfl (.int (m := (w64 (x1.place.last - (w64 (p2' * p1'.Form.Period))))) (m' := p3') (r := .bool (decide ((w64 (x1.place.last - (w64 (p2' * p1'.Form.Period)))) ≥ p3'))) rfl rfl rfl rfl rfl ?_)))
 refine .assign (v := (vb (decide ((w64 (x1.place.last - (w64 (p2' * p1'.Form.Period)))) ≥ p3')))) rfl rfl ?_
 apply Ops.nil
 replace H := H.all
 apply Runs.ret
 replace h := Option.some.inj h; subst h
 exact (EndsH.H (xs := [(vb (decide ((w64 (x1.place.last - (w64 (p2' * p1'.Form.Period)))) ≥ p3')))]) (.inr rfl) H (.tmp (v := (vb (decide ((w64 (x1.place.last - (w64 (p2' * p1'.Form.Period)))) ≥ p3')))) rfl .nil) (.one (.c (.v _))) 0 rfl)

theorem size_form_core_2_fn {n : Int} {p1' : size_form} {p2' : Int} {p3' : Int} {id0' : Nat} {id1' : Nat} {id2' : Nat} {r : Bool} (h : size_form_core_2 n p1' p2' p3' = some r) : FnH CX 114 [(vi n), (.ptr id0' 5 0), (.ptr id1' 1 0), (.ptr id2' 1 0)] (vb r) [.blk id0' 96 (vG p1'), .blk id1' 3 [(vi p2')], .blk id2' 3 [(vi p3')]] := by
 refine FnH.of Try.func114 rfl rfl rfl rfl rfl rfl (fun h => by have := all_get h 1 rfl; cases this) ?_
 intro σ L hC H
 have hC0 := hC
 obtain ⟨k0', hk0', hC⟩ := hC.inv
 obtain ⟨k1', hk1', hC⟩ := hC.inv
 obtain ⟨k2', hk2', hC⟩ := hC.inv
 unfold size_form_core_2 at h
 apply Runs.then
 refine .regionH 1 rfl H ?_; intro b1 σ H
 refine .assign (v := (vb false)) rfl rfl ?_
 apply Ops.nil
 replace H := H.all
 apply Runs.then
 refine .drawnH 16 rfl (by kernel_rfl) H ?_; intro b2 σ H B2
 refine .fieldAddrH (off := 0) (fo := 4) H k0' hk0' rfl rfl rfl rfl (fun _ => .inl ⟨B2 (k0' + 0) _ hk0' _ rfl, nofun⟩) rfl (.loadH (off := 4) (v := (vl size_spot.cs p1'.spots)) H k0' hk0' rfl rfl rfl rfl (fun _ => .inl ⟨B2 (k0' + 0) _ hk0' _ rfl, nofun⟩) rfl (.move (v := (vi n)) rfl rfl ?_))
 obtain ⟨x1, q1, h⟩ := bind_some h
 refine .indexP (c := size_spot.cs) (u := x1) rfl rfl q1 rfl rfl rfl rfl (.fieldAddrP rfl rfl rfl rfl (.fieldAddrP rfl rfl rfl rfl (.loadP (u := (.int .i64 x1.place.first)) rfl rfl rfl rfl ?_)))
 refine .loadH (off := 0) (v := (vi p2')) H k1' hk1' rfl rfl rfl rfl (fun _ => .inl ⟨B2 (k1' + 0) _ hk1' _ rfl, nofun⟩) rfl (.fieldAddrH (off := 0) (fo := 0) H k0' hk0' rfl rfl rfl rfl (fun _ => .inl ⟨B2 (k0' + 0) _ hk0' _ rfl, nofun⟩) rfl (.fieldAddrH (off := 0) (fo := 0) H k0' hk0' rfl rfl rfl rfl (fun _ => .inl ⟨B2 (k0' + 0) _ hk0' _ rfl, nofun⟩) rfl (.loadH (off := 0) (v := (vi p1'.Form.Period)) H k0' hk0' rfl rfl rfl rfl (fun _ => .inl ⟨B2 (k0' + 0) _ hk0' _ rfl, nofun⟩) rfl ?_)))
 refine .int (m := p2') (m' := p1'.Form.Period) (r := .int .i64 (w64 (p2' * p1'.Form.Period))) rfl rfl rfl rfl rfl (.int (m := x1.place.first) (m' := (w64 (p2' * p1'.Form.Period))) (r := .int .i64 (w64 (x1.place.first + (w64 (p2' * p1'.Form.Period))))) rfl rfl rfl rfl rfl (.loadH (off := 0) (v := (vi p3')) H k2' hk2' rfl rfl rfl rfl (fun _ => .inl ⟨B2 (k2' + 0) _ hk2' _ rfl, nofun⟩) rfl (.int (m := (w64 (x1.place.first + (w64 (p2' * p1'.Form.Period))))) (m' := p3') (r := .bool (decide ((w64 (x1.place.first + (w64 (p2' * p1'.Form.Period)))) > p3'))) rfl rfl rfl rfl rfl ?_)))
 refine .assign (v := (vb (decide ((w64 (x1.place.first + (w64 (p2' * p1'.Form.Period)))) > p3')))) rfl rfl ?_
 apply Ops.nil
 replace H := H.all
 apply Runs.ret
 replace h := Option.some.inj h; subst h
 exact (EndsH.H (xs := [(vb (decide ((w64 (x1.place.first + (w64 (p2' * p1'.Form.Period)))) > p3')))]) (.inr rfl) H (.tmp (v := (vb (decide ((w64 (x1.place.first + (w64 (p2' * p1'.Form.Period)))) > p3')))) rfl .nil) (.one (.c (.v _))) 0 rfl)

theorem size_form_core_fn {f : size_form} {t : Int} {up : Bool} {r : Int} (h : size_form_core f t up = some r) : Fn CX 89 [(.agg (vs (size_form.cs f))), (vi t), (vb up)] (vi r) := by
 refine Fn.ends Try.func89 rfl rfl rfl rfl rfl rfl ?_
 have H : Hs (⟨0, fun _ => .none⟩ : Heap) [] := Has.nil (Nat.le_refl _)
 generalize (⟨0, fun _ => .none⟩ : Heap) = σ at H ⊢
 unfold size_form_core at h
 apply Runs.then
 refine .regionH 3 rfl H ?_; intro b1 σ H
 refine .boxH (cs := (vG f)) H (by omega) (by omega) rfl rfl rfl ?_; intro σ H
 refine .boxH (cs := [(vi t)]) H (by omega) (by omega) rfl rfl rfl ?_; intro σ H
 refine .assign (v := (vi 0)) rfl rfl ?_
 apply Ops.nil
 replace H := H.all
 apply Runs.then
 apply Runs.then
 refine .regionH 1 rfl H ?_; intro b2 σ H
 refine .move (v := (vb up)) rfl rfl ?_
 apply Ops.nil
 replace H := H.all
 refine .whether (v := up) rfl ?_ ?_ <;> intro hc1
 ·replace h := cond_T hc1 h
  apply Runs.then
  refine .drawnH 24 rfl (by kernel_rfl) H ?_; intro b3 σ H B3
  refine .fieldAddrH (off := 0) (fo := 4) H 1 rfl rfl rfl rfl rfl (fun _ => .inl ⟨B3 1 _ rfl _ rfl, nofun⟩) rfl (.loadH (off := 4) (v := (vl size_spot.cs f.spots)) H 1 rfl rfl rfl rfl rfl (fun _ => .inl ⟨B3 1 _ rfl _ rfl, nofun⟩) rfl (.fieldAddrH (off := 0) (fo := 4) H 1 rfl rfl rfl rfl rfl (fun _ => .inl ⟨B3 1 _ rfl _ rfl, nofun⟩) rfl (.loadH (off := 4) (v := (vl size_spot.cs f.spots)) H 1 rfl rfl rfl rfl rfl (fun _ => .inl ⟨B3 1 _ rfl _ rfl, nofun⟩) rfl ?_)))
  refine .lenPt (c := size_spot.cs) (xs := f.spots) rfl rfl rfl (.int (m := (f.spots.length : Int)) (m' := 1) (r := .int .i64 (w64 ((f.spots.length : Int) - 1))) rfl rfl rfl rfl rfl ?_)
  obtain ⟨x1, q1, h⟩ := bind_some h
  refine .indexP (c := size_spot.cs) (u := x1) rfl rfl q1 rfl rfl rfl rfl (.fieldAddrP rfl rfl rfl rfl (.fieldAddrP rfl rfl rfl rfl (.loadP (u := (.int .i64 x1.place.last)) rfl rfl rfl rfl ?_)))
  refine .loadH (off := 0) (v := (vi t)) H 0 rfl rfl rfl rfl rfl (fun _ => .inl ⟨B3 0 _ rfl _ rfl, nofun⟩) rfl (.int (m := x1.place.last) (m' := t) (r := .int .i64 (w64 (x1.place.last - t))) rfl rfl rfl rfl rfl (.fieldAddrH (off := 0) (fo := 0) H 1 rfl rfl rfl rfl rfl (fun _ => .inl ⟨B3 1 _ rfl _ rfl, nofun⟩) rfl (.fieldAddrH (off := 0) (fo := 0) H 1 rfl rfl rfl rfl rfl (fun _ => .inl ⟨B3 1 _ rfl _ rfl, nofun⟩) rfl ?_)))
  refine .loadH (off := 0) (v := (vi f.Form.Period)) H 1 rfl rfl rfl rfl rfl (fun _ => .inl ⟨B3 1 _ rfl _ rfl, nofun⟩) rfl ?_
  obtain ⟨x2, q2, h⟩ := bind_some h
  refine .call (ys := [(vi (w64 (x1.place.last - t))), (vi f.Form.Period)]) (r := (.tup [(vi x2.1), (vi x2.2.1), (vi x2.2.2)])) rfl (safe_Floor_fn q2) rfl (.move (v := (.tup [(vi x2.1), (vi x2.2.1), (vi x2.2.2)])) rfl rfl (.extract (v := (vi x2.1)) rfl rfl rfl (.extract (v := (vi x2.2.1)) rfl rfl rfl ?_)))
  refine .extract (v := (vi x2.2.2)) rfl rfl rfl (.allocH (cs := [(vi 0)]) H (by omega) (by omega) rfl rfl ?_); intro σ H
  refine .storeH (off := 0) (cells' := [(vi x2.1)]) H 0 rfl rfl rfl rfl rfl rfl rfl rfl rfl (fun _ => .inr ⟨20, rfl, by kernel_rfl, by decide⟩) ?_; intro σ H
  refine .assign (v := (vi x2.2.1)) rfl rfl (.assign (v := (vi x2.2.2)) rfl rfl ?_)
  apply Ops.nil
  replace H := H.all
  apply Runs.then
  refine .regionH 6 rfl H ?_; intro b4 σ H
  refine .fieldAddrH (off := 0) (fo := 4) H 2 rfl rfl rfl rfl rfl nofun rfl (.loadH (off := 4) (v := (vl size_spot.cs f.spots)) H 2 rfl rfl rfl rfl rfl nofun rfl (.lenPt (c := size_spot.cs) (xs := f.spots) rfl rfl rfl (.makeClo (fs := []) (cs := [(.ptr (b1 + 0) 5 0), (.ptr (b3 + 20) 1 0), (.ptr (b1 + 1) 1 0)]) rfl rfl rfl rfl ?_)))
  obtain ⟨x3, q3, h⟩ := bind_some h
  refine .callH (ys := [(vi (f.spots.length : Int)), (.clo 113 [] [(.ptr (b1 + 0) 5 0), (.ptr (b3 + 20) 1 0), (.ptr (b1 + 1) 1 0)])]) (r := (vi x3)) H rfl (sort_Search_fn (C := [.blk (b1 + 0) 96 (vG f), .blk (b3 + 20) 3 [(vi x2.1)], .blk (b1 + 1) 3 [(vi t)]]) rfl (fun h => by simp [PV.pure] at h) (fun z0 y hz => (CloH.clo (size_form_core_1_fn hz))) q3) (.cons 2 rfl (.cons 0 rfl (.cons 1 rfl .nil))) nofun rfl ?_; intro σ H
  refine .assign (v := (vi x3)) rfl rfl ?_
  apply Ops.nil
  replace H := H.all
  apply Runs.then
  refine .drawnH 13 rfl (by kernel_rfl) H ?_; intro b5 σ H B5
  refine .fieldAddrH (off := 0) (fo := 4) H 2 rfl rfl rfl rfl rfl (fun _ => .inl ⟨B5 2 _ rfl _ rfl, nofun⟩) rfl (.loadH (off := 4) (v := (vl size_spot.cs f.spots)) H 2 rfl rfl rfl rfl rfl (fun _ => .inl ⟨B5 2 _ rfl _ rfl, nofun⟩) rfl (.move (v := (vi x3)) rfl rfl ?_))
  obtain ⟨x4, q4, h⟩ := bind_some h
  refine .indexP (c := size_spot.cs) (u := x4) rfl rfl q4 rfl rfl rfl rfl (.fieldAddrP rfl rfl rfl rfl (.loadP (u := (.int .i64 x4.index)) rfl rfl rfl rfl (.loadH (off := 0) (v := (vi x2.1)) H 0 rfl rfl rfl rfl rfl (fun _ => .inl ⟨B5 0 _ rfl _ rfl, nofun⟩) rfl ?_)))
  refine .fieldAddrH (off := 0) (fo := 0) H 2 rfl rfl rfl rfl rfl (fun _ => .inl ⟨B5 2 _ rfl _ rfl, nofun⟩) rfl (.fieldAddrH (off := 0) (fo := 1) H 2 rfl rfl rfl rfl rfl (fun _ => .inl ⟨B5 2 _ rfl _ rfl, nofun⟩) rfl (.loadH (off := 1) (v := (vi f.Form.Count)) H 2 rfl rfl rfl rfl rfl (fun _ => .inl ⟨B5 2 _ rfl _ rfl, nofun⟩) rfl (.int (m := x2.1) (m' := f.Form.Count) (r := .int .i64 (w64 (x2.1 * f.Form.Count))) rfl rfl rfl rfl rfl ?_)))
  refine .int (m := x4.index) (m' := (w64 (x2.1 * f.Form.Count))) (r := .int .i64 (w64 (x4.index - (w64 (x2.1 * f.Form.Count))))) rfl rfl rfl rfl rfl (.assign (v := (vi (w64 (x4.index - (w64 (x2.1 * f.Form.Count)))))) rfl rfl ?_)
  apply Ops.nil
  replace H := H.all
  apply Runs.ret
  replace h := Option.some.inj h; subst h
  exact (Ends.H (xs := [(vi (w64 (x4.index - (w64 (x2.1 * f.Form.Count)))))]) (.inr rfl) H (.tmp (v := (vi (w64 (x4.index - (w64 (x2.1 * f.Form.Count)))))) rfl .nil) (.one (.c (.v _))))
 ·replace h := cond_F hc1 h
  apply Runs.skip
  apply Runs.then
  refine .drawnH 20 rfl (by kernel_rfl) H ?_; intro b6 σ H B6
  refine .loadH (off := 0) (v := (vi t)) H 0 rfl rfl rfl rfl rfl (fun _ => .inl ⟨B6 0 _ rfl _ rfl, nofun⟩) rfl (.fieldAddrH (off := 0) (fo := 4) H 1 rfl rfl rfl rfl rfl (fun _ => .inl ⟨B6 1 _ rfl _ rfl, nofun⟩) rfl (.loadH (off := 4) (v := (vl size_spot.cs f.spots)) H 1 rfl rfl rfl rfl rfl (fun _ => .inl ⟨B6 1 _ rfl _ rfl, nofun⟩) rfl ?_))
  obtain ⟨x5, q5, h⟩ := bind_some h
  refine .indexP (c := size_spot.cs) (u := x5) rfl rfl q5 rfl rfl rfl rfl (.fieldAddrP rfl rfl rfl rfl (.fieldAddrP rfl rfl rfl rfl (.loadP (u := (.int .i64 x5.place.first)) rfl rfl rfl rfl ?_)))
  refine .int (m := t) (m' := x5.place.first) (r := .int .i64 (w64 (t - x5.place.first))) rfl rfl rfl rfl rfl (.fieldAddrH (off := 0) (fo := 0) H 1 rfl rfl rfl rfl rfl (fun _ => .inl ⟨B6 1 _ rfl _ rfl, nofun⟩) rfl (.fieldAddrH (off := 0) (fo := 0) H 1 rfl rfl rfl rfl rfl (fun _ => .inl ⟨B6 1 _ rfl _ rfl, nofun⟩) rfl (.loadH (off := 0) (v := (vi f.Form.Period)) H 1 rfl rfl rfl rfl rfl (fun _ => .inl ⟨B6 1 _ rfl _ rfl, nofun⟩) rfl ?_)))
  obtain ⟨x6, q6, h⟩ := bind_some h
  refine .call (ys := [(vi (w64 (t - x5.place.first))), (vi f.Form.Period)]) (r := (.tup [(vi x6.1), (vi x6.2.1), (vi x6.2.2)])) rfl (safe_Floor_fn q6) rfl (.move (v := (.tup [(vi x6.1), (vi x6.2.1), (vi x6.2.2)])) rfl rfl (.extract (v := (vi x6.1)) rfl rfl rfl (.extract (v := (vi x6.2.1)) rfl rfl rfl ?_)))
  refine .extract (v := (vi x6.2.2)) rfl rfl rfl (.allocH (cs := [(vi 0)]) H (by omega) (by omega) rfl rfl ?_); intro σ H
  refine .storeH (off := 0) (cells' := [(vi x6.1)]) H 0 rfl rfl rfl rfl rfl rfl rfl rfl rfl (fun _ => .inr ⟨16, rfl, by kernel_rfl, by decide⟩) ?_; intro σ H
  refine .assign (v := (vi x6.2.1)) rfl rfl (.assign (v := (vi x6.2.2)) rfl rfl ?_)
  apply Ops.nil
  replace H := H.all
  apply Runs.then
  refine .regionH 6 rfl H ?_; intro b7 σ H
  refine .fieldAddrH (off := 0) (fo := 4) H 2 rfl rfl rfl rfl rfl nofun rfl (.loadH (off := 4) (v := (vl size_spot.cs f.spots)) H 2 rfl rfl rfl rfl rfl nofun rfl (.lenPt (c := size_spot.cs) (xs := f.spots) rfl rfl rfl (.makeClo (fs := []) (cs := [(.ptr (b1 + 0) 5 0), (.ptr (b6 + 16) 1 0), (.ptr (b1 + 1) 1 0)]) rfl rfl rfl rfl ?_)))
  obtain ⟨x7, q7, h⟩ := bind_some h
  refine .callH (ys := [(vi (f.spots.length : Int)), (.clo 114 [] [(.ptr (b1 + 0) 5 0), (.ptr (b6 + 16) 1 0), (.ptr (b1 + 1) 1 0)])]) (r := (vi x7)) H rfl (sort_Search_fn (C := [.blk (b1 + 0) 96 (vG f), .blk (b6 + 16) 3 [(vi x6.1)], .blk (b1 + 1) 3 [(vi t)]]) rfl (fun h => by simp [PV.pure] at h) (fun z0 y hz => (CloH.clo (size_form_core_2_fn hz))) q7) (.cons 2 rfl (.cons 0 rfl (.cons 1 rfl .nil))) nofun rfl ?_; intro σ H
  refine .assign (v := (vi x7)) rfl rfl ?_
  apply Ops.nil
  replace H := H.all
  apply Runs.then
  refine .drawnH 14 rfl (by kernel_rfl) H ?_; intro b8 σ H B8
  refine .fieldAddrH (off := 0) (fo := 4) H 2 rfl rfl rfl rfl rfl (fun _ => .inl ⟨B8 2 _ rfl _ rfl, nofun⟩) rfl (.loadH (off := 4) (v := (vl size_spot.cs f.spots)) H 2 rfl rfl rfl rfl rfl (fun _ => .inl ⟨B8 2 _ rfl _ rfl, nofun⟩) rfl (.move (v := (vi x7)) rfl rfl (.int (m := x7) (m' := 1) (r := .int .i64 (w64 (x7 - 1))) rfl rfl rfl rfl rfl ?_)))
  obtain ⟨x8, q8, h⟩ := bind_some h
  refine .indexP (c := size_spot.cs) (u := x8) rfl rfl q8 rfl rfl rfl rfl (.fieldAddrP rfl rfl rfl rfl (.loadP (u := (.int .i64 x8.index)) rfl rfl rfl rfl (.loadH (off := 0) (v := (vi x6.1)) H 0 rfl rfl rfl rfl rfl (fun _ => .inl ⟨B8 0 _ rfl _ rfl, nofun⟩) rfl ?_)))
  refine .fieldAddrH (off := 0) (fo := 0) H 2 rfl rfl rfl rfl rfl (fun _ => .inl ⟨B8 2 _ rfl _ rfl, nofun⟩) rfl (.fieldAddrH (off := 0) (fo := 1) H 2 rfl rfl rfl rfl rfl (fun _ => .inl ⟨B8 2 _ rfl _ rfl, nofun⟩) rfl (.loadH (off := 1) (v := (vi f.Form.Count)) H 2 rfl rfl rfl rfl rfl (fun _ => .inl ⟨B8 2 _ rfl _ rfl, nofun⟩) rfl (.int (m := x6.1) (m' := f.Form.Count) (r := .int .i64 (w64 (x6.1 * f.Form.Count))) rfl rfl rfl rfl rfl ?_)))
  refine .int (m := x8.index) (m' := (w64 (x6.1 * f.Form.Count))) (r := .int .i64 (w64 (x8.index + (w64 (x6.1 * f.Form.Count))))) rfl rfl rfl rfl rfl (.assign (v := (vi (w64 (x8.index + (w64 (x6.1 * f.Form.Count)))))) rfl rfl ?_)
  apply Ops.nil
  replace H := H.all
  apply Runs.ret
  replace h := Option.some.inj h; subst h
  exact (Ends.H (xs := [(vi (w64 (x8.index + (w64 (x6.1 * f.Form.Count)))))]) (.inr rfl) H (.tmp (v := (vi (w64 (x8.index + (w64 (x6.1 * f.Form.Count)))))) rfl .nil) (.one (.c (.v _))))

theorem size_form_odd_1_fn {g : Granule} {i : Int} {r : Int} (h : size_form_odd_1 g i = r) : Fn CX 130 [(.agg (vs (Granule.cs g))), (vi i)] (vi r) := by
 refine Fn.ends Try.func130 rfl rfl rfl rfl rfl rfl ?_
 have H : Hs (⟨0, fun _ => .none⟩ : Heap) [] := Has.nil (Nat.le_refl _)
 generalize (⟨0, fun _ => .none⟩ : Heap) = σ at H ⊢
 unfold size_form_odd_1 at h
 apply Runs.then
 refine .regionH 2 rfl H ?_; intro b1 σ H
 refine .boxH (cs := [(vi g.Index), (vl Span.cs g.Ticks)]) H (by omega) (by omega) rfl rfl rfl ?_; intro σ H
 refine .assign (v := (vi 0)) rfl rfl ?_
 apply Ops.nil
 replace H := H.all
 apply Runs.then
 refine .regionH 5 rfl H ?_; intro b2 σ H
 refine .fieldAddrH (off := 0) (fo := 0) H 0 rfl rfl rfl rfl rfl nofun rfl (.loadH (off := 0) (v := (vi g.Index)) H 0 rfl rfl rfl rfl rfl nofun rfl (.move (v := (vi i)) rfl rfl (.call (ys := [(vi g.Index), (vi i)]) (r := (vi (cmp_Compare_int g.Index i))) rfl (cmp_Compare_int_fn rfl) rfl ?_)))
 refine .assign (v := (vi (cmp_Compare_int g.Index i))) rfl rfl ?_
 apply Ops.nil
 replace H := H.all
 apply Runs.ret
 subst h
 exact (Ends.H (xs := [(vi (cmp_Compare_int g.Index i))]) (.inr rfl) H (.tmp (v := (vi (cmp_Compare_int g.Index i))) rfl .nil) (.one (.c (.v _))))

theorem size_form_odd_fn {f : size_form} {i : Int} {r : Int} (h : size_form_odd f i = some r) : Fn CX 112 [(.agg (vs (size_form.cs f))), (vi i)] (vi r) := by
 refine Fn.ends Try.func112 rfl rfl rfl rfl rfl rfl ?_
 have H : Hs (⟨0, fun _ => .none⟩ : Heap) [] := Has.nil (Nat.le_refl _)
 generalize (⟨0, fun _ => .none⟩ : Heap) = σ at H ⊢
 unfold size_form_odd at h
 apply Runs.then
 refine .regionH 2 rfl H ?_; intro b1 σ H
 refine .boxH (cs := (vG f)) H (by omega) (by omega) rfl rfl rfl ?_; intro σ H
 refine .assign (v := (vi 0)) rfl rfl ?_
 apply Ops.nil
 replace H := H.all
 apply Runs.then
 refine .regionH 10 rfl H ?_; intro b2 σ H
 refine .fieldAddrH (off := 0) (fo := 0) H 0 rfl rfl rfl rfl rfl nofun rfl (.fieldAddrH (off := 0) (fo := 3) H 0 rfl rfl rfl rfl rfl nofun rfl (.loadH (off := 3) (v := (vl Granule.cs f.Form.Odd)) H 0 rfl rfl rfl rfl rfl nofun rfl (.move (v := (vi i)) rfl rfl ?_)))
 obtain ⟨x1, q1, h⟩ := bind_some h
 refine .callH (ys := [(vl Granule.cs f.Form.Odd), (vi i), (.v (.fn 130))]) (r := (.tup [(vi x1.1), (vb x1.2)])) H rfl (slices_BinarySearchFunc_SGranule_Granule_int_fn (C := []) rfl (fun _ => rfl) (fun z0 z1 y hz => (CloH.fn (Fn.toH (size_form_odd_1_fn (Option.some.inj hz)) _))) q1) .nil nofun rfl ?_; intro σ H
 refine .move (v := (.tup [(vi x1.1), (vb x1.2)])) rfl rfl (.extract (v := (vi x1.1)) rfl rfl rfl (.extract (v := (vb x1.2)) rfl rfl rfl (.assign (v := (vi x1.1)) rfl rfl ?_)))
 refine .assign (v := (vb x1.2)) rfl rfl ?_
 apply Ops.nil
 replace H := H.all
 apply Runs.then
 apply Runs.then
 refine .regionH 2 rfl H ?_; intro b3 σ H
 refine .move (v := (vb x1.2)) rfl rfl (.not (b := x1.2) rfl rfl ?_)
 apply Ops.nil
 replace H := H.all
 refine .whether (v := (!x1.2)) rfl ?_ ?_ <;> intro hc1
 ·replace h := cond_T hc1 h
  apply Runs.then
  refine .regionH 1 rfl H ?_; intro b4 σ H
  refine .assign (v := (vi (-1))) rfl rfl ?_
  apply Ops.nil
  replace H := H.all
  apply Runs.ret
  replace h := Option.some.inj h; subst h
  exact (Ends.H (xs := [(vi (-1))]) (.inr rfl) H (.tmp (v := (vi (-1))) rfl .nil) (.one (.c (.v _))))
 ·replace h := cond_F hc1 h
  apply Runs.skip
  apply Runs.then
  refine .regionH 2 rfl H ?_; intro b5 σ H
  refine .move (v := (vi x1.1)) rfl rfl (.assign (v := (vi x1.1)) rfl rfl ?_)
  apply Ops.nil
  replace H := H.all
  apply Runs.ret
  replace h := Option.some.inj h; subst h
  exact (Ends.H (xs := [(vi x1.1)]) (.inr rfl) H (.tmp (v := (vi x1.1)) rfl .nil) (.one (.c (.v _))))

theorem size_form_has_fn {f : size_form} {i : Int} {r : Bool} (h : size_form_has f i = some r) : Fn CX 115 [(.agg (vs (size_form.cs f))), (vi i)] (vb r) := by
 refine Fn.ends Try.func115 rfl rfl rfl rfl rfl rfl ?_
 have H : Hs (⟨0, fun _ => .none⟩ : Heap) [] := Has.nil (Nat.le_refl _)
 generalize (⟨0, fun _ => .none⟩ : Heap) = σ at H ⊢
 unfold size_form_has at h
 apply Runs.then
 refine .regionH 2 rfl H ?_; intro b1 σ H
 refine .boxH (cs := (vG f)) H (by omega) (by omega) rfl rfl rfl ?_; intro σ H
 refine .assign (v := (vb false)) rfl rfl ?_
 apply Ops.nil
 replace H := H.all
 apply Runs.then
 refine .regionH 12 rfl H ?_; intro b2 σ H
 refine .move (v := (vi i)) rfl rfl (.fieldAddrH (off := 0) (fo := 0) H 0 rfl rfl rfl rfl rfl nofun rfl (.fieldAddrH (off := 0) (fo := 1) H 0 rfl rfl rfl rfl rfl nofun rfl (.loadH (off := 1) (v := (vi f.Form.Count)) H 0 rfl rfl rfl rfl rfl nofun rfl ?_)))
 obtain ⟨x1, q1, h⟩ := bind_some h
 refine .call (ys := [(vi i), (vi f.Form.Count)]) (r := (.tup [(vi x1.1), (vi x1.2.1), (vi x1.2.2)])) rfl (safe_Floor_fn q1) rfl (.move (v := (.tup [(vi x1.1), (vi x1.2.1), (vi x1.2.2)])) rfl rfl (.extract (v := (vi x1.1)) rfl rfl rfl (.extract (v := (vi x1.2.1)) rfl rfl rfl ?_)))
 refine .extract (v := (vi x1.2.2)) rfl rfl rfl (.assign (v := (vi x1.1)) rfl rfl (.assign (v := (vi x1.2.1)) rfl rfl (.assign (v := (vi x1.2.2)) rfl rfl ?_)))
 apply Ops.nil
 replace H := H.all
 apply Runs.then
 refine .regionH 9 rfl H ?_; intro b3 σ H
 refine .fieldAddrH (off := 0) (fo := 0) H 0 rfl rfl rfl rfl rfl nofun rfl (.fieldAddrH (off := 0) (fo := 2) H 0 rfl rfl rfl rfl rfl nofun rfl (.loadH (off := 2) (v := (vl (cL Span.cs) f.Form.Core)) H 0 rfl rfl rfl rfl rfl nofun rfl (.move (v := (vi x1.2.1)) rfl rfl ?_)))
 obtain ⟨x2, q2, h⟩ := bind_some h
 refine .indexP (c := (cL Span.cs)) (u := x2) rfl rfl q2 rfl rfl rfl rfl (.loadP (u := (.sl (x2.map Span.cs))) rfl rfl rfl rfl (.lenPt (c := Span.cs) (xs := x2) rfl rfl rfl (.int (m := (x2.length : Int)) (m' := 0) (r := .bool (decide ((x2.length : Int) > 0))) rfl rfl rfl rfl rfl ?_)))
 refine .assign (v := (vb (decide ((x2.length : Int) > 0)))) rfl rfl ?_
 apply Ops.nil
 replace H := H.all
 apply Runs.ret
 replace h := Option.some.inj h; subst h
 exact (Ends.H (xs := [(vb (decide ((x2.length : Int) > 0)))]) (.inr rfl) H (.tmp (v := (vb (decide ((x2.length : Int) > 0)))) rfl .nil) (.one (.c (.v _))))

theorem size_form_reach_fn {f : size_form} {t : Int} {up : Bool} {r : Int × Bool} (h : size_form_reach f t up = some r) : Fn CX 90 [(.agg (vs (size_form.cs f))), (vi t), (vb up)] (.tup [(vi r.1), (vb r.2)]) := by
 refine Fn.ends Try.func90 rfl rfl rfl rfl rfl rfl ?_
 have H : Hs (⟨0, fun _ => .none⟩ : Heap) [] := Has.nil (Nat.le_refl _)
 generalize (⟨0, fun _ => .none⟩ : Heap) = σ at H ⊢
 unfold size_form_reach at h
 apply Runs.then
 refine .regionH 3 rfl H ?_; intro b1 σ H
 refine .boxH (cs := (vG f)) H (by omega) (by omega) rfl rfl rfl ?_; intro σ H
 refine .assign (v := (vi 0)) rfl rfl (.assign (v := (vb false)) rfl rfl ?_)
 apply Ops.nil
 replace H := H.all
 apply Runs.then
 refine .regionH 1 rfl H ?_; intro b2 σ H
 refine .allocH (cs := [(vi 0), (vb false)]) H (by omega) (by omega) rfl rfl ?_; intro σ H
 apply Ops.nil
 replace H := H.all
 apply Runs.then
 refine .regionH 1 rfl H ?_; intro b3 σ H
 refine .assign (v := (vi (-1))) rfl rfl ?_
 apply Ops.nil
 replace H := H.all
 apply Runs.then
 obtain ⟨y1, hj1, h⟩ := bind_some h
 refine .mono (Q := fun x e σ => x = .normal ∧ EnvHas e [(1, (vi t)), (2, (vb up)), (3, (.ptr (b1 + 0) 5 0)), (8, (.ptr (b2 + 0) 2 0)), (9, (vi y1))] ∧ Hs σ [.blk (b2 + 0) 119 [(vi 0), (vb false)], .blk (b1 + 0) 96 (vG f)]) ?_ ?_
 ·replace h := hj1
  apply Runs.then
  refine .regionH 1 rfl H ?_; intro b4 σ H
  refine .move (v := (vb up)) rfl rfl ?_
  apply Ops.nil
  replace H := H.all
  refine .whether (v := up) rfl ?_ ?_ <;> intro hc1
  ·replace h := cond_T hc1 h
   refine .regionH 1 rfl H ?_; intro b5 σ H
   refine .assign (v := (vi 1)) rfl rfl ?_
   apply Ops.nil
   replace H := H.all
   replace h := Option.some.inj h; subst h
   exact ⟨rfl, ⟨rfl, rfl, rfl, rfl, rfl, trivial⟩, H⟩
  ·replace h := cond_F hc1 h
   apply Runs.skip
   replace h := Option.some.inj h; subst h
   exact ⟨rfl, ⟨rfl, rfl, rfl, rfl, rfl, trivial⟩, H⟩
 ·rintro x e σ ⟨rfl, he, H⟩
  obtain ⟨e, rfl⟩ := he.ex
  apply Runs.then
  obtain ⟨y2, hj2, h⟩ := bind_some h
  refine .mono (Q := fun x e σ => x = .normal ∧ EnvHas e [(1, (vi t)), (2, (vb up)), (3, (.ptr (b1 + 0) 5 0)), (8, (.ptr (b2 + 0) 2 0)), (9, (vi y1))] ∧ Hs σ [.blk (b2 + 0) 119 [(vi y2.1), (vb y2.2)], .blk (b1 + 0) 96 (vG f)]) ?_ ?_
  ·replace h := hj2
   apply Runs.then
   refine .regionH 4 rfl H ?_; intro b6 σ H
   refine .fieldAddrH (off := 0) (fo := 0) H 1 rfl rfl rfl rfl rfl nofun rfl (.fieldAddrH (off := 0) (fo := 1) H 1 rfl rfl rfl rfl rfl nofun rfl (.loadH (off := 1) (v := (vi f.Form.Count)) H 1 rfl rfl rfl rfl rfl nofun rfl (.int (m := f.Form.Count) (m' := 0) (r := .bool (decide (f.Form.Count > 0))) rfl rfl rfl rfl rfl ?_)))
   apply Ops.nil
   replace H := H.all
   refine .whether (v := (decide (f.Form.Count > 0))) rfl ?_ ?_ <;> intro hc2
   ·replace h := cond_T hc2 h
    apply Runs.then
    refine .regionH 5 rfl H ?_; intro b7 σ H
    refine .loadHA (off := 0) (cs := (vG f)) H 1 rfl rfl rfl rfl rfl rfl rfl nofun rfl (.move (v := (vi t)) rfl rfl (.move (v := (vb up)) rfl rfl ?_))
    obtain ⟨x1, q1, h⟩ := bind_some h
    refine .call (ys := [(.agg (vG f)), (vi t), (vb up)]) (r := (vi x1)) rfl (size_form_core_fn q1) rfl (.assign (v := (vi x1)) rfl rfl ?_)
    apply Ops.nil
    replace H := H.all
    apply Runs.then
    apply Runs.inBlock
    obtain ⟨y3, hj3, h⟩ := bind_some h
    obtain ⟨n1, hj3⟩ := loopO_iff.1 hj3
    refine .mono (Runs.loopO hj3 (fun s1 e σ => EnvHas e [(1, (vi t)), (2, (vb up)), (3, (.ptr (b1 + 0) 5 0)), (8, (.ptr (b2 + 0) 2 0)), (9, (vi y1)), (10, (vi s1))] ∧ Hs σ [.blk (b2 + 0) 119 [(vi 0), (vb false)], .blk (b1 + 0) 96 (vG f)]) (fun y3 x e σ => x = .exit 0 ∧ EnvHas e [(1, (vi t)), (2, (vb up)), (3, (.ptr (b1 + 0) 5 0)), (8, (.ptr (b2 + 0) 2 0)), (9, (vi y1)), (10, (vi y3))] ∧ Hs σ [.blk (b2 + 0) 119 [(vi 0), (vb false)], .blk (b1 + 0) 96 (vG f)]) ⟨⟨rfl, rfl, rfl, rfl, rfl, rfl, trivial⟩, H⟩ ?_) ?_
    ·intro s1 e σ hI z h
     obtain ⟨he, H⟩ := hI
     obtain ⟨e, rfl⟩ := he.ex
     unfold size_form_reach.s0 at h
     apply Runs.then
     apply Runs.then
     refine .regionH 10 rfl H ?_; intro b8 σ H
     refine .loadHA (off := 0) (cs := (vG f)) H 1 rfl rfl rfl rfl rfl rfl rfl nofun rfl (.move (v := (vi s1)) rfl rfl ?_)
     obtain ⟨x2, q2, h⟩ := bind_some h
     refine .call (ys := [(.agg (vG f)), (vi s1)]) (r := (vi x2)) rfl (size_form_odd_fn q2) rfl (.int (m := x2) (m' := 0) (r := .bool (decide (x2 ≥ 0))) rfl rfl rfl rfl rfl (.move (v := (vb (decide (x2 ≥ 0)))) rfl rfl ?_))
     obtain ⟨y4, hj4, h⟩ := bind_some h
     refine .mid 5 (K1 := fun e σ => EnvHas e [(33, (vb y4)), (1, (vi t)), (2, (vb up)), (3, (.ptr (b1 + 0) 5 0)), (8, (.ptr (b2 + 0) 2 0)), (9, (vi y1)), (10, (vi s1))] ∧ Has σ (b8 + 10) (b8 + 10) [.blk (b2 + 0) 119 [(vi 0), (vb false)], .blk (b1 + 0) 96 (vG f)]) rfl ?_ ?_
     ·refine .split rfl rfl ?_ ?_ <;> intro hc3
      ·replace h := cond_T hc3 hj4
       refine .pass rfl rfl rfl (.pass rfl rfl rfl (.pass rfl rfl rfl (.pass rfl rfl rfl ?_)))
       refine .pickT (v := (vb true)) rfl rfl rfl ?_
       apply Ops.nil
       replace h := Option.some.inj h; subst h
       exact ⟨⟨rfl, rfl, rfl, rfl, rfl, rfl, rfl, trivial⟩, H.weak (by omega) (Nat.le_refl _)⟩
      ·replace h := cond_F hc3 hj4
       refine .wanted rfl rfl (.loadHA (off := 0) (cs := (vG f)) H 1 rfl rfl rfl rfl rfl rfl rfl nofun rfl (.wanted rfl rfl (.move (v := (vi s1)) rfl rfl ?_)))
       refine .wanted rfl rfl ?_
       obtain ⟨x3, q3, h⟩ := bind_some h
       refine .call (ys := [(.agg (vG f)), (vi s1)]) (r := (vb x3)) rfl (size_form_has_fn q3) rfl (.wanted rfl rfl (.not (b := x3) rfl rfl (.pickF (v := (vb (!x3))) rfl rfl rfl ?_)))
       apply Ops.nil
       replace h := Option.some.inj h; subst h
       exact ⟨⟨rfl, rfl, rfl, rfl, rfl, rfl, rfl, trivial⟩, H.weak (by omega) (Nat.le_refl _)⟩
     ·rintro e σ ⟨he, H⟩
      obtain ⟨e, rfl⟩ := he.ex
      apply Ops.nil
      replace H := H.all
      refine .whether (v := y4) rfl ?_ ?_ <;> intro hc4
      ·replace h := cond_T hc4 h
       apply Runs.skip
       apply Runs.inBlock
       refine .regionH 4 rfl H ?_; intro b9 σ H
       refine .move (v := (vi s1)) rfl rfl (.move (v := (vi y1)) rfl rfl (.int (m := s1) (m' := y1) (r := .int .i64 (w64 (s1 + y1))) rfl rfl rfl rfl rfl (.assign (v := (vi (w64 (s1 + y1)))) rfl rfl ?_)))
       apply Ops.nil
       replace H := H.all
       replace h := Option.some.inj h; subst h
       exact ⟨rfl, ⟨rfl, rfl, rfl, rfl, rfl, rfl, trivial⟩, H⟩
      ·replace h := cond_F hc4 h
       apply Runs.exit
       replace h := Option.some.inj h; subst h
       exact ⟨nofun, ⟨rfl, ⟨rfl, rfl, rfl, rfl, rfl, rfl, trivial⟩, H⟩⟩
    ·rintro x e σ ⟨rfl, he, H⟩
     obtain ⟨e, rfl⟩ := he.ex
     refine .regionH 6 rfl H ?_; intro b10 σ H
     refine .move (v := (vi y1)) rfl rfl (.neg (m := y1) rfl rfl (.move (v := (vi y3)) rfl rfl (.int (m := (w64 (0 - y1))) (m' := y3) (r := .int .i64 (w64 ((w64 (0 - y1)) * y3))) rfl rfl rfl rfl rfl ?_)))
     refine .buildS (sz := 1) ([(w64 ((w64 (0 - y1)) * y3))].map (cI .i64)) H (by omega) (by omega) rfl rfl rfl rfl rfl rfl rfl rfl rfl ?_; intro σ H
     obtain ⟨y5, hj5, h⟩ := bind_some h
     refine .callI (PostA := fun r A => r = (.tup []) ∧ A = [.sl (.buf (b10 + 4) 1 1) 3 1 (y5.1.map (cI .i64)) true, .blk (b2 + 0) 119 [(vi y5.2.1), (vb y5.2.2)], .blk (b1 + 0) 96 (vG f)]) (cv := (.v (.fn 86))) (ys := [(.ptr (b2 + 0) 2 0), (.buf (b10 + 4) 1 1)]) (L := []) [.sl (.buf (b10 + 4) 1 1) 3 1 ([(w64 ((w64 (0 - y1)) * y3))].map (cI .i64)) true, .blk (b2 + 0) 119 [(vi 0), (vb false)], .blk (b1 + 0) 96 (vG f)] H rfl rfl (fun T1 hT H => callI_of Try.func86 rfl (fun _ => rfl) rfl rfl rfl rfl ?_) nofun rfl ?_
     ·replace h := hj5
      apply Runs.then
      refine .regionH 3 rfl H ?_; intro b11 σ H
      refine .move (v := (.buf (b10 + 4) 1 1)) rfl rfl (.lenSt (c := (cI .i64)) (xs := [(w64 ((w64 (0 - y1)) * y3))]) H 0 rfl rfl rfl nofun rfl (.move (v := (vi 0)) rfl rfl ?_))
      apply Ops.nil
      replace H := H.all
      apply Runs.inBlock
      obtain ⟨y6, hj6, h⟩ := bind_some h
      obtain ⟨n2, hj6⟩ := loopO_iff.1 hj6
      refine .mono (Runs.loopO hj6 (fun s2 e σ => EnvHas e [(0, (.ptr (b2 + 0) 2 0)), (6, (.buf (b10 + 4) 1 1)), (7, (vi s2.1)), (8, (vi s2.2.1))] ∧ Hs σ (.sl (.buf (b10 + 4) 1 1) 3 1 (s2.2.2.1.map (cI .i64)) true :: .blk (b2 + 0) 119 [(vi s2.2.2.2.1), (vb s2.2.2.2.2)] :: .blk (b1 + 0) 96 (vG f) :: T1)) (fun y6 x e σ => x = .exit 0 ∧ EnvHas e [] ∧ Hs σ (.sl (.buf (b10 + 4) 1 1) 3 1 (y6.1.map (cI .i64)) true :: .blk (b2 + 0) 119 [(vi y6.2.1), (vb y6.2.2)] :: .blk (b1 + 0) 96 (vG f) :: T1)) ⟨⟨rfl, rfl, rfl, rfl, trivial⟩, H⟩ ?_) ?_
      ·intro s2 e σ hI z h
       obtain ⟨he, H⟩ := hI
       obtain ⟨e, rfl⟩ := he.ex
       unfold size_form_reach.s1 at h
       apply Runs.then
       refine .regionH 1 rfl H ?_; intro b12 σ H
       refine .int (m := s2.2.1) (m' := s2.1) (r := .bool (decide (s2.2.1 < s2.1))) rfl rfl rfl rfl rfl ?_
       apply Ops.nil
       replace H := H.all
       apply Runs.then
       refine .whether (v := (decide (s2.2.1 < s2.1))) rfl ?_ ?_ <;> intro hc5
       ·replace h := cond_T hc5 h
        apply Runs.skip
        apply Runs.then
        obtain ⟨y7, hj7, h⟩ := bind_some h
        refine .mono (Q := fun x e σ => x = .normal ∧ EnvHas e [(0, (.ptr (b2 + 0) 2 0)), (6, (.buf (b10 + 4) 1 1)), (7, (vi s2.1)), (8, (vi s2.2.1))] ∧ Hs σ (.sl (.buf (b10 + 4) 1 1) 3 1 (s2.2.2.1.map (cI .i64)) true :: .blk (b2 + 0) 119 [(vi y7.1), (vb y7.2)] :: .blk (b1 + 0) 96 (vG f) :: T1)) ?_ ?_
        ·replace h := hj7
         apply Runs.inBlock
         obtain ⟨y8, hj8, h⟩ := bind_some h
         refine .mono (Q := fun x e σ => x = .normal ∧ EnvHas e [(0, (.ptr (b2 + 0) 2 0)), (6, (.buf (b10 + 4) 1 1)), (7, (vi s2.1)), (8, (vi s2.2.1))] ∧ Hs σ (.sl (.buf (b10 + 4) 1 1) 3 1 (s2.2.2.1.map (cI .i64)) true :: .blk (b2 + 0) 119 [(vi y8.1), (vb y8.2)] :: .blk (b1 + 0) 96 (vG f) :: T1)) ?_ ?_
         ·replace h := hj8
          apply Runs.then
          refine .regionH 3 rfl H ?_; intro b13 σ H
          obtain ⟨x4, q4, h⟩ := bind_some h
          refine .indexS H 0 rfl rfl rfl (at?_map q4) rfl rfl nofun rfl ?_; intro id1 hv1
          refine .loadS (id := id1) (j := 0) (w := (.int .i64 x4)) H 0 rfl hv1 (by simp) (at?_map q4) rfl (by simp) rfl rfl rfl nofun rfl ?_
          refine .assign (v := (vi x4)) rfl rfl ?_
          apply Ops.nil
          replace H := H.all
          apply Runs.then
          refine .regionH 13 rfl H ?_; intro b14 σ H
          refine .move (v := (.ptr (b2 + 0) 2 0)) rfl rfl (.nilCheckH (off := 0) H 1 rfl rfl rfl nofun rfl (.fieldAddrH (off := 0) (fo := 1) H 1 rfl rfl rfl rfl rfl nofun rfl (.loadH (off := 1) (v := (vb s2.2.2.2.2)) H 1 rfl rfl rfl rfl rfl nofun rfl ?_)))
          refine .not (b := s2.2.2.2.2) rfl rfl (.move (v := (vb (!s2.2.2.2.2))) rfl rfl ?_)
          refine .mid 7 (K1 := fun e σ => EnvHas e [(24, (vb ((!s2.2.2.2.2) || (decide (x4 > s2.2.2.2.1))))), (0, (.ptr (b2 + 0) 2 0)), (5, (vi x4)), (6, (.buf (b10 + 4) 1 1)), (7, (vi s2.1)), (8, (vi s2.2.1))] ∧ Has σ (b14 + 13) (b14 + 13) (.sl (.buf (b10 + 4) 1 1) 3 1 (s2.2.2.1.map (cI .i64)) true :: .blk (b2 + 0) 119 [(vi s2.2.2.2.1), (vb s2.2.2.2.2)] :: .blk (b1 + 0) 96 (vG f) :: T1)) rfl ?_ ?_
          ·refine .split rfl rfl ?_ ?_ <;> intro hc6
           ·skip
            refine .pass rfl rfl rfl (.pass rfl rfl rfl (.pass rfl rfl rfl (.pass rfl rfl rfl ?_)))
            refine .pass rfl rfl rfl (.pass rfl rfl rfl (.pickT (v := (vb true)) rfl rfl rfl ?_))
            apply Ops.nil
            exact ⟨⟨or_T hc6, rfl, rfl, rfl, rfl, rfl, trivial⟩, H.weak (by omega) (Nat.le_refl _)⟩
           ·skip
            refine .wanted rfl rfl (.move (v := (vi x4)) rfl rfl (.wanted rfl rfl (.move (v := (.ptr (b2 + 0) 2 0)) rfl rfl ?_)))
            refine .wanted rfl rfl (.nilCheckH (off := 0) H 1 rfl rfl rfl nofun rfl (.wanted rfl rfl (.fieldAddrH (off := 0) (fo := 0) H 1 rfl rfl rfl rfl rfl nofun rfl ?_)))
            refine .wanted rfl rfl (.loadH (off := 0) (v := (vi s2.2.2.2.1)) H 1 rfl rfl rfl rfl rfl nofun rfl (.wanted rfl rfl (.int (m := x4) (m' := s2.2.2.2.1) (r := .bool (decide (x4 > s2.2.2.2.1))) rfl rfl rfl rfl rfl ?_)))
            refine .pickF (v := (vb (decide (x4 > s2.2.2.2.1)))) rfl rfl rfl ?_
            apply Ops.nil
            exact ⟨⟨or_F hc6, rfl, rfl, rfl, rfl, rfl, trivial⟩, H.weak (by omega) (Nat.le_refl _)⟩
          ·rintro e σ ⟨he, H⟩
           obtain ⟨e, rfl⟩ := he.ex
           apply Ops.nil
           replace H := H.all
           refine .whether (v := ((!s2.2.2.2.2) || (decide (x4 > s2.2.2.2.1)))) rfl ?_ ?_ <;> intro hc7
           ·replace h := cond_T hc7 h
            refine .regionH 9 rfl H ?_; intro b15 σ H
            refine .move (v := (.ptr (b2 + 0) 2 0)) rfl rfl (.move (v := (.ptr (b2 + 0) 2 0)) rfl rfl (.move (v := (vi x4)) rfl rfl (.nilCheckH (off := 0) H 1 rfl rfl rfl nofun rfl ?_)))
            refine .fieldAddrH (off := 0) (fo := 0) H 1 rfl rfl rfl rfl rfl nofun rfl (.storeH (off := 0) (cells' := [(vi x4), (vb s2.2.2.2.2)]) H 1 rfl rfl rfl rfl rfl rfl rfl rfl rfl nofun ?_); intro σ H
            refine .nilCheckH (off := 0) H 1 rfl rfl rfl nofun rfl (.fieldAddrH (off := 0) (fo := 1) H 1 rfl rfl rfl rfl rfl nofun rfl (.storeH (off := 1) (cells' := [(vi x4), (vb true)]) H 1 rfl rfl rfl rfl rfl rfl rfl rfl rfl nofun ?_)); intro σ H
            apply Ops.nil
            replace H := H.all
            replace h := Option.some.inj h; subst h
            exact ⟨rfl, ⟨rfl, rfl, rfl, rfl, trivial⟩, H⟩
           ·replace h := cond_F hc7 h
            apply Runs.skip
            replace h := Option.some.inj h; subst h
            exact ⟨rfl, ⟨rfl, rfl, rfl, rfl, trivial⟩, H⟩
         ·rintro x e σ ⟨rfl, he, H⟩
          obtain ⟨e, rfl⟩ := he.ex
          replace h := Option.some.inj h; subst h
          exact ⟨rfl, ⟨rfl, rfl, rfl, rfl, trivial⟩, H⟩
        ·rintro x e σ ⟨rfl, he, H⟩
         obtain ⟨e, rfl⟩ := he.ex
         refine .regionH 2 rfl H ?_; intro b16 σ H
         refine .int (m := s2.2.1) (m' := 1) (r := .int .i64 (w64 (s2.2.1 + 1))) rfl rfl rfl rfl rfl (.move (v := (vi (w64 (s2.2.1 + 1)))) rfl rfl ?_)
         apply Ops.nil
         replace H := H.all
         replace h := Option.some.inj h; subst h
         exact ⟨rfl, ⟨rfl, rfl, rfl, rfl, trivial⟩, H⟩
       ·replace h := cond_F hc5 h
        apply Runs.exit
        replace h := Option.some.inj h; subst h
        exact ⟨nofun, ⟨rfl, trivial, H⟩⟩
      ·rintro x e σ ⟨rfl, he, H⟩
       obtain ⟨e, rfl⟩ := he.ex
       replace h := Option.some.inj h; subst h
       exact ⟨.inl rfl, _, resD_ok H .nil, _, ⟨rfl, rfl⟩, H⟩
     ·rintro _ _ σ ⟨rfl, rfl⟩ H
      apply Ops.nil
      replace H := H.all
      replace h := Option.some.inj h; subst h
      exact ⟨rfl, ⟨rfl, rfl, rfl, rfl, rfl, trivial⟩, (H.erase 0)⟩
   ·replace h := cond_F hc2 h
    apply Runs.skip
    replace h := Option.some.inj h; subst h
    exact ⟨rfl, ⟨rfl, rfl, rfl, rfl, rfl, trivial⟩, H⟩
  ·rintro x e σ ⟨rfl, he, H⟩
   obtain ⟨e, rfl⟩ := he.ex
   apply Runs.then
   apply Runs.then
   refine .regionH 5 rfl H ?_; intro b17 σ H
   refine .fieldAddrH (off := 0) (fo := 0) H 1 rfl rfl rfl rfl rfl nofun rfl (.fieldAddrH (off := 0) (fo := 3) H 1 rfl rfl rfl rfl rfl nofun rfl (.loadH (off := 3) (v := (vl Granule.cs f.Form.Odd)) H 1 rfl rfl rfl rfl rfl nofun rfl (.lenPt (c := Granule.cs) (xs := f.Form.Odd) rfl rfl rfl ?_)))
   refine .move (v := (vi 0)) rfl rfl ?_
   apply Ops.nil
   replace H := H.all
   apply Runs.inBlock
   obtain ⟨y9, hj9, h⟩ := bind_some h
   obtain ⟨n3, hj9⟩ := loopO_iff.1 hj9
   refine .mono (Runs.loopO hj9 (fun s3 e σ => EnvHas e [(1, (vi t)), (2, (vb up)), (8, (.ptr (b2 + 0) 2 0)), (9, (vi y1)), (45, (vl Granule.cs f.Form.Odd)), (46, (vi (f.Form.Odd.length : Int))), (47, (vi s3.1))] ∧ Hs σ [.blk (b2 + 0) 119 [(vi s3.2.1), (vb s3.2.2)]]) (fun y9 x e σ => x = .exit 2 ∧ EnvHas e [(8, (.ptr (b2 + 0) 2 0)), (9, (vi y1))] ∧ Hs σ [.blk (b2 + 0) 119 [(vi y9.1), (vb y9.2)]]) ⟨⟨rfl, rfl, rfl, rfl, rfl, rfl, rfl, trivial⟩, (H.erase 1)⟩ ?_) ?_
   ·intro s3 e σ hI z h
    obtain ⟨he, H⟩ := hI
    obtain ⟨e, rfl⟩ := he.ex
    unfold size_form_reach.s2 at h
    apply Runs.then
    refine .regionH 1 rfl H ?_; intro b18 σ H
    refine .int (m := s3.1) (m' := (f.Form.Odd.length : Int)) (r := .bool (decide (s3.1 < (f.Form.Odd.length : Int)))) rfl rfl rfl rfl rfl ?_
    apply Ops.nil
    replace H := H.all
    apply Runs.then
    refine .whether (v := (decide (s3.1 < (f.Form.Odd.length : Int)))) rfl ?_ ?_ <;> intro hc8
    ·replace h := cond_T hc8 h
     apply Runs.skip
     apply Runs.then
     obtain ⟨y10, hj10, h⟩ := bind_some h
     refine .mono (Q := fun x e σ => x = .normal ∧ EnvHas e [(1, (vi t)), (2, (vb up)), (8, (.ptr (b2 + 0) 2 0)), (9, (vi y1)), (45, (vl Granule.cs f.Form.Odd)), (46, (vi (f.Form.Odd.length : Int))), (47, (vi s3.1))] ∧ Hs σ [.blk (b2 + 0) 119 [(vi y10.1), (vb y10.2)]]) ?_ ?_
     ·replace h := hj10
      apply Runs.inBlock
      obtain ⟨y11, hj11, h⟩ := bind_some h
      refine .mono (Q := fun x e σ => x = .normal ∧ EnvHas e [(1, (vi t)), (2, (vb up)), (8, (.ptr (b2 + 0) 2 0)), (9, (vi y1)), (45, (vl Granule.cs f.Form.Odd)), (46, (vi (f.Form.Odd.length : Int))), (47, (vi s3.1))] ∧ Hs σ [.blk (b2 + 0) 119 [(vi y11.1), (vb y11.2)]]) ?_ ?_
      ·replace h := hj11
       apply Runs.then
       refine .regionH 4 rfl H ?_; intro b19 σ H
       obtain ⟨x5, q5, h⟩ := bind_some h
       refine .indexP (c := Granule.cs) (u := x5) rfl rfl q5 rfl rfl rfl rfl (.loadPA (cs := [(.int .i64 x5.Index), (.sl (x5.Ticks.map Span.cs))]) rfl rfl rfl rfl rfl rfl (.allocH (cs := [(vi 0), .nils]) H (by omega) (by omega) rfl rfl ?_)); intro σ H
       refine .storeH (off := 0) (cells' := [(vi x5.Index), (vl Span.cs x5.Ticks)]) H 0 rfl rfl rfl rfl rfl rfl rfl rfl rfl nofun ?_; intro σ H
       apply Ops.nil
       replace H := H.all
       apply Runs.then
       refine .regionH 9 rfl H ?_; intro b20 σ H
       refine .fieldAddrH (off := 0) (fo := 1) H 0 rfl rfl rfl rfl rfl nofun rfl (.loadH (off := 1) (v := (vl Span.cs x5.Ticks)) H 0 rfl rfl rfl rfl rfl nofun rfl ?_)
       obtain ⟨x6, q6, h⟩ := bind_some h
       refine .call (ys := [(vl Span.cs x5.Ticks)]) (r := (.tup [(.agg [(vi x6.1.From), (vi x6.1.To)]), (vb x6.2)])) rfl (spans_Hull_fn q6) rfl (.move (v := (.tup [(.agg [(vi x6.1.From), (vi x6.1.To)]), (vb x6.2)])) rfl rfl (.extract (v := (.agg [(vi x6.1.From), (vi x6.1.To)])) rfl rfl rfl (.extract (v := (vb x6.2)) rfl rfl rfl ?_)))
       refine .allocH (cs := [(vi 0), (vi 0)]) H (by omega) (by omega) rfl rfl ?_; intro σ H
       refine .storeH (off := 0) (cells' := [(vi x6.1.From), (vi x6.1.To)]) H 0 rfl rfl rfl rfl rfl rfl rfl rfl rfl nofun ?_; intro σ H
       refine .assign (v := (vb x6.2)) rfl rfl ?_
       apply Ops.nil
       replace H := H.all
       apply Runs.then
       refine .regionH 20 rfl H ?_; intro b21 σ H
       refine .move (v := (vb x6.2)) rfl rfl (.move (v := (vb x6.2)) rfl rfl ?_)
       refine .mid 18 (K1 := fun e σ => EnvHas e [(76, (vb (x6.2 && ((up && (decide (x6.1.To ≥ t))) || ((!up) && (decide (x6.1.From ≤ t))))))), (1, (vi t)), (2, (vb up)), (8, (.ptr (b2 + 0) 2 0)), (9, (vi y1)), (12, (.ptr (b19 + 2) 2 0)), (45, (vl Granule.cs f.Form.Odd)), (46, (vi (f.Form.Odd.length : Int))), (47, (vi s3.1))] ∧ Has σ (b21 + 20) (b21 + 20) [.blk (b19 + 2) 76 [(vi x5.Index), (vl Span.cs x5.Ticks)], .blk (b2 + 0) 119 [(vi s3.2.1), (vb s3.2.2)]]) rfl ?_ ?_
       ·refine .split rfl rfl ?_ ?_ <;> intro hc9
        ·skip
         refine .wanted rfl rfl (.move (v := (vb up)) rfl rfl (.wanted rfl rfl (.move (v := (vb up)) rfl rfl ?_)))
         refine .mid 5 (K1 := fun e σ => EnvHas e [(65, (vb (up && (decide (x6.1.To ≥ t))))), (1, (vi t)), (2, (vb up)), (8, (.ptr (b2 + 0) 2 0)), (9, (vi y1)), (12, (.ptr (b19 + 2) 2 0)), (13, (.ptr (b20 + 6) 2 0)), (45, (vl Granule.cs f.Form.Odd)), (46, (vi (f.Form.Odd.length : Int))), (47, (vi s3.1)), (58, (vb true))] ∧ Has σ (b21 + 9) (b21 + 20) [.blk (b20 + 6) 43 [(vi x6.1.From), (vi x6.1.To)], .blk (b19 + 2) 76 [(vi x5.Index), (vl Span.cs x5.Ticks)], .blk (b2 + 0) 119 [(vi s3.2.1), (vb s3.2.2)]]) rfl ?_ ?_
         ·refine .split rfl rfl ?_ ?_ <;> intro hc10
          ·skip
           refine .wanted rfl rfl (.fieldAddrH (off := 0) (fo := 1) H 0 rfl rfl rfl rfl rfl nofun rfl (.wanted rfl rfl (.loadH (off := 1) (v := (vi x6.1.To)) H 0 rfl rfl rfl rfl rfl nofun rfl ?_)))
           refine .wanted rfl rfl (.move (v := (vi t)) rfl rfl (.wanted rfl rfl (.int (m := x6.1.To) (m' := t) (r := .bool (decide (x6.1.To ≥ t))) rfl rfl rfl rfl rfl ?_)))
           refine .wanted rfl rfl (.pickT (v := (vb (decide (x6.1.To ≥ t)))) rfl rfl rfl ?_)
           apply Ops.nil
           exact ⟨⟨and_T hc10, rfl, rfl, rfl, rfl, rfl, rfl, rfl, rfl, rfl, rfl, trivial⟩, H.weak (by omega) (Nat.le_refl _)⟩
          ·skip
           refine .pass rfl rfl rfl (.pass rfl rfl rfl (.pass rfl rfl rfl (.pass rfl rfl rfl ?_)))
           refine .wanted rfl rfl (.pickF (v := (vb false)) rfl rfl rfl ?_)
           apply Ops.nil
           exact ⟨⟨and_F hc10, rfl, rfl, rfl, rfl, rfl, rfl, rfl, rfl, rfl, rfl, trivial⟩, H.weak (by omega) (Nat.le_refl _)⟩
         ·rintro e σ ⟨he, H⟩
          obtain ⟨e, rfl⟩ := he.ex
          refine .wanted rfl rfl (.move (v := (vb (up && (decide (x6.1.To ≥ t))))) rfl rfl ?_)
          refine .mid 9 (K1 := fun e σ => EnvHas e [(75, (vb ((up && (decide (x6.1.To ≥ t))) || ((!up) && (decide (x6.1.From ≤ t)))))), (1, (vi t)), (2, (vb up)), (8, (.ptr (b2 + 0) 2 0)), (9, (vi y1)), (12, (.ptr (b19 + 2) 2 0)), (45, (vl Granule.cs f.Form.Odd)), (46, (vi (f.Form.Odd.length : Int))), (47, (vi s3.1)), (58, (vb true))] ∧ Has σ (b21 + 19) (b21 + 20) [.blk (b19 + 2) 76 [(vi x5.Index), (vl Span.cs x5.Ticks)], .blk (b2 + 0) 119 [(vi s3.2.1), (vb s3.2.2)]]) rfl ?_ ?_
          ·refine .split rfl rfl ?_ ?_ <;> intro hc11
           ·skip
            refine .pass rfl rfl rfl (.pass rfl rfl rfl (.pass rfl rfl rfl (.passU rfl rfl rfl ?_)))
            refine .passU rfl rfl rfl (.passU rfl rfl rfl (.passU rfl rfl rfl (.pass rfl rfl rfl ?_)))
            refine .wanted rfl rfl (.pickT (v := (vb true)) rfl rfl rfl ?_)
            apply Ops.nil
            exact ⟨⟨or_T hc11, rfl, rfl, rfl, rfl, rfl, rfl, rfl, rfl, rfl, trivial⟩, (H.erase 0).weak (by omega) (Nat.le_refl _)⟩
           ·skip
            refine .wanted rfl rfl (.move (v := (vb up)) rfl rfl (.wanted rfl rfl (.not (b := up) rfl rfl ?_)))
            refine .wanted rfl rfl (.move (v := (vb (!up))) rfl rfl ?_)
            refine .mid 5 (K1 := fun e σ => EnvHas e [(74, (vb ((!up) && (decide (x6.1.From ≤ t))))), (1, (vi t)), (2, (vb up)), (8, (.ptr (b2 + 0) 2 0)), (9, (vi y1)), (12, (.ptr (b19 + 2) 2 0)), (45, (vl Granule.cs f.Form.Odd)), (46, (vi (f.Form.Odd.length : Int))), (47, (vi s3.1)), (58, (vb true)), (66, (vb false))] ∧ Has σ (b21 + 18) (b21 + 20) [.blk (b19 + 2) 76 [(vi x5.Index), (vl Span.cs x5.Ticks)], .blk (b2 + 0) 119 [(vi s3.2.1), (vb s3.2.2)]]) rfl ?_ ?_
            ·refine .split rfl rfl ?_ ?_ <;> intro hc12
             ·skip
              refine .wanted rfl rfl (.fieldAddrH (off := 0) (fo := 0) H 0 rfl rfl rfl rfl rfl nofun rfl (.wanted rfl rfl (.loadH (off := 0) (v := (vi x6.1.From)) H 0 rfl rfl rfl rfl rfl nofun rfl ?_)))
              refine .wanted rfl rfl (.move (v := (vi t)) rfl rfl (.wanted rfl rfl (.int (m := x6.1.From) (m' := t) (r := .bool (decide (x6.1.From ≤ t))) rfl rfl rfl rfl rfl ?_)))
              refine .wanted rfl rfl (.pickT (v := (vb (decide (x6.1.From ≤ t)))) rfl rfl rfl ?_)
              apply Ops.nil
              exact ⟨⟨and_T hc12, rfl, rfl, rfl, rfl, rfl, rfl, rfl, rfl, rfl, rfl, trivial⟩, (H.erase 0).weak (by omega) (Nat.le_refl _)⟩
             ·skip
              refine .pass rfl rfl rfl (.pass rfl rfl rfl (.pass rfl rfl rfl (.pass rfl rfl rfl ?_)))
              refine .wanted rfl rfl (.pickF (v := (vb false)) rfl rfl rfl ?_)
              apply Ops.nil
              exact ⟨⟨and_F hc12, rfl, rfl, rfl, rfl, rfl, rfl, rfl, rfl, rfl, rfl, trivial⟩, (H.erase 0).weak (by omega) (Nat.le_refl _)⟩
            ·rintro e σ ⟨he, H⟩
             obtain ⟨e, rfl⟩ := he.ex
             refine .wanted rfl rfl (.pickF (v := (vb ((!up) && (decide (x6.1.From ≤ t))))) rfl rfl rfl ?_)
             apply Ops.nil
             exact ⟨⟨or_F hc11, rfl, rfl, rfl, rfl, rfl, rfl, rfl, rfl, rfl, trivial⟩, H.weak (by omega) (Nat.le_refl _)⟩
          ·rintro e σ ⟨he, H⟩
           obtain ⟨e, rfl⟩ := he.ex
           refine .pickT (v := (vb ((up && (decide (x6.1.To ≥ t))) || ((!up) && (decide (x6.1.From ≤ t)))))) rfl rfl rfl ?_
           apply Ops.nil
           exact ⟨⟨and_T hc9, rfl, rfl, rfl, rfl, rfl, rfl, rfl, rfl, trivial⟩, H.weak (by omega) (Nat.le_refl _)⟩
        ·skip
         refine .pass rfl rfl rfl (.pass rfl rfl rfl (.passU rfl rfl rfl (.passU rfl rfl rfl ?_)))
         refine .passU rfl rfl rfl (.passU rfl rfl rfl (.pass rfl rfl rfl (.pass rfl rfl rfl ?_)))
         refine .passU rfl rfl rfl (.passU rfl rfl rfl (.passU rfl rfl rfl (.passU rfl rfl rfl ?_)))
         refine .passU rfl rfl rfl (.passU rfl rfl rfl (.passU rfl rfl rfl (.passU rfl rfl rfl ?_)))
         refine .pass rfl rfl rfl (.pickF (v := (vb false)) rfl rfl rfl ?_)
         apply Ops.nil
         exact ⟨⟨and_F hc9, rfl, rfl, rfl, rfl, rfl, rfl, rfl, rfl, trivial⟩, (H.erase 0).weak (by omega) (Nat.le_refl _)⟩
       ·rintro e σ ⟨he, H⟩
        obtain ⟨e, rfl⟩ := he.ex
        apply Ops.nil
        replace H := H.all
        refine .whether (v := (x6.2 && ((up && (decide (x6.1.To ≥ t))) || ((!up) && (decide (x6.1.From ≤ t)))))) rfl ?_ ?_ <;> intro hc13
        ·replace h := cond_T hc13 h
         refine .regionH 7 rfl H ?_; intro b22 σ H
         refine .move (v := (vi y1)) rfl rfl (.neg (m := y1) rfl rfl (.fieldAddrH (off := 0) (fo := 0) H 0 rfl rfl rfl rfl rfl nofun rfl (.loadH (off := 0) (v := (vi x5.Index)) H 0 rfl rfl rfl rfl rfl nofun rfl ?_)))
         refine .int (m := (w64 (0 - y1))) (m' := x5.Index) (r := .int .i64 (w64 ((w64 (0 - y1)) * x5.Index))) rfl rfl rfl rfl rfl (.buildS (sz := 1) ([(w64 ((w64 (0 - y1)) * x5.Index))].map (cI .i64)) H (by omega) (by omega) rfl rfl rfl rfl rfl rfl rfl rfl rfl ?_); intro σ H
         obtain ⟨y12, hj12, h⟩ := bind_some h
         refine .callI (PostA := fun r A => r = (.tup []) ∧ A = [.sl (.buf (b22 + 5) 1 1) 3 1 (y12.1.map (cI .i64)) true, .blk (b19 + 2) 76 [(vi x5.Index), (vl Span.cs x5.Ticks)], .blk (b2 + 0) 119 [(vi y12.2.1), (vb y12.2.2)]]) (cv := (.v (.fn 86))) (ys := [(.ptr (b2 + 0) 2 0), (.buf (b22 + 5) 1 1)]) (L := []) [.sl (.buf (b22 + 5) 1 1) 3 1 ([(w64 ((w64 (0 - y1)) * x5.Index))].map (cI .i64)) true, .blk (b19 + 2) 76 [(vi x5.Index), (vl Span.cs x5.Ticks)], .blk (b2 + 0) 119 [(vi s3.2.1), (vb s3.2.2)]] H rfl rfl (fun T2 hT H => callI_of Try.func86 rfl (fun _ => rfl) rfl rfl rfl rfl ?_) nofun rfl ?_
         ·replace h := hj12
          apply Runs.then
          refine .regionH 3 rfl H ?_; intro b23 σ H
          refine .move (v := (.buf (b22 + 5) 1 1)) rfl rfl (.lenSt (c := (cI .i64)) (xs := [(w64 ((w64 (0 - y1)) * x5.Index))]) H 0 rfl rfl rfl nofun rfl (.move (v := (vi 0)) rfl rfl ?_))
          apply Ops.nil
          replace H := H.all
          apply Runs.inBlock
          obtain ⟨y13, hj13, h⟩ := bind_some h
          obtain ⟨n4, hj13⟩ := loopO_iff.1 hj13
          refine .mono (Runs.loopO hj13 (fun s4 e σ => EnvHas e [(0, (.ptr (b2 + 0) 2 0)), (6, (.buf (b22 + 5) 1 1)), (7, (vi s4.1)), (8, (vi s4.2.1))] ∧ Hs σ (.sl (.buf (b22 + 5) 1 1) 3 1 (s4.2.2.1.map (cI .i64)) true :: .blk (b19 + 2) 76 [(vi x5.Index), (vl Span.cs x5.Ticks)] :: .blk (b2 + 0) 119 [(vi s4.2.2.2.1), (vb s4.2.2.2.2)] :: T2)) (fun y13 x e σ => x = .exit 0 ∧ EnvHas e [] ∧ Hs σ (.sl (.buf (b22 + 5) 1 1) 3 1 (y13.1.map (cI .i64)) true :: .blk (b19 + 2) 76 [(vi x5.Index), (vl Span.cs x5.Ticks)] :: .blk (b2 + 0) 119 [(vi y13.2.1), (vb y13.2.2)] :: T2)) ⟨⟨rfl, rfl, rfl, rfl, trivial⟩, H⟩ ?_) ?_
          ·intro s4 e σ hI z h
           obtain ⟨he, H⟩ := hI
           obtain ⟨e, rfl⟩ := he.ex
           unfold size_form_reach.s3 at h
           apply Runs.then
           refine .regionH 1 rfl H ?_; intro b24 σ H
           refine .int (m := s4.2.1) (m' := s4.1) (r := .bool (decide (s4.2.1 < s4.1))) rfl rfl rfl rfl rfl ?_
           apply Ops.nil
           replace H := H.all
           apply Runs.then
           refine .whether (v := (decide (s4.2.1 < s4.1))) rfl ?_ ?_ <;> intro hc14
           ·replace h := cond_T hc14 h
            apply Runs.skip
            apply Runs.then
            obtain ⟨y14, hj14, h⟩ := bind_some h
            refine .mono (Q := fun x e σ => x = .normal ∧ EnvHas e [(0, (.ptr (b2 + 0) 2 0)), (6, (.buf (b22 + 5) 1 1)), (7, (vi s4.1)), (8, (vi s4.2.1))] ∧ Hs σ (.sl (.buf (b22 + 5) 1 1) 3 1 (s4.2.2.1.map (cI .i64)) true :: .blk (b19 + 2) 76 [(vi x5.Index), (vl Span.cs x5.Ticks)] :: .blk (b2 + 0) 119 [(vi y14.1), (vb y14.2)] :: T2)) ?_ ?_
            ·replace h := hj14
             apply Runs.inBlock
             obtain ⟨y15, hj15, h⟩ := bind_some h
             refine .mono (Q := fun x e σ => x = .normal ∧ EnvHas e [(0, (.ptr (b2 + 0) 2 0)), (6, (.buf (b22 + 5) 1 1)), (7, (vi s4.1)), (8, (vi s4.2.1))] ∧ Hs σ (.sl (.buf (b22 + 5) 1 1) 3 1 (s4.2.2.1.map (cI .i64)) true :: .blk (b19 + 2) 76 [(vi x5.Index), (vl Span.cs x5.Ticks)] :: .blk (b2 + 0) 119 [(vi y15.1), (vb y15.2)] :: T2)) ?_ ?_
             ·replace h := hj15
              apply Runs.then
              refine .regionH 3 rfl H ?_; intro b25 σ H
              obtain ⟨x7, q7, h⟩ := bind_some h
              refine .indexS H 0 rfl rfl rfl (at?_map q7) rfl rfl nofun rfl ?_; intro id2 hv2
              refine .loadS (id := id2) (j := 0) (w := (.int .i64 x7)) H 0 rfl hv2 (by simp) (at?_map q7) rfl (by simp) rfl rfl rfl nofun rfl ?_
              refine .assign (v := (vi x7)) rfl rfl ?_
              apply Ops.nil
              replace H := H.all
              apply Runs.then
              refine .regionH 13 rfl H ?_; intro b26 σ H
              refine .move (v := (.ptr (b2 + 0) 2 0)) rfl rfl (.nilCheckH (off := 0) H 2 rfl rfl rfl nofun rfl (.fieldAddrH (off := 0) (fo := 1) H 2 rfl rfl rfl rfl rfl nofun rfl (.loadH (off := 1) (v := (vb s4.2.2.2.2)) H 2 rfl rfl rfl rfl rfl nofun rfl ?_)))
              refine .not (b := s4.2.2.2.2) rfl rfl (.move (v := (vb (!s4.2.2.2.2))) rfl rfl ?_)
              refine .mid 7 (K1 := fun e σ => EnvHas e [(24, (vb ((!s4.2.2.2.2) || (decide (x7 > s4.2.2.2.1))))), (0, (.ptr (b2 + 0) 2 0)), (5, (vi x7)), (6, (.buf (b22 + 5) 1 1)), (7, (vi s4.1)), (8, (vi s4.2.1))] ∧ Has σ (b26 + 13) (b26 + 13) (.sl (.buf (b22 + 5) 1 1) 3 1 (s4.2.2.1.map (cI .i64)) true :: .blk (b19 + 2) 76 [(vi x5.Index), (vl Span.cs x5.Ticks)] :: .blk (b2 + 0) 119 [(vi s4.2.2.2.1), (vb s4.2.2.2.2)] :: T2)) rfl ?_ ?_
              ·refine .split rfl rfl ?_ ?_ <;> intro hc15
               ·skip
                refine .pass rfl rfl rfl (.pass rfl rfl rfl (.pass rfl rfl rfl (.pass rfl rfl rfl ?_)))
                refine .pass rfl rfl rfl (.pass rfl rfl rfl (.pickT (v := (vb true)) rfl rfl rfl ?_))
                apply Ops.nil
                exact ⟨⟨or_T hc15, rfl, rfl, rfl, rfl, rfl, trivial⟩, H.weak (by omega) (Nat.le_refl _)⟩
               ·skip
                refine .wanted rfl rfl (.move (v := (vi x7)) rfl rfl (.wanted rfl rfl (.move (v := (.ptr (b2 + 0) 2 0)) rfl rfl ?_)))
                refine .wanted rfl rfl (.nilCheckH (off := 0) H 2 rfl rfl rfl nofun rfl (.wanted rfl rfl (.fieldAddrH (off := 0) (fo := 0) H 2 rfl rfl rfl rfl rfl nofun rfl ?_)))
                refine .wanted rfl rfl (.loadH (off := 0) (v := (vi s4.2.2.2.1)) H 2 rfl rfl rfl rfl rfl nofun rfl (.wanted rfl rfl (.int (m := x7) (m' := s4.2.2.2.1) (r := .bool (decide (x7 > s4.2.2.2.1))) rfl rfl rfl rfl rfl ?_)))
                refine .pickF (v := (vb (decide (x7 > s4.2.2.2.1)))) rfl rfl rfl ?_
                apply Ops.nil
                exact ⟨⟨or_F hc15, rfl, rfl, rfl, rfl, rfl, trivial⟩, H.weak (by omega) (Nat.le_refl _)⟩
              ·rintro e σ ⟨he, H⟩
               obtain ⟨e, rfl⟩ := he.ex
               apply Ops.nil
               replace H := H.all
               refine .whether (v := ((!s4.2.2.2.2) || (decide (x7 > s4.2.2.2.1)))) rfl ?_ ?_ <;> intro hc16
               ·replace h := cond_T hc16 h
                refine .regionH 9 rfl H ?_; intro b27 σ H
                refine .move (v := (.ptr (b2 + 0) 2 0)) rfl rfl (.move (v := (.ptr (b2 + 0) 2 0)) rfl rfl (.move (v := (vi x7)) rfl rfl (.nilCheckH (off := 0) H 2 rfl rfl rfl nofun rfl ?_)))
                refine .fieldAddrH (off := 0) (fo := 0) H 2 rfl rfl rfl rfl rfl nofun rfl (.storeH (off := 0) (cells' := [(vi x7), (vb s4.2.2.2.2)]) H 2 rfl rfl rfl rfl rfl rfl rfl rfl rfl nofun ?_); intro σ H
                refine .nilCheckH (off := 0) H 2 rfl rfl rfl nofun rfl (.fieldAddrH (off := 0) (fo := 1) H 2 rfl rfl rfl rfl rfl nofun rfl (.storeH (off := 1) (cells' := [(vi x7), (vb true)]) H 2 rfl rfl rfl rfl rfl rfl rfl rfl rfl nofun ?_)); intro σ H
                apply Ops.nil
                replace H := H.all
                replace h := Option.some.inj h; subst h
                exact ⟨rfl, ⟨rfl, rfl, rfl, rfl, trivial⟩, H⟩
               ·replace h := cond_F hc16 h
                apply Runs.skip
                replace h := Option.some.inj h; subst h
                exact ⟨rfl, ⟨rfl, rfl, rfl, rfl, trivial⟩, H⟩
             ·rintro x e σ ⟨rfl, he, H⟩
              obtain ⟨e, rfl⟩ := he.ex
              replace h := Option.some.inj h; subst h
              exact ⟨rfl, ⟨rfl, rfl, rfl, rfl, trivial⟩, H⟩
            ·rintro x e σ ⟨rfl, he, H⟩
             obtain ⟨e, rfl⟩ := he.ex
             refine .regionH 2 rfl H ?_; intro b28 σ H
             refine .int (m := s4.2.1) (m' := 1) (r := .int .i64 (w64 (s4.2.1 + 1))) rfl rfl rfl rfl rfl (.move (v := (vi (w64 (s4.2.1 + 1)))) rfl rfl ?_)
             apply Ops.nil
             replace H := H.all
             replace h := Option.some.inj h; subst h
             exact ⟨rfl, ⟨rfl, rfl, rfl, rfl, trivial⟩, H⟩
           ·replace h := cond_F hc14 h
            apply Runs.exit
            replace h := Option.some.inj h; subst h
            exact ⟨nofun, ⟨rfl, trivial, H⟩⟩
          ·rintro x e σ ⟨rfl, he, H⟩
           obtain ⟨e, rfl⟩ := he.ex
           replace h := Option.some.inj h; subst h
           exact ⟨.inl rfl, _, resD_ok H .nil, _, ⟨rfl, rfl⟩, H⟩
         ·rintro _ _ σ ⟨rfl, rfl⟩ H
          apply Ops.nil
          replace H := H.all
          replace h := Option.some.inj h; subst h
          exact ⟨rfl, ⟨rfl, rfl, rfl, rfl, rfl, rfl, rfl, trivial⟩, ((H.erase 1).erase 0)⟩
        ·replace h := cond_F hc13 h
         apply Runs.skip
         replace h := Option.some.inj h; subst h
         exact ⟨rfl, ⟨rfl, rfl, rfl, rfl, rfl, rfl, rfl, trivial⟩, (H.erase 0)⟩
      ·rintro x e σ ⟨rfl, he, H⟩
       obtain ⟨e, rfl⟩ := he.ex
       replace h := Option.some.inj h; subst h
       exact ⟨rfl, ⟨rfl, rfl, rfl, rfl, rfl, rfl, rfl, trivial⟩, H⟩
     ·rintro x e σ ⟨rfl, he, H⟩
      obtain ⟨e, rfl⟩ := he.ex
      refine .regionH 2 rfl H ?_; intro b29 σ H
      refine .int (m := s3.1) (m' := 1) (r := .int .i64 (w64 (s3.1 + 1))) rfl rfl rfl rfl rfl (.move (v := (vi (w64 (s3.1 + 1)))) rfl rfl ?_)
      apply Ops.nil
      replace H := H.all
      replace h := Option.some.inj h; subst h
      exact ⟨rfl, ⟨rfl, rfl, rfl, rfl, rfl, rfl, rfl, trivial⟩, H⟩
    ·replace h := cond_F hc8 h
     apply Runs.exit
     replace h := Option.some.inj h; subst h
     exact ⟨nofun, ⟨rfl, ⟨rfl, rfl, trivial⟩, H⟩⟩
   ·rintro x e σ ⟨rfl, he, H⟩
    obtain ⟨e, rfl⟩ := he.ex
    apply Runs.then
    refine .drawnH 9 rfl (by kernel_rfl) H ?_; intro b30 σ H B30
    refine .move (v := (vi y1)) rfl rfl (.neg (m := y1) rfl rfl (.fieldAddrH (off := 0) (fo := 0) H 0 rfl rfl rfl rfl rfl (fun _ => .inl ⟨B30 0 _ rfl _ rfl, nofun⟩) rfl (.loadH (off := 0) (v := (vi y9.1)) H 0 rfl rfl rfl rfl rfl (fun _ => .inl ⟨B30 0 _ rfl _ rfl, nofun⟩) rfl ?_)))
    refine .int (m := (w64 (0 - y1))) (m' := y9.1) (r := .int .i64 (w64 ((w64 (0 - y1)) * y9.1))) rfl rfl rfl rfl rfl (.fieldAddrH (off := 0) (fo := 1) H 0 rfl rfl rfl rfl rfl (fun _ => .inl ⟨B30 0 _ rfl _ rfl, nofun⟩) rfl (.loadH (off := 1) (v := (vb y9.2)) H 0 rfl rfl rfl rfl rfl (fun _ => .inl ⟨B30 0 _ rfl _ rfl, nofun⟩) rfl (.assign (v := (vi (w64 ((w64 (0 - y1)) * y9.1)))) rfl rfl ?_)))
    refine .assign (v := (vb y9.2)) rfl rfl ?_
    apply Ops.nil
    replace H := H.all
    apply Runs.ret
    replace h := Option.some.inj h; subst h
    exact (Ends.H (xs := [(vi (w64 ((w64 (0 - y1)) * y9.1))), (vb y9.2)]) (.inr rfl) H (.tmp (v := (vi (w64 ((w64 (0 - y1)) * y9.1)))) rfl (.tmp (v := (vb y9.2)) rfl .nil)) (.two (.cons (.c (.v _)) (.cons (.c (.v _)) .nil))))

end Go.Dn
