/- The interpreter answers as the plain functions do: part 1. -/
import Derived.Test.YtefaoeaohhdhkaaSh
import Derived.Test.YtefaoeaohhdhkaaGb0
set_option linter.unusedVariables false
set_option linter.unusedSimpArgs false
namespace Go.Dn
open Go Go.Proofs

set_option maxRecDepth 100000 in
set_option maxHeartbeats 4000000 in
theorem spans_Move_fn {l : (List Span)} {by' : Int} {r : (List Span) × Int} (h : spans_Move l by' = some r) : Fn CX 21 [(.v (.sl (l.map Span.cs))), (.v (.int .i64 by'))] (.tup [(.v (.sl (r.1.map Span.cs))), (.v (.int .i64 r.2))]) := by
  refine Fn.ends Try.func21 rfl rfl rfl rfl rfl rfl ?_
  have H : Hs (⟨0, fun _ => .none⟩ : Heap) [] := Has.nil (Nat.le_refl _)
  generalize (⟨0, fun _ => .none⟩ : Heap) = σ at H ⊢
  unfold spans_Move at h
  apply Runs.then
  refine Runs.regionH 2 rfl H ?_; intro b1 σ H
  refine Ops.assign (v := .nils) rfl rfl ?_
  refine Ops.assign (v := (.v (.int .i64 0))) rfl rfl ?_
  apply Ops.nil
  replace H := H.all
  apply Runs.then
  refine Runs.regionH 1 rfl H ?_; intro b2 σ H
  refine Ops.assign (v := .nils) rfl rfl ?_
  apply Ops.nil
  replace H := H.all
  apply Runs.then
  apply Runs.then
  refine Runs.regionH 3 rfl H ?_; intro b3 σ H
  refine Ops.move (v := (.v (.sl (l.map Span.cs)))) rfl rfl ?_
  refine Ops.lenPt (c := Span.cs) (xs := l) rfl rfl rfl ?_
  refine Ops.move (v := (.v (.int .i64 0))) rfl rfl ?_
  apply Ops.nil
  replace H := H.all
  apply Runs.inBlock
  replace H := H.pushNil 43 2 true
  obtain ⟨y1, hj1, h⟩ := bind_some h
  obtain ⟨n1, hj1⟩ := loopO_iff.1 hj1
  refine Runs.mono (Runs.loopO hj1 (fun s2 e σ => ∃ (w3 : PV), EnvHas e [(1, (.v (.int .i64 by'))), (6, w3), (13, (.v (.sl (l.map Span.cs)))), (14, (.v (.int .i64 (l.length : Int)))), (15, (.v (.int .i64 s2.1)))] ∧ Hs σ [.sl w3 43 2 (s2.2.map Span.cs) true]) (fun y1 x e σ => (∃ a1, ∃ (w4 : PV), y1 = (.go a1) ∧ x = .exit 0 ∧ EnvHas e [(6, w4)] ∧ Hs σ [.sl w4 43 2 (a1.map Span.cs) true]) ∨ (∃ r', y1 = (.ret r') ∧ x = .ret ∧ Ends CX Try.f21.results.toList (.tup [(.v (.sl (r'.1.map Span.cs))), (.v (.int .i64 r'.2))]) x e σ)) ⟨.nils, ⟨rfl, rfl, rfl, rfl, rfl, trivial⟩, H⟩ ?_) ?_
  · intro s2 e σ hI z h
    obtain ⟨w3, he, H⟩ := hI
    obtain ⟨e, rfl⟩ := he.ex
    unfold spans_Move.s0 at h
    apply Runs.then
    refine Runs.regionH 1 rfl H ?_; intro b4 σ H
    refine Ops.int (m := s2.1) (m' := (l.length : Int)) (r := .bool (decide (s2.1 < (l.length : Int)))) rfl rfl rfl rfl rfl ?_
    apply Ops.nil
    replace H := H.all
    apply Runs.then
    refine Runs.whether (v := (decide (s2.1 < (l.length : Int)))) rfl ?_ ?_ <;> intro hc1
    · replace h := cond_T hc1 h
      apply Runs.skip
      apply Runs.then
      apply Runs.inBlock
      apply Runs.then
      refine Runs.regionH 4 rfl H ?_; intro b5 σ H
      obtain ⟨x1, q1, h⟩ := bind_some h
      refine Ops.indexP (c := Span.cs) (u := x1) rfl rfl q1 rfl rfl rfl rfl ?_
      refine Ops.loadPA (cs := [(.int .i64 x1.From), (.int .i64 x1.To)]) rfl rfl rfl rfl rfl rfl ?_
      refine Ops.allocH (cs := [(.v (.int .i64 0)), (.v (.int .i64 0))]) H (by omega) (by omega) rfl rfl ?_; intro σ H
      refine Ops.storeH (off := 0) (v := (.agg [(.v (.int .i64 x1.From)), (.v (.int .i64 x1.To))])) (ys := [(.v (.int .i64 x1.From)), (.v (.int .i64 x1.To))]) (cells' := [(.v (.int .i64 x1.From)), (.v (.int .i64 x1.To))]) H 0 rfl rfl rfl rfl rfl rfl rfl rfl rfl nofun ?_; intro σ H
      apply Ops.nil
      replace H := H.all
      apply Runs.then
      refine Runs.regionH 9 rfl H ?_; intro b6 σ H
      refine Ops.fieldAddrH (off := 0) (fo := 0) H 0 rfl rfl rfl rfl rfl nofun rfl ?_
      refine Ops.loadH (off := 0) (v := (.v (.int .i64 x1.From))) H 0 rfl rfl rfl rfl rfl nofun rfl ?_
      refine Ops.move (v := (.v (.int .i64 by'))) rfl rfl ?_
      refine Ops.call (ys := [(.v (.int .i64 x1.From)), (.v (.int .i64 by'))]) (r := (.tup [(.v (.int .i64 (safe_Add x1.From by').1)), (.v (.int .i64 (safe_Add x1.From by').2))])) rfl (safe_Add_fn rfl) rfl ?_
      refine Ops.move (v := (.tup [(.v (.int .i64 (safe_Add x1.From by').1)), (.v (.int .i64 (safe_Add x1.From by').2))])) rfl rfl ?_
      refine Ops.extract (v := (.v (.int .i64 (safe_Add x1.From by').1))) rfl rfl rfl ?_
      refine Ops.extract (v := (.v (.int .i64 (safe_Add x1.From by').2))) rfl rfl rfl ?_
      refine Ops.assign (v := (.v (.int .i64 (safe_Add x1.From by').1))) rfl rfl ?_
      refine Ops.assign (v := (.v (.int .i64 (safe_Add x1.From by').2))) rfl rfl ?_
      apply Ops.nil
      replace H := H.all
      apply Runs.then
      refine Runs.regionH 9 rfl H ?_; intro b7 σ H
      refine Ops.fieldAddrH (off := 0) (fo := 1) H 0 rfl rfl rfl rfl rfl nofun rfl ?_
      refine Ops.loadH (off := 1) (v := (.v (.int .i64 x1.To))) H 0 rfl rfl rfl rfl rfl nofun rfl ?_
      refine Ops.move (v := (.v (.int .i64 by'))) rfl rfl ?_
      refine Ops.call (ys := [(.v (.int .i64 x1.To)), (.v (.int .i64 by'))]) (r := (.tup [(.v (.int .i64 (safe_Add x1.To by').1)), (.v (.int .i64 (safe_Add x1.To by').2))])) rfl (safe_Add_fn rfl) rfl ?_
      refine Ops.move (v := (.tup [(.v (.int .i64 (safe_Add x1.To by').1)), (.v (.int .i64 (safe_Add x1.To by').2))])) rfl rfl ?_
      refine Ops.extract (v := (.v (.int .i64 (safe_Add x1.To by').1))) rfl rfl rfl ?_
      refine Ops.extract (v := (.v (.int .i64 (safe_Add x1.To by').2))) rfl rfl rfl ?_
      refine Ops.assign (v := (.v (.int .i64 (safe_Add x1.To by').1))) rfl rfl ?_
      refine Ops.assign (v := (.v (.int .i64 (safe_Add x1.To by').2))) rfl rfl ?_
      apply Ops.nil
      replace H := H.all
      apply Runs.then
      apply Runs.then
      refine Runs.regionH 16 rfl H ?_; intro b8 σ H
      refine Ops.move (v := (.v (.int .i64 (safe_Add x1.From by').2))) rfl rfl ?_
      refine Ops.int (m := (safe_Add x1.From by').2) (m' := 0) (r := .bool (((safe_Add x1.From by').2) != 0)) rfl rfl rfl rfl rfl ?_
      refine Ops.move (v := (.v (.bool (((safe_Add x1.From by').2) != 0)))) rfl rfl ?_
      refine Ops.mid 3 (K1 := fun e σ => EnvHas e [(38, (.v (.bool ((((safe_Add x1.From by').2) != 0) || (((safe_Add x1.To by').2) != 0))))), (1, (.v (.int .i64 by'))), (6, w3), (9, (.v (.int .i64 (safe_Add x1.From by').1))), (11, (.v (.int .i64 (safe_Add x1.To by').1))), (13, (.v (.sl (l.map Span.cs)))), (14, (.v (.int .i64 (l.length : Int)))), (15, (.v (.int .i64 s2.1)))] ∧ Has σ (b8 + 6) (b8 + 16) [.sl w3 43 2 (s2.2.map Span.cs) true]) rfl ?_ ?_
      · refine Ops.split rfl rfl ?_ ?_ <;> intro hc2
        · skip
          refine Ops.pass rfl rfl rfl ?_
          refine Ops.pass rfl rfl rfl ?_
          refine Ops.pickT (v := (.v (.bool true))) rfl rfl rfl ?_
          apply Ops.nil
          exact ⟨⟨or_T hc2, rfl, rfl, rfl, rfl, rfl, rfl, rfl, trivial⟩, (H.erase 0).weak (by omega) (Nat.le_refl _)⟩
        · skip
          refine Ops.wanted rfl rfl ?_
          refine Ops.move (v := (.v (.int .i64 (safe_Add x1.To by').2))) rfl rfl ?_
          refine Ops.wanted rfl rfl ?_
          refine Ops.int (m := (safe_Add x1.To by').2) (m' := 0) (r := .bool (((safe_Add x1.To by').2) != 0)) rfl rfl rfl rfl rfl ?_
          refine Ops.pickF (v := (.v (.bool (((safe_Add x1.To by').2) != 0)))) rfl rfl rfl ?_
          apply Ops.nil
          exact ⟨⟨or_F hc2, rfl, rfl, rfl, rfl, rfl, rfl, rfl, trivial⟩, (H.erase 0).weak (by omega) (Nat.le_refl _)⟩
      · rintro e σ ⟨he, H⟩
        obtain ⟨e, rfl⟩ := he.ex
        refine Ops.move (v := (.v (.bool ((((safe_Add x1.From by').2) != 0) || (((safe_Add x1.To by').2) != 0))))) rfl rfl ?_
        refine Ops.mid 4 (K1 := fun e σ => EnvHas e [(43, (.v (.bool (((((safe_Add x1.From by').2) != 0) || (((safe_Add x1.To by').2) != 0)) || (!(spans_tick ((safe_Add x1.From by').1))))))), (1, (.v (.int .i64 by'))), (6, w3), (9, (.v (.int .i64 (safe_Add x1.From by').1))), (11, (.v (.int .i64 (safe_Add x1.To by').1))), (13, (.v (.sl (l.map Span.cs)))), (14, (.v (.int .i64 (l.length : Int)))), (15, (.v (.int .i64 s2.1)))] ∧ Has σ (b8 + 11) (b8 + 16) [.sl w3 43 2 (s2.2.map Span.cs) true]) rfl ?_ ?_
        · refine Ops.split rfl rfl ?_ ?_ <;> intro hc3
          · skip
            refine Ops.pass rfl rfl rfl ?_
            refine Ops.pass rfl rfl rfl ?_
            refine Ops.pass rfl rfl rfl ?_
            refine Ops.pickT (v := (.v (.bool true))) rfl rfl rfl ?_
            apply Ops.nil
            exact ⟨⟨or_T hc3, rfl, rfl, rfl, rfl, rfl, rfl, rfl, trivial⟩, H.weak (by omega) (Nat.le_refl _)⟩
          · skip
            refine Ops.wanted rfl rfl ?_
            refine Ops.move (v := (.v (.int .i64 (safe_Add x1.From by').1))) rfl rfl ?_
            refine Ops.wanted rfl rfl ?_
            refine Ops.call (ys := [(.v (.int .i64 (safe_Add x1.From by').1))]) (r := (.v (.bool (spans_tick ((safe_Add x1.From by').1))))) rfl (spans_tick_fn rfl) rfl ?_
            refine Ops.wanted rfl rfl ?_
            refine Ops.not (b := (spans_tick ((safe_Add x1.From by').1))) rfl rfl ?_
            refine Ops.pickF (v := (.v (.bool (!(spans_tick ((safe_Add x1.From by').1)))))) rfl rfl rfl ?_
            apply Ops.nil
            exact ⟨⟨or_F hc3, rfl, rfl, rfl, rfl, rfl, rfl, rfl, trivial⟩, H.weak (by omega) (Nat.le_refl _)⟩
        · rintro e σ ⟨he, H⟩
          obtain ⟨e, rfl⟩ := he.ex
          refine Ops.move (v := (.v (.bool (((((safe_Add x1.From by').2) != 0) || (((safe_Add x1.To by').2) != 0)) || (!(spans_tick ((safe_Add x1.From by').1))))))) rfl rfl ?_
          refine Ops.mid 4 (K1 := fun e σ => EnvHas e [(48, (.v (.bool ((((((safe_Add x1.From by').2) != 0) || (((safe_Add x1.To by').2) != 0)) || (!(spans_tick ((safe_Add x1.From by').1)))) || (!(spans_tick ((safe_Add x1.To by').1))))))), (1, (.v (.int .i64 by'))), (6, w3), (9, (.v (.int .i64 (safe_Add x1.From by').1))), (11, (.v (.int .i64 (safe_Add x1.To by').1))), (13, (.v (.sl (l.map Span.cs)))), (14, (.v (.int .i64 (l.length : Int)))), (15, (.v (.int .i64 s2.1)))] ∧ Has σ (b8 + 16) (b8 + 16) [.sl w3 43 2 (s2.2.map Span.cs) true]) rfl ?_ ?_
          · refine Ops.split rfl rfl ?_ ?_ <;> intro hc4
            · skip
              refine Ops.pass rfl rfl rfl ?_
              refine Ops.pass rfl rfl rfl ?_
              refine Ops.pass rfl rfl rfl ?_
              refine Ops.pickT (v := (.v (.bool true))) rfl rfl rfl ?_
              apply Ops.nil
              exact ⟨⟨or_T hc4, rfl, rfl, rfl, rfl, rfl, rfl, rfl, trivial⟩, H.weak (by omega) (Nat.le_refl _)⟩
            · skip
              refine Ops.wanted rfl rfl ?_
              refine Ops.move (v := (.v (.int .i64 (safe_Add x1.To by').1))) rfl rfl ?_
              refine Ops.wanted rfl rfl ?_
              refine Ops.call (ys := [(.v (.int .i64 (safe_Add x1.To by').1))]) (r := (.v (.bool (spans_tick ((safe_Add x1.To by').1))))) rfl (spans_tick_fn rfl) rfl ?_
              refine Ops.wanted rfl rfl ?_
              refine Ops.not (b := (spans_tick ((safe_Add x1.To by').1))) rfl rfl ?_
              refine Ops.pickF (v := (.v (.bool (!(spans_tick ((safe_Add x1.To by').1)))))) rfl rfl rfl ?_
              apply Ops.nil
              exact ⟨⟨or_F hc4, rfl, rfl, rfl, rfl, rfl, rfl, rfl, trivial⟩, H.weak (by omega) (Nat.le_refl _)⟩
          · rintro e σ ⟨he, H⟩
            obtain ⟨e, rfl⟩ := he.ex
            apply Ops.nil
            replace H := H.all
            refine Runs.whether (v := ((((((safe_Add x1.From by').2) != 0) || (((safe_Add x1.To by').2) != 0)) || (!(spans_tick ((safe_Add x1.From by').1)))) || (!(spans_tick ((safe_Add x1.To by').1))))) rfl ?_ ?_ <;> intro hc5
            · replace h := cond_T hc5 h
              apply Runs.then
              refine Runs.regionH 2 rfl H ?_; intro b9 σ H
              refine Ops.assign (v := .nils) rfl rfl ?_
              refine Ops.assign (v := (.v (.int .i64 20))) rfl rfl ?_
              apply Ops.nil
              replace H := H.all
              apply Runs.ret
              replace h := Option.some.inj h; subst h
              exact ⟨nofun, (.inr ⟨_, rfl, rfl, (Ends.H (xs := [.nils, (.v (.int .i64 20))]) (.inr rfl) H (.tmp (v := .nils) rfl (.tmp (v := (.v (.int .i64 20))) rfl .nil)) (.two (.cons (.c .n) (.cons (.c (.v _)) .nil))))⟩)⟩
            · replace h := cond_F hc5 h
              apply Runs.skip
              refine Runs.regionH 7 rfl H ?_; intro b10 σ H
              refine Ops.move (v := w3) rfl rfl ?_
              refine Ops.move (v := (.v (.int .i64 (safe_Add x1.From by').1))) rfl rfl ?_
              refine Ops.move (v := (.v (.int .i64 (safe_Add x1.To by').1))) rfl rfl ?_
              refine Ops.buildA (cs := [(.v (.int .i64 (safe_Add x1.From by').1)), (.v (.int .i64 (safe_Add x1.To by').1))]) rfl rfl ?_
              refine Ops.buildS (sz := 2) ([(Span.mk ((safe_Add x1.From by').1) ((safe_Add x1.To by').1))].map Span.cs) H (by omega) (by omega) rfl rfl rfl rfl rfl rfl rfl rfl rfl ?_; intro σ H
              obtain ⟨x2, q2, h⟩ := bind_some h
              refine Ops.appendSt (c := Span.cs) (v := w3) (w := (.buf (b10 + 4) 1 2)) (xs := s2.2) (ys := [(Span.mk ((safe_Add x1.From by').1) ((safe_Add x1.To by').1))]) H (by omega) (by omega) 1 rfl rfl rfl (.s 0 rfl) q2 rfl rfl rfl rfl rfl nofun rfl ?_; intro w5 σ H
              refine Ops.assign (v := w5) rfl rfl ?_
              apply Ops.nil
              replace H := H.all
              refine Runs.regionH 2 rfl H ?_; intro b11 σ H
              refine Ops.int (m := s2.1) (m' := 1) (r := .int .i64 (w64 (s2.1 + 1))) rfl rfl rfl rfl rfl ?_
              refine Ops.move (v := (.v (.int .i64 (w64 (s2.1 + 1))))) rfl rfl ?_
              apply Ops.nil
              replace H := H.all
              replace h := Option.some.inj h; subst h
              exact ⟨rfl, w5, ⟨rfl, rfl, rfl, rfl, rfl, trivial⟩, (H.erase 0)⟩
    · replace h := cond_F hc1 h
      apply Runs.exit
      replace h := Option.some.inj h; subst h
      exact ⟨nofun, (.inl ⟨_, w3, rfl, rfl, ⟨rfl, trivial⟩, H⟩)⟩
  · rintro x e σ (⟨a2, w6, rfl, rfl, he, H⟩ | ⟨r', rfl, rfl, hE⟩)
    · skip
      replace h := jgo h
      obtain ⟨e, rfl⟩ := he.ex
      apply Runs.then
      refine Runs.regionH 3 rfl H ?_; intro b12 σ H
      refine Ops.move (v := w6) rfl rfl ?_
      refine Ops.assign (v := w6) rfl rfl ?_
      refine Ops.assign (v := (.v (.int .i64 0))) rfl rfl ?_
      apply Ops.nil
      replace H := H.all
      apply Runs.ret
      replace h := Option.some.inj h; subst h
      exact (Ends.H (xs := [w6, (.v (.int .i64 0))]) (.inr rfl) H (.tmp (v := w6) rfl (.tmp (v := (.v (.int .i64 0))) rfl .nil)) (.two (.cons (.c (.s 0 rfl)) (.cons (.c (.v _)) .nil))))
    · skip
      replace h := jret h
      replace h := Option.some.inj h; subst h
      exact hE

set_option maxRecDepth 100000 in
set_option maxHeartbeats 4000000 in
theorem gran_Get_fn {f : Form} {i : Int} {r : (List Span) × Int} (h : gran_Get f i = some r) : Fn CX 16 [(.agg (vs (Form.cs f))), (.v (.int .i64 i))] (.tup [(.v (.sl (r.1.map Span.cs))), (.v (.int .i64 r.2))]) := by
  refine Fn.ends Try.func16 rfl rfl rfl rfl rfl rfl ?_
  have H : Hs (⟨0, fun _ => .none⟩ : Heap) [] := Has.nil (Nat.le_refl _)
  generalize (⟨0, fun _ => .none⟩ : Heap) = σ at H ⊢
  unfold gran_Get at h
  apply Runs.then
  refine Runs.regionH 3 rfl H ?_; intro b1 σ H
  refine Ops.boxH (v := (.agg [(.v (.int .i64 f.Period)), (.v (.int .i64 f.Count)), (.v (.sl (f.Core.map (cL Span.cs)))), (.v (.sl (f.Odd.map Granule.cs)))])) (cs := [(.v (.int .i64 f.Period)), (.v (.int .i64 f.Count)), (.v (.sl (f.Core.map (cL Span.cs)))), (.v (.sl (f.Odd.map Granule.cs)))]) H (by omega) (by omega) rfl rfl rfl ?_; intro σ H
  refine Ops.assign (v := .nils) rfl rfl ?_
  refine Ops.assign (v := (.v (.int .i64 0))) rfl rfl ?_
  apply Ops.nil
  replace H := H.all
  apply Runs.then
  apply Runs.then
  refine Runs.regionH 3 rfl H ?_; intro b2 σ H
  refine Ops.move (v := (.v (.int .i64 i))) rfl rfl ?_
  refine Ops.call (ys := [(.v (.int .i64 i))]) (r := (.v (.bool (gran_inRange i)))) rfl (gran_inRange_fn rfl) rfl ?_
  refine Ops.not (b := (gran_inRange i)) rfl rfl ?_
  apply Ops.nil
  replace H := H.all
  refine Runs.whether (v := (!(gran_inRange i))) rfl ?_ ?_ <;> intro hc1
  · replace h := cond_T hc1 h
    apply Runs.then
    refine Runs.regionH 2 rfl H ?_; intro b3 σ H
    refine Ops.assign (v := .nils) rfl rfl ?_
    refine Ops.assign (v := (.v (.int .i64 20))) rfl rfl ?_
    apply Ops.nil
    replace H := H.all
    apply Runs.ret
    replace h := Option.some.inj h; subst h
    exact (Ends.H (xs := [.nils, (.v (.int .i64 20))]) (.inr rfl) H (.tmp (v := .nils) rfl (.tmp (v := (.v (.int .i64 20))) rfl .nil)) (.two (.cons (.c .n) (.cons (.c (.v _)) .nil))))
  · replace h := cond_F hc1 h
    apply Runs.skip
    apply Runs.then
    refine Runs.regionH 10 rfl H ?_; intro b4 σ H
    refine Ops.loadHA (off := 0) (cs := [(.v (.int .i64 f.Period)), (.v (.int .i64 f.Count)), (.v (.sl (f.Core.map (cL Span.cs)))), (.v (.sl (f.Odd.map Granule.cs)))]) H 0 rfl rfl rfl rfl rfl rfl rfl nofun rfl ?_
    refine Ops.move (v := (.v (.int .i64 i))) rfl rfl ?_
    obtain ⟨x1, q1, h⟩ := bind_some h
    refine Ops.call (ys := [(.agg [(.v (.int .i64 f.Period)), (.v (.int .i64 f.Count)), (.v (.sl (f.Core.map (cL Span.cs)))), (.v (.sl (f.Odd.map Granule.cs)))]), (.v (.int .i64 i))]) (r := (.tup [(.v (.sl (x1.1.map Span.cs))), (.v (.int .i64 x1.2.1)), (.v (.int .i64 x1.2.2))])) rfl (gran_kept_fn q1) rfl ?_
    refine Ops.move (v := (.tup [(.v (.sl (x1.1.map Span.cs))), (.v (.int .i64 x1.2.1)), (.v (.int .i64 x1.2.2))])) rfl rfl ?_
    refine Ops.extract (v := (.v (.sl (x1.1.map Span.cs)))) rfl rfl rfl ?_
    refine Ops.extract (v := (.v (.int .i64 x1.2.1))) rfl rfl rfl ?_
    refine Ops.extract (v := (.v (.int .i64 x1.2.2))) rfl rfl rfl ?_
    refine Ops.assign (v := (.v (.sl (x1.1.map Span.cs)))) rfl rfl ?_
    refine Ops.assign (v := (.v (.int .i64 x1.2.1))) rfl rfl ?_
    refine Ops.assign (v := (.v (.int .i64 x1.2.2))) rfl rfl ?_
    apply Ops.nil
    replace H := H.all
    apply Runs.then
    apply Runs.then
    refine Runs.regionH 3 rfl H ?_; intro b5 σ H
    refine Ops.move (v := (.v (.sl (x1.1.map Span.cs)))) rfl rfl ?_
    refine Ops.lenPt (c := Span.cs) (xs := x1.1) rfl rfl rfl ?_
    refine Ops.int (m := (x1.1.length : Int)) (m' := 0) (r := .bool ((x1.1.length : Int) == 0)) rfl rfl rfl rfl rfl ?_
    apply Ops.nil
    replace H := H.all
    refine Runs.whether (v := ((x1.1.length : Int) == 0)) rfl ?_ ?_ <;> intro hc2
    · replace h := cond_T hc2 h
      apply Runs.then
      refine Runs.regionH 2 rfl H ?_; intro b6 σ H
      refine Ops.assign (v := .nils) rfl rfl ?_
      refine Ops.assign (v := (.v (.int .i64 0))) rfl rfl ?_
      apply Ops.nil
      replace H := H.all
      apply Runs.ret
      replace h := Option.some.inj h; subst h
      exact (Ends.H (xs := [.nils, (.v (.int .i64 0))]) (.inr rfl) H (.tmp (v := .nils) rfl (.tmp (v := (.v (.int .i64 0))) rfl .nil)) (.two (.cons (.c .n) (.cons (.c (.v _)) .nil))))
    · replace h := cond_F hc2 h
      apply Runs.skip
      apply Runs.then
      apply Runs.then
      refine Runs.regionH 2 rfl H ?_; intro b7 σ H
      refine Ops.move (v := (.v (.int .i64 x1.2.2))) rfl rfl ?_
      refine Ops.int (m := x1.2.2) (m' := 0) (r := .bool (x1.2.2 != 0)) rfl rfl rfl rfl rfl ?_
      apply Ops.nil
      replace H := H.all
      refine Runs.whether (v := (x1.2.2 != 0)) rfl ?_ ?_ <;> intro hc3
      · replace h := cond_T hc3 h
        apply Runs.then
        refine Runs.regionH 2 rfl H ?_; intro b8 σ H
        refine Ops.assign (v := .nils) rfl rfl ?_
        refine Ops.assign (v := (.v (.int .i64 20))) rfl rfl ?_
        apply Ops.nil
        replace H := H.all
        apply Runs.ret
        replace h := Option.some.inj h; subst h
        exact (Ends.H (xs := [.nils, (.v (.int .i64 20))]) (.inr rfl) H (.tmp (v := .nils) rfl (.tmp (v := (.v (.int .i64 20))) rfl .nil)) (.two (.cons (.c .n) (.cons (.c (.v _)) .nil))))
      · replace h := cond_F hc3 h
        apply Runs.skip
        apply Runs.then
        refine Runs.regionH 7 rfl H ?_; intro b9 σ H
        refine Ops.move (v := (.v (.sl (x1.1.map Span.cs)))) rfl rfl ?_
        refine Ops.move (v := (.v (.int .i64 x1.2.1))) rfl rfl ?_
        obtain ⟨x2, q2, h⟩ := bind_some h
        refine Ops.call (ys := [(.v (.sl (x1.1.map Span.cs))), (.v (.int .i64 x1.2.1))]) (r := (.tup [(.v (.sl (x2.1.map Span.cs))), (.v (.int .i64 x2.2))])) rfl (spans_Move_fn q2) rfl ?_
        refine Ops.extract (v := (.v (.sl (x2.1.map Span.cs)))) rfl rfl rfl ?_
        refine Ops.extract (v := (.v (.int .i64 x2.2))) rfl rfl rfl ?_
        refine Ops.assign (v := (.v (.sl (x2.1.map Span.cs)))) rfl rfl ?_
        refine Ops.assign (v := (.v (.int .i64 x2.2))) rfl rfl ?_
        apply Ops.nil
        replace H := H.all
        apply Runs.ret
        replace h := Option.some.inj h; subst h
        exact (Ends.H (xs := [(.v (.sl (x2.1.map Span.cs))), (.v (.int .i64 x2.2))]) (.inr rfl) H (.tmp (v := (.v (.sl (x2.1.map Span.cs)))) rfl (.tmp (v := (.v (.int .i64 x2.2))) rfl .nil)) (.two (.cons (.c (.v _)) (.cons (.c (.v _)) .nil))))

set_option maxRecDepth 100000 in
set_option maxHeartbeats 4000000 in
theorem slices_IndexFunc_SSSpan_SSpan_fn {s : (List (List Span))} {f : (List Span) → Option Bool} {C : List Res} {cv0 : PV} (hs0 : cv0.still = true) (hp0 : cv0.pure = true → C = []) (hf0 : ∀ z0 y, f z0 = some y → CloH CX cv0 [(.v (.sl (z0.map Span.cs)))] (.v (.bool y)) C) {r : Int} (h : slices_IndexFunc_SSSpan_SSpan s f = some r) : FnH CX 82 [(.v (.sl (s.map (cL Span.cs)))), cv0] (.v (.int .i64 r)) C := by
  refine FnH.of Try.func82 rfl rfl rfl rfl (all_t rfl (all_t hs0 all_nil)) rfl (fun h => hp0 (all_get h 1 rfl)) ?_
  intro σ L hC H
  unfold slices_IndexFunc_SSSpan_SSpan at h
  apply Runs.then
  refine Runs.regionH 1 rfl H ?_; intro b1 σ H
  refine Ops.assign (v := (.v (.int .i64 0))) rfl rfl ?_
  apply Ops.nil
  replace H := H.all
  apply Runs.then
  apply Runs.then
  refine Runs.regionH 3 rfl H ?_; intro b2 σ H
  refine Ops.move (v := (.v (.sl (s.map (cL Span.cs))))) rfl rfl ?_
  refine Ops.lenPt (c := (cL Span.cs)) (xs := s) rfl rfl rfl ?_
  refine Ops.move (v := (.v (.int .i64 0))) rfl rfl ?_
  apply Ops.nil
  replace H := H.all
  apply Runs.inBlock
  obtain ⟨y1, hj1, h⟩ := bind_some h
  obtain ⟨n1, hj1⟩ := loopO_iff.1 hj1
  refine Runs.mono (Runs.loopO hj1 (fun s1 e σ => EnvHas e [(0, (.v (.sl (s.map (cL Span.cs))))), (1, cv0), (7, (.v (.int .i64 (s.length : Int)))), (8, (.v (.int .i64 s1)))] ∧ Hs σ (L)) (fun y1 x e σ => (∃ a1, y1 = (.go a1) ∧ x = .exit 0 ∧ EnvHas e [] ∧ Hs σ (L)) ∨ (∃ r', y1 = (.ret r') ∧ x = .ret ∧ EndsH CX Try.f82.results.toList (.v (.int .i64 r')) L x e σ)) ⟨⟨rfl, rfl, rfl, rfl, trivial⟩, H⟩ ?_) ?_
  · intro s1 e σ hI z h
    obtain ⟨he, H⟩ := hI
    obtain ⟨e, rfl⟩ := he.ex
    unfold slices_IndexFunc_SSSpan_SSpan.s0 at h
    apply Runs.then
    refine Runs.regionH 1 rfl H ?_; intro b3 σ H
    refine Ops.int (m := s1) (m' := (s.length : Int)) (r := .bool (decide (s1 < (s.length : Int)))) rfl rfl rfl rfl rfl ?_
    apply Ops.nil
    replace H := H.all
    apply Runs.then
    refine Runs.whether (v := (decide (s1 < (s.length : Int)))) rfl ?_ ?_ <;> intro hc1
    · replace h := cond_T hc1 h
      apply Runs.skip
      apply Runs.then
      apply Runs.inBlock
      apply Runs.then
      refine Runs.regionH 2 rfl H ?_; intro b4 σ H
      refine Ops.move (v := (.v (.int .i64 s1))) rfl rfl ?_
      refine Ops.assign (v := (.v (.int .i64 s1))) rfl rfl ?_
      apply Ops.nil
      replace H := H.all
      apply Runs.then
      refine Runs.regionH 6 rfl H ?_; intro b5 σ H
      refine Ops.move (v := cv0) rfl rfl ?_
      refine Ops.move (v := (.v (.sl (s.map (cL Span.cs))))) rfl rfl ?_
      refine Ops.move (v := (.v (.int .i64 s1))) rfl rfl ?_
      obtain ⟨x1, q1, h⟩ := bind_some h
      refine Ops.indexP (c := (cL Span.cs)) (u := x1) rfl rfl q1 rfl rfl rfl rfl ?_
      refine Ops.loadP (u := (.sl (x1.map Span.cs))) rfl rfl rfl rfl ?_
      obtain ⟨x2, q2, h⟩ := bind_some h
      refine Ops.callV (cv := cv0) (ys := [(.v (.sl (x1.map Span.cs)))]) (r := (.v (.bool x2))) H rfl rfl (hf0 x1 _ q2) hC rfl rfl ?_; intro σ H
      apply Ops.nil
      replace H := H.all
      refine Runs.whether (v := x2) rfl ?_ ?_ <;> intro hc2
      · replace h := cond_T hc2 h
        apply Runs.then
        refine Runs.regionH 2 rfl H ?_; intro b6 σ H
        refine Ops.move (v := (.v (.int .i64 s1))) rfl rfl ?_
        refine Ops.assign (v := (.v (.int .i64 s1))) rfl rfl ?_
        apply Ops.nil
        replace H := H.all
        apply Runs.ret
        replace h := Option.some.inj h; subst h
        exact ⟨nofun, (.inr ⟨_, rfl, rfl, (EndsH.H (xs := [(.v (.int .i64 s1))]) (.inr rfl) H (.tmp (v := (.v (.int .i64 s1))) rfl .nil) (.one (.c (.v _))) 0 rfl)⟩)⟩
      · replace h := cond_F hc2 h
        apply Runs.skip
        refine Runs.regionH 2 rfl H ?_; intro b7 σ H
        refine Ops.int (m := s1) (m' := 1) (r := .int .i64 (w64 (s1 + 1))) rfl rfl rfl rfl rfl ?_
        refine Ops.move (v := (.v (.int .i64 (w64 (s1 + 1))))) rfl rfl ?_
        apply Ops.nil
        replace H := H.all
        replace h := Option.some.inj h; subst h
        exact ⟨rfl, ⟨rfl, rfl, rfl, rfl, trivial⟩, H⟩
    · replace h := cond_F hc1 h
      apply Runs.exit
      replace h := Option.some.inj h; subst h
      exact ⟨nofun, (.inl ⟨_, rfl, rfl, trivial, H⟩)⟩
  · rintro x e σ (⟨a2, rfl, rfl, he, H⟩ | ⟨r', rfl, rfl, hE⟩)
    · skip
      replace h := jgo h
      obtain ⟨e, rfl⟩ := he.ex
      apply Runs.then
      refine Runs.regionH 1 rfl H ?_; intro b8 σ H
      refine Ops.assign (v := (.v (.int .i64 (-1)))) rfl rfl ?_
      apply Ops.nil
      replace H := H.all
      apply Runs.ret
      replace h := Option.some.inj h; subst h
      exact (EndsH.H (xs := [(.v (.int .i64 (-1)))]) (.inr rfl) H (.tmp (v := (.v (.int .i64 (-1)))) rfl .nil) (.one (.c (.v _))) 0 rfl)
    · skip
      replace h := jret h
      replace h := Option.some.inj h; subst h
      exact hE

set_option maxRecDepth 100000 in
set_option maxHeartbeats 4000000 in
theorem slices_ContainsFunc_SSSpan_SSpan_fn {s : (List (List Span))} {f : (List Span) → Option Bool} {C : List Res} {cv0 : PV} (hs0 : cv0.still = true) (hp0 : cv0.pure = true → C = []) (hf0 : ∀ z0 y, f z0 = some y → CloH CX cv0 [(.v (.sl (z0.map Span.cs)))] (.v (.bool y)) C) {r : Bool} (h : slices_ContainsFunc_SSSpan_SSpan s f = some r) : FnH CX 71 [(.v (.sl (s.map (cL Span.cs)))), cv0] (.v (.bool r)) C := by
  refine FnH.of Try.func71 rfl rfl rfl rfl (all_t rfl (all_t hs0 all_nil)) rfl (fun h => hp0 (all_get h 1 rfl)) ?_
  intro σ L hC H
  unfold slices_ContainsFunc_SSSpan_SSpan at h
  apply Runs.then
  refine Runs.regionH 1 rfl H ?_; intro b1 σ H
  refine Ops.assign (v := (.v (.bool false))) rfl rfl ?_
  apply Ops.nil
  replace H := H.all
  apply Runs.then
  refine Runs.regionH 5 rfl H ?_; intro b2 σ H
  refine Ops.move (v := (.v (.sl (s.map (cL Span.cs))))) rfl rfl ?_
  refine Ops.move (v := cv0) rfl rfl ?_
  obtain ⟨x1, q1, h⟩ := bind_some h
  refine Ops.callH (ys := [(.v (.sl (s.map (cL Span.cs)))), cv0]) (r := (.v (.int .i64 x1))) H rfl (slices_IndexFunc_SSSpan_SSpan_fn (C := C) hs0 hp0 hf0 q1) hC nofun rfl ?_; intro σ H
  refine Ops.int (m := x1) (m' := 0) (r := .bool (decide (x1 ≥ 0))) rfl rfl rfl rfl rfl ?_
  refine Ops.assign (v := (.v (.bool (decide (x1 ≥ 0))))) rfl rfl ?_
  apply Ops.nil
  replace H := H.all
  apply Runs.ret
  replace h := Option.some.inj h; subst h
  exact (EndsH.H (xs := [(.v (.bool (decide (x1 ≥ 0))))]) (.inr rfl) H (.tmp (v := (.v (.bool (decide (x1 ≥ 0))))) rfl .nil) (.one (.c (.v _))) 0 rfl)

set_option maxRecDepth 100000 in
set_option maxHeartbeats 4000000 in
theorem gran_bare_1_fn {l : (List Span)} {r : Bool} (h : gran_bare_1 l = r) : Fn CX 72 [(.v (.sl (l.map Span.cs)))] (.v (.bool r)) := by
  refine Fn.ends Try.func72 rfl rfl rfl rfl rfl rfl ?_
  have H : Hs (⟨0, fun _ => .none⟩ : Heap) [] := Has.nil (Nat.le_refl _)
  generalize (⟨0, fun _ => .none⟩ : Heap) = σ at H ⊢
  unfold gran_bare_1 at h
  apply Runs.then
  refine Runs.regionH 1 rfl H ?_; intro b1 σ H
  refine Ops.assign (v := (.v (.bool false))) rfl rfl ?_
  apply Ops.nil
  replace H := H.all
  apply Runs.then
  refine Runs.regionH 4 rfl H ?_; intro b2 σ H
  refine Ops.move (v := (.v (.sl (l.map Span.cs)))) rfl rfl ?_
  refine Ops.lenPt (c := Span.cs) (xs := l) rfl rfl rfl ?_
  refine Ops.int (m := (l.length : Int)) (m' := 0) (r := .bool (decide ((l.length : Int) > 0))) rfl rfl rfl rfl rfl ?_
  refine Ops.assign (v := (.v (.bool (decide ((l.length : Int) > 0))))) rfl rfl ?_
  apply Ops.nil
  replace H := H.all
  apply Runs.ret
  subst h
  exact (Ends.H (xs := [(.v (.bool (decide ((l.length : Int) > 0))))]) (.inr rfl) H (.tmp (v := (.v (.bool (decide ((l.length : Int) > 0))))) rfl .nil) (.one (.c (.v _))))

set_option maxRecDepth 100000 in
set_option maxHeartbeats 4000000 in
theorem gran_bare_fn {f : Form} {r : Bool} (h : gran_bare f = some r) : Fn CX 59 [(.agg (vs (Form.cs f)))] (.v (.bool r)) := by
  refine Fn.ends Try.func59 rfl rfl rfl rfl rfl rfl ?_
  have H : Hs (⟨0, fun _ => .none⟩ : Heap) [] := Has.nil (Nat.le_refl _)
  generalize (⟨0, fun _ => .none⟩ : Heap) = σ at H ⊢
  unfold gran_bare at h
  apply Runs.then
  refine Runs.regionH 2 rfl H ?_; intro b1 σ H
  refine Ops.boxH (v := (.agg [(.v (.int .i64 f.Period)), (.v (.int .i64 f.Count)), (.v (.sl (f.Core.map (cL Span.cs)))), (.v (.sl (f.Odd.map Granule.cs)))])) (cs := [(.v (.int .i64 f.Period)), (.v (.int .i64 f.Count)), (.v (.sl (f.Core.map (cL Span.cs)))), (.v (.sl (f.Odd.map Granule.cs)))]) H (by omega) (by omega) rfl rfl rfl ?_; intro σ H
  refine Ops.assign (v := (.v (.bool false))) rfl rfl ?_
  apply Ops.nil
  replace H := H.all
  apply Runs.then
  refine Runs.regionH 5 rfl H ?_; intro b2 σ H
  refine Ops.fieldAddrH (off := 0) (fo := 2) H 0 rfl rfl rfl rfl rfl nofun rfl ?_
  refine Ops.loadH (off := 2) (v := (.v (.sl (f.Core.map (cL Span.cs))))) H 0 rfl rfl rfl rfl rfl nofun rfl ?_
  obtain ⟨x1, q1, h⟩ := bind_some h
  refine Ops.callH (ys := [(.v (.sl (f.Core.map (cL Span.cs)))), (.v (.fn 72))]) (r := (.v (.bool x1))) H rfl (slices_ContainsFunc_SSSpan_SSpan_fn (C := []) rfl (fun _ => rfl) (fun z0 y hz => (CloH.fn (Fn.toH (gran_bare_1_fn (Option.some.inj hz)) _))) q1) .nil nofun rfl ?_; intro σ H
  refine Ops.not (b := x1) rfl rfl ?_
  refine Ops.assign (v := (.v (.bool (!x1)))) rfl rfl ?_
  apply Ops.nil
  replace H := H.all
  apply Runs.ret
  replace h := Option.some.inj h; subst h
  exact (Ends.H (xs := [(.v (.bool (!x1)))]) (.inr rfl) H (.tmp (v := (.v (.bool (!x1)))) rfl .nil) (.one (.c (.v _))))

set_option maxRecDepth 100000 in
set_option maxHeartbeats 4000000 in
theorem gran_some_fn {f : Form} {i : Int} {r : Bool} (h : gran_some f i = some r) : Fn CX 61 [(.agg (vs (Form.cs f))), (.v (.int .i64 i))] (.v (.bool r)) := by
  refine Fn.ends Try.func61 rfl rfl rfl rfl rfl rfl ?_
  have H : Hs (⟨0, fun _ => .none⟩ : Heap) [] := Has.nil (Nat.le_refl _)
  generalize (⟨0, fun _ => .none⟩ : Heap) = σ at H ⊢
  unfold gran_some at h
  apply Runs.then
  refine Runs.regionH 2 rfl H ?_; intro b1 σ H
  refine Ops.boxH (v := (.agg [(.v (.int .i64 f.Period)), (.v (.int .i64 f.Count)), (.v (.sl (f.Core.map (cL Span.cs)))), (.v (.sl (f.Odd.map Granule.cs)))])) (cs := [(.v (.int .i64 f.Period)), (.v (.int .i64 f.Count)), (.v (.sl (f.Core.map (cL Span.cs)))), (.v (.sl (f.Odd.map Granule.cs)))]) H (by omega) (by omega) rfl rfl rfl ?_; intro σ H
  refine Ops.assign (v := (.v (.bool false))) rfl rfl ?_
  apply Ops.nil
  replace H := H.all
  apply Runs.then
  refine Runs.regionH 10 rfl H ?_; intro b2 σ H
  refine Ops.loadHA (off := 0) (cs := [(.v (.int .i64 f.Period)), (.v (.int .i64 f.Count)), (.v (.sl (f.Core.map (cL Span.cs)))), (.v (.sl (f.Odd.map Granule.cs)))]) H 0 rfl rfl rfl rfl rfl rfl rfl nofun rfl ?_
  refine Ops.move (v := (.v (.int .i64 i))) rfl rfl ?_
  obtain ⟨x1, q1, h⟩ := bind_some h
  refine Ops.call (ys := [(.agg [(.v (.int .i64 f.Period)), (.v (.int .i64 f.Count)), (.v (.sl (f.Core.map (cL Span.cs)))), (.v (.sl (f.Odd.map Granule.cs)))]), (.v (.int .i64 i))]) (r := (.tup [(.v (.sl (x1.1.map Span.cs))), (.v (.int .i64 x1.2.1)), (.v (.int .i64 x1.2.2))])) rfl (gran_kept_fn q1) rfl ?_
  refine Ops.move (v := (.tup [(.v (.sl (x1.1.map Span.cs))), (.v (.int .i64 x1.2.1)), (.v (.int .i64 x1.2.2))])) rfl rfl ?_
  refine Ops.extract (v := (.v (.sl (x1.1.map Span.cs)))) rfl rfl rfl ?_
  refine Ops.extract (v := (.v (.int .i64 x1.2.1))) rfl rfl rfl ?_
  refine Ops.extract (v := (.v (.int .i64 x1.2.2))) rfl rfl rfl ?_
  refine Ops.assign (v := (.v (.sl (x1.1.map Span.cs)))) rfl rfl ?_
  refine Ops.assign (v := (.v (.int .i64 x1.2.1))) rfl rfl ?_
  refine Ops.assign (v := (.v (.int .i64 x1.2.2))) rfl rfl ?_
  apply Ops.nil
  replace H := H.all
  apply Runs.then
  refine Runs.regionH 4 rfl H ?_; intro b3 σ H
  refine Ops.move (v := (.v (.sl (x1.1.map Span.cs)))) rfl rfl ?_
  refine Ops.lenPt (c := Span.cs) (xs := x1.1) rfl rfl rfl ?_
  refine Ops.int (m := (x1.1.length : Int)) (m' := 0) (r := .bool (decide ((x1.1.length : Int) > 0))) rfl rfl rfl rfl rfl ?_
  refine Ops.assign (v := (.v (.bool (decide ((x1.1.length : Int) > 0))))) rfl rfl ?_
  apply Ops.nil
  replace H := H.all
  apply Runs.ret
  replace h := Option.some.inj h; subst h
  exact (Ends.H (xs := [(.v (.bool (decide ((x1.1.length : Int) > 0))))]) (.inr rfl) H (.tmp (v := (.v (.bool (decide ((x1.1.length : Int) > 0))))) rfl .nil) (.one (.c (.v _))))

set_option maxRecDepth 100000 in
set_option maxHeartbeats 4000000 in
theorem gran_step_fn {f : Form} {from' : Int} {by' : Int} {r : Int × Bool} (h : gran_step f from' by' = some r) : Fn CX 38 [(.agg (vs (Form.cs f))), (.v (.int .i64 from')), (.v (.int .i64 by'))] (.tup [(.v (.int .i64 r.1)), (.v (.bool r.2))]) := by
  refine Fn.ends Try.func38 rfl rfl rfl rfl rfl rfl ?_
  have H : Hs (⟨0, fun _ => .none⟩ : Heap) [] := Has.nil (Nat.le_refl _)
  generalize (⟨0, fun _ => .none⟩ : Heap) = σ at H ⊢
  unfold gran_step at h
  apply Runs.then
  refine Runs.regionH 3 rfl H ?_; intro b1 σ H
  refine Ops.boxH (v := (.agg [(.v (.int .i64 f.Period)), (.v (.int .i64 f.Count)), (.v (.sl (f.Core.map (cL Span.cs)))), (.v (.sl (f.Odd.map Granule.cs)))])) (cs := [(.v (.int .i64 f.Period)), (.v (.int .i64 f.Count)), (.v (.sl (f.Core.map (cL Span.cs)))), (.v (.sl (f.Odd.map Granule.cs)))]) H (by omega) (by omega) rfl rfl rfl ?_; intro σ H
  refine Ops.assign (v := (.v (.int .i64 0))) rfl rfl ?_
  refine Ops.assign (v := (.v (.bool false))) rfl rfl ?_
  apply Ops.nil
  replace H := H.all
  apply Runs.then
  apply Runs.then
  refine Runs.regionH 2 rfl H ?_; intro b2 σ H
  refine Ops.loadHA (off := 0) (cs := [(.v (.int .i64 f.Period)), (.v (.int .i64 f.Count)), (.v (.sl (f.Core.map (cL Span.cs)))), (.v (.sl (f.Odd.map Granule.cs)))]) H 0 rfl rfl rfl rfl rfl rfl rfl nofun rfl ?_
  obtain ⟨x1, q1, h⟩ := bind_some h
  refine Ops.call (ys := [(.agg [(.v (.int .i64 f.Period)), (.v (.int .i64 f.Count)), (.v (.sl (f.Core.map (cL Span.cs)))), (.v (.sl (f.Odd.map Granule.cs)))])]) (r := (.v (.bool x1))) rfl (gran_bare_fn q1) rfl ?_
  apply Ops.nil
  replace H := H.all
  refine Runs.whether (v := x1) rfl ?_ ?_ <;> intro hc1
  · replace h := cond_T hc1 h
    apply Runs.then
    refine Runs.regionH 8 rfl H ?_; intro b3 σ H
    refine Ops.loadHA (off := 0) (cs := [(.v (.int .i64 f.Period)), (.v (.int .i64 f.Count)), (.v (.sl (f.Core.map (cL Span.cs)))), (.v (.sl (f.Odd.map Granule.cs)))]) H 0 rfl rfl rfl rfl rfl rfl rfl nofun rfl ?_
    refine Ops.move (v := (.v (.int .i64 from'))) rfl rfl ?_
    obtain ⟨x2, q2, h⟩ := bind_some h
    refine Ops.call (ys := [(.agg [(.v (.int .i64 f.Period)), (.v (.int .i64 f.Count)), (.v (.sl (f.Core.map (cL Span.cs)))), (.v (.sl (f.Odd.map Granule.cs)))]), (.v (.int .i64 from'))]) (r := (.tup [(.v (.int .i64 x2.1)), (.v (.bool x2.2))])) rfl (gran_odd_fn q2) rfl ?_
    refine Ops.move (v := (.tup [(.v (.int .i64 x2.1)), (.v (.bool x2.2))])) rfl rfl ?_
    refine Ops.extract (v := (.v (.int .i64 x2.1))) rfl rfl rfl ?_
    refine Ops.extract (v := (.v (.bool x2.2))) rfl rfl rfl ?_
    refine Ops.assign (v := (.v (.int .i64 x2.1))) rfl rfl ?_
    refine Ops.assign (v := (.v (.bool x2.2))) rfl rfl ?_
    apply Ops.nil
    replace H := H.all
    apply Runs.then
    obtain ⟨y1, hj1, h⟩ := bind_some h
    refine Runs.mono (Q := fun x e σ => x = .normal ∧ EnvHas e [(2, (.v (.int .i64 by'))), (3, (.ptr (b1 + 0) 4 0)), (8, (.v (.int .i64 y1)))] ∧ Hs σ [.blk (b1 + 0) 25 [(.v (.int .i64 f.Period)), (.v (.int .i64 f.Count)), (.v (.sl (f.Core.map (cL Span.cs)))), (.v (.sl (f.Odd.map Granule.cs)))]]) ?_ ?_
    · replace h := hj1
      apply Runs.then
      refine Runs.regionH 6 rfl H ?_; intro b4 σ H
      refine Ops.move (v := (.v (.int .i64 by'))) rfl rfl ?_
      refine Ops.int (m := by') (m' := 0) (r := .bool (decide (by' < 0))) rfl rfl rfl rfl rfl ?_
      refine Ops.move (v := (.v (.bool (decide (by' < 0))))) rfl rfl ?_
      refine Ops.mid 3 (K1 := fun e σ => EnvHas e [(24, (.v (.bool ((decide (by' < 0)) && (!x2.2))))), (2, (.v (.int .i64 by'))), (3, (.ptr (b1 + 0) 4 0)), (8, (.v (.int .i64 x2.1)))] ∧ Has σ (b4 + 6) (b4 + 6) [.blk (b1 + 0) 25 [(.v (.int .i64 f.Period)), (.v (.int .i64 f.Count)), (.v (.sl (f.Core.map (cL Span.cs)))), (.v (.sl (f.Odd.map Granule.cs)))]]) rfl ?_ ?_
      · refine Ops.split rfl rfl ?_ ?_ <;> intro hc2
        · skip
          refine Ops.wanted rfl rfl ?_
          refine Ops.move (v := (.v (.bool x2.2))) rfl rfl ?_
          refine Ops.wanted rfl rfl ?_
          refine Ops.not (b := x2.2) rfl rfl ?_
          refine Ops.pickT (v := (.v (.bool (!x2.2)))) rfl rfl rfl ?_
          apply Ops.nil
          exact ⟨⟨and_T hc2, rfl, rfl, rfl, trivial⟩, H.weak (by omega) (Nat.le_refl _)⟩
        · skip
          refine Ops.pass rfl rfl rfl ?_
          refine Ops.pass rfl rfl rfl ?_
          refine Ops.pickF (v := (.v (.bool false))) rfl rfl rfl ?_
          apply Ops.nil
          exact ⟨⟨and_F hc2, rfl, rfl, rfl, trivial⟩, H.weak (by omega) (Nat.le_refl _)⟩
      · rintro e σ ⟨he, H⟩
        obtain ⟨e, rfl⟩ := he.ex
        apply Ops.nil
        replace H := H.all
        refine Runs.whether (v := ((decide (by' < 0)) && (!x2.2))) rfl ?_ ?_ <;> intro hc3
        · replace h := cond_T hc3 h
          refine Runs.regionH 3 rfl H ?_; intro b5 σ H
          refine Ops.move (v := (.v (.int .i64 x2.1))) rfl rfl ?_
          refine Ops.int (m := x2.1) (m' := 1) (r := .int .i64 (w64 (x2.1 - 1))) rfl rfl rfl rfl rfl ?_
          refine Ops.assign (v := (.v (.int .i64 (w64 (x2.1 - 1))))) rfl rfl ?_
          apply Ops.nil
          replace H := H.all
          replace h := Option.some.inj h; subst h
          exact ⟨rfl, ⟨rfl, rfl, rfl, trivial⟩, H⟩
        · replace h := cond_F hc3 h
          apply Runs.skip
          replace h := Option.some.inj h; subst h
          exact ⟨rfl, ⟨rfl, rfl, rfl, trivial⟩, H⟩
    · rintro x e σ ⟨rfl, he, H⟩
      obtain ⟨e, rfl⟩ := he.ex
      apply Runs.then
      apply Runs.inBlock
      obtain ⟨y2, hj2, h⟩ := bind_some h
      obtain ⟨n1, hj2⟩ := loopO_iff.1 hj2
      refine Runs.mono (Runs.loopO hj2 (fun s1 e σ => EnvHas e [(2, (.v (.int .i64 by'))), (3, (.ptr (b1 + 0) 4 0)), (8, (.v (.int .i64 s1)))] ∧ Hs σ [.blk (b1 + 0) 25 [(.v (.int .i64 f.Period)), (.v (.int .i64 f.Count)), (.v (.sl (f.Core.map (cL Span.cs)))), (.v (.sl (f.Odd.map Granule.cs)))]]) (fun y2 x e σ => (∃ a1, y2 = (.go a1) ∧ x = .exit 0 ∧ EnvHas e [] ∧ Hs σ []) ∨ (∃ r', y2 = (.ret r') ∧ x = .ret ∧ Ends CX Try.f38.results.toList (.tup [(.v (.int .i64 r'.1)), (.v (.bool r'.2))]) x e σ)) ⟨⟨rfl, rfl, rfl, trivial⟩, H⟩ ?_) ?_
      · intro s1 e σ hI z h
        obtain ⟨he, H⟩ := hI
        obtain ⟨e, rfl⟩ := he.ex
        unfold gran_step.s0 at h
        apply Runs.then
        apply Runs.then
        refine Runs.regionH 9 rfl H ?_; intro b6 σ H
        refine Ops.move (v := (.v (.int .i64 s1))) rfl rfl ?_
        refine Ops.int (m := s1) (m' := 0) (r := .bool (decide (s1 ≥ 0))) rfl rfl rfl rfl rfl ?_
        refine Ops.move (v := (.v (.bool (decide (s1 ≥ 0))))) rfl rfl ?_
        refine Ops.mid 6 (K1 := fun e σ => EnvHas e [(35, (.v (.bool ((decide (s1 ≥ 0)) && (decide (s1 < (f.Odd.length : Int))))))), (2, (.v (.int .i64 by'))), (3, (.ptr (b1 + 0) 4 0)), (8, (.v (.int .i64 s1)))] ∧ Has σ (b6 + 9) (b6 + 9) [.blk (b1 + 0) 25 [(.v (.int .i64 f.Period)), (.v (.int .i64 f.Count)), (.v (.sl (f.Core.map (cL Span.cs)))), (.v (.sl (f.Odd.map Granule.cs)))]]) rfl ?_ ?_
        · refine Ops.split rfl rfl ?_ ?_ <;> intro hc4
          · skip
            refine Ops.wanted rfl rfl ?_
            refine Ops.move (v := (.v (.int .i64 s1))) rfl rfl ?_
            refine Ops.wanted rfl rfl ?_
            refine Ops.fieldAddrH (off := 0) (fo := 3) H 0 rfl rfl rfl rfl rfl nofun rfl ?_
            refine Ops.wanted rfl rfl ?_
            refine Ops.loadH (off := 3) (v := (.v (.sl (f.Odd.map Granule.cs)))) H 0 rfl rfl rfl rfl rfl nofun rfl ?_
            refine Ops.wanted rfl rfl ?_
            refine Ops.lenPt (c := Granule.cs) (xs := f.Odd) rfl rfl rfl ?_
            refine Ops.wanted rfl rfl ?_
            refine Ops.int (m := s1) (m' := (f.Odd.length : Int)) (r := .bool (decide (s1 < (f.Odd.length : Int)))) rfl rfl rfl rfl rfl ?_
            refine Ops.pickT (v := (.v (.bool (decide (s1 < (f.Odd.length : Int)))))) rfl rfl rfl ?_
            apply Ops.nil
            exact ⟨⟨and_T hc4, rfl, rfl, rfl, trivial⟩, H.weak (by omega) (Nat.le_refl _)⟩
          · skip
            refine Ops.pass rfl rfl rfl ?_
            refine Ops.pass rfl rfl rfl ?_
            refine Ops.pass rfl rfl rfl ?_
            refine Ops.pass rfl rfl rfl ?_
            refine Ops.pass rfl rfl rfl ?_
            refine Ops.pickF (v := (.v (.bool false))) rfl rfl rfl ?_
            apply Ops.nil
            exact ⟨⟨and_F hc4, rfl, rfl, rfl, trivial⟩, H.weak (by omega) (Nat.le_refl _)⟩
        · rintro e σ ⟨he, H⟩
          obtain ⟨e, rfl⟩ := he.ex
          apply Ops.nil
          replace H := H.all
          refine Runs.whether (v := ((decide (s1 ≥ 0)) && (decide (s1 < (f.Odd.length : Int))))) rfl ?_ ?_ <;> intro hc5
          · replace h := cond_T hc5 h
            apply Runs.skip
            apply Runs.then
            apply Runs.inBlock
            apply Runs.then
            refine Runs.regionH 8 rfl H ?_; intro b7 σ H
            refine Ops.fieldAddrH (off := 0) (fo := 3) H 0 rfl rfl rfl rfl rfl nofun rfl ?_
            refine Ops.loadH (off := 3) (v := (.v (.sl (f.Odd.map Granule.cs)))) H 0 rfl rfl rfl rfl rfl nofun rfl ?_
            refine Ops.move (v := (.v (.int .i64 s1))) rfl rfl ?_
            obtain ⟨x3, q3, h⟩ := bind_some h
            refine Ops.indexP (c := Granule.cs) (u := x3) rfl rfl q3 rfl rfl rfl rfl ?_
            refine Ops.fieldAddrP rfl rfl rfl rfl ?_
            refine Ops.loadP (u := (.sl (x3.Ticks.map Span.cs))) rfl rfl rfl rfl ?_
            refine Ops.lenPt (c := Span.cs) (xs := x3.Ticks) rfl rfl rfl ?_
            refine Ops.int (m := (x3.Ticks.length : Int)) (m' := 0) (r := .bool (decide ((x3.Ticks.length : Int) > 0))) rfl rfl rfl rfl rfl ?_
            apply Ops.nil
            replace H := H.all
            refine Runs.whether (v := (decide ((x3.Ticks.length : Int) > 0))) rfl ?_ ?_ <;> intro hc6
            · replace h := cond_T hc6 h
              apply Runs.then
              refine Runs.regionH 8 rfl H ?_; intro b8 σ H
              refine Ops.fieldAddrH (off := 0) (fo := 3) H 0 rfl rfl rfl rfl rfl nofun rfl ?_
              refine Ops.loadH (off := 3) (v := (.v (.sl (f.Odd.map Granule.cs)))) H 0 rfl rfl rfl rfl rfl nofun rfl ?_
              refine Ops.move (v := (.v (.int .i64 s1))) rfl rfl ?_
              obtain ⟨x4, q4, h⟩ := bind_some h
              refine Ops.indexP (c := Granule.cs) (u := x4) rfl rfl q4 rfl rfl rfl rfl ?_
              refine Ops.fieldAddrP rfl rfl rfl rfl ?_
              refine Ops.loadP (u := (.int .i64 x4.Index)) rfl rfl rfl rfl ?_
              refine Ops.assign (v := (.v (.int .i64 x4.Index))) rfl rfl ?_
              refine Ops.assign (v := (.v (.bool true))) rfl rfl ?_
              apply Ops.nil
              replace H := H.all
              apply Runs.ret
              replace h := Option.some.inj h; subst h
              exact ⟨nofun, (.inr ⟨_, rfl, rfl, (Ends.H (xs := [(.v (.int .i64 x4.Index)), (.v (.bool true))]) (.inr rfl) H (.tmp (v := (.v (.int .i64 x4.Index))) rfl (.tmp (v := (.v (.bool true))) rfl .nil)) (.two (.cons (.c (.v _)) (.cons (.c (.v _)) .nil))))⟩)⟩
            · replace h := cond_F hc6 h
              apply Runs.skip
              refine Runs.regionH 4 rfl H ?_; intro b9 σ H
              refine Ops.move (v := (.v (.int .i64 s1))) rfl rfl ?_
              refine Ops.move (v := (.v (.int .i64 by'))) rfl rfl ?_
              refine Ops.int (m := s1) (m' := by') (r := .int .i64 (w64 (s1 + by'))) rfl rfl rfl rfl rfl ?_
              refine Ops.assign (v := (.v (.int .i64 (w64 (s1 + by'))))) rfl rfl ?_
              apply Ops.nil
              replace H := H.all
              replace h := Option.some.inj h; subst h
              exact ⟨rfl, ⟨rfl, rfl, rfl, trivial⟩, H⟩
          · replace h := cond_F hc5 h
            apply Runs.exit
            replace h := Option.some.inj h; subst h
            exact ⟨nofun, (.inl ⟨_, rfl, rfl, trivial, (H.erase 0)⟩)⟩
      · rintro x e σ (⟨a2, rfl, rfl, he, H⟩ | ⟨r', rfl, rfl, hE⟩)
        · skip
          replace h := jgo h
          obtain ⟨e, rfl⟩ := he.ex
          apply Runs.then
          refine Runs.regionH 2 rfl H ?_; intro b10 σ H
          refine Ops.assign (v := (.v (.int .i64 0))) rfl rfl ?_
          refine Ops.assign (v := (.v (.bool false))) rfl rfl ?_
          apply Ops.nil
          replace H := H.all
          apply Runs.ret
          replace h := Option.some.inj h; subst h
          exact (Ends.H (xs := [(.v (.int .i64 0)), (.v (.bool false))]) (.inr rfl) H (.tmp (v := (.v (.int .i64 0))) rfl (.tmp (v := (.v (.bool false))) rfl .nil)) (.two (.cons (.c (.v _)) (.cons (.c (.v _)) .nil))))
        · skip
          replace h := jret h
          replace h := Option.some.inj h; subst h
          exact hE
  · replace h := cond_F hc1 h
    apply Runs.skip
    apply Runs.then
    apply Runs.then
    refine Runs.regionH 2 rfl H ?_; intro b11 σ H
    refine Ops.move (v := (.v (.int .i64 from'))) rfl rfl ?_
    refine Ops.assign (v := (.v (.int .i64 from'))) rfl rfl ?_
    apply Ops.nil
    replace H := H.all
    apply Runs.inBlock
    obtain ⟨y3, hj3, h⟩ := bind_some h
    obtain ⟨n2, hj3⟩ := loopO_iff.1 hj3
    refine Runs.mono (Runs.loopO hj3 (fun s2 e σ => EnvHas e [(2, (.v (.int .i64 by'))), (3, (.ptr (b1 + 0) 4 0)), (10, (.v (.int .i64 s2)))] ∧ Hs σ [.blk (b1 + 0) 25 [(.v (.int .i64 f.Period)), (.v (.int .i64 f.Count)), (.v (.sl (f.Core.map (cL Span.cs)))), (.v (.sl (f.Odd.map Granule.cs)))]]) (fun y3 x e σ => (∃ a3, y3 = (.go a3) ∧ x = .exit 2 ∧ EnvHas e [] ∧ Hs σ []) ∨ (∃ r', y3 = (.ret r') ∧ x = .ret ∧ Ends CX Try.f38.results.toList (.tup [(.v (.int .i64 r'.1)), (.v (.bool r'.2))]) x e σ)) ⟨⟨rfl, rfl, rfl, trivial⟩, H⟩ ?_) ?_
    · intro s2 e σ hI z h
      obtain ⟨he, H⟩ := hI
      obtain ⟨e, rfl⟩ := he.ex
      unfold gran_step.s1 at h
      apply Runs.then
      apply Runs.then
      refine Runs.regionH 2 rfl H ?_; intro b12 σ H
      refine Ops.move (v := (.v (.int .i64 s2))) rfl rfl ?_
      refine Ops.call (ys := [(.v (.int .i64 s2))]) (r := (.v (.bool (gran_inRange s2)))) rfl (gran_inRange_fn rfl) rfl ?_
      apply Ops.nil
      replace H := H.all
      refine Runs.whether (v := (gran_inRange s2)) rfl ?_ ?_ <;> intro hc7
      · replace h := cond_T hc7 h
        apply Runs.skip
        apply Runs.then
        apply Runs.inBlock
        apply Runs.then
        refine Runs.regionH 3 rfl H ?_; intro b13 σ H
        refine Ops.loadHA (off := 0) (cs := [(.v (.int .i64 f.Period)), (.v (.int .i64 f.Count)), (.v (.sl (f.Core.map (cL Span.cs)))), (.v (.sl (f.Odd.map Granule.cs)))]) H 0 rfl rfl rfl rfl rfl rfl rfl nofun rfl ?_
        refine Ops.move (v := (.v (.int .i64 s2))) rfl rfl ?_
        obtain ⟨x5, q5, h⟩ := bind_some h
        refine Ops.call (ys := [(.agg [(.v (.int .i64 f.Period)), (.v (.int .i64 f.Count)), (.v (.sl (f.Core.map (cL Span.cs)))), (.v (.sl (f.Odd.map Granule.cs)))]), (.v (.int .i64 s2))]) (r := (.v (.bool x5))) rfl (gran_some_fn q5) rfl ?_
        apply Ops.nil
        replace H := H.all
        refine Runs.whether (v := x5) rfl ?_ ?_ <;> intro hc8
        · replace h := cond_T hc8 h
          apply Runs.then
          refine Runs.regionH 3 rfl H ?_; intro b14 σ H
          refine Ops.move (v := (.v (.int .i64 s2))) rfl rfl ?_
          refine Ops.assign (v := (.v (.int .i64 s2))) rfl rfl ?_
          refine Ops.assign (v := (.v (.bool true))) rfl rfl ?_
          apply Ops.nil
          replace H := H.all
          apply Runs.ret
          replace h := Option.some.inj h; subst h
          exact ⟨nofun, (.inr ⟨_, rfl, rfl, (Ends.H (xs := [(.v (.int .i64 s2)), (.v (.bool true))]) (.inr rfl) H (.tmp (v := (.v (.int .i64 s2))) rfl (.tmp (v := (.v (.bool true))) rfl .nil)) (.two (.cons (.c (.v _)) (.cons (.c (.v _)) .nil))))⟩)⟩
        · replace h := cond_F hc8 h
          apply Runs.skip
          refine Runs.regionH 4 rfl H ?_; intro b15 σ H
          refine Ops.move (v := (.v (.int .i64 s2))) rfl rfl ?_
          refine Ops.move (v := (.v (.int .i64 by'))) rfl rfl ?_
          refine Ops.int (m := s2) (m' := by') (r := .int .i64 (w64 (s2 + by'))) rfl rfl rfl rfl rfl ?_
          refine Ops.assign (v := (.v (.int .i64 (w64 (s2 + by'))))) rfl rfl ?_
          apply Ops.nil
          replace H := H.all
          replace h := Option.some.inj h; subst h
          exact ⟨rfl, ⟨rfl, rfl, rfl, trivial⟩, H⟩
      · replace h := cond_F hc7 h
        apply Runs.exit
        replace h := Option.some.inj h; subst h
        exact ⟨nofun, (.inl ⟨_, rfl, rfl, trivial, (H.erase 0)⟩)⟩
    · rintro x e σ (⟨a4, rfl, rfl, he, H⟩ | ⟨r', rfl, rfl, hE⟩)
      · skip
        replace h := jgo h
        obtain ⟨e, rfl⟩ := he.ex
        apply Runs.then
        refine Runs.regionH 2 rfl H ?_; intro b16 σ H
        refine Ops.assign (v := (.v (.int .i64 0))) rfl rfl ?_
        refine Ops.assign (v := (.v (.bool false))) rfl rfl ?_
        apply Ops.nil
        replace H := H.all
        apply Runs.ret
        replace h := Option.some.inj h; subst h
        exact (Ends.H (xs := [(.v (.int .i64 0)), (.v (.bool false))]) (.inr rfl) H (.tmp (v := (.v (.int .i64 0))) rfl (.tmp (v := (.v (.bool false))) rfl .nil)) (.two (.cons (.c (.v _)) (.cons (.c (.v _)) .nil))))
      · skip
        replace h := jret h
        replace h := Option.some.inj h; subst h
        exact hE

set_option maxRecDepth 100000 in
set_option maxHeartbeats 4000000 in
theorem gran_Before_fn {f : Form} {i : Int} {r : Int × Bool} (h : gran_Before f i = some r) : Fn CX 15 [(.agg (vs (Form.cs f))), (.v (.int .i64 i))] (.tup [(.v (.int .i64 r.1)), (.v (.bool r.2))]) := by
  refine Fn.ends Try.func15 rfl rfl rfl rfl rfl rfl ?_
  have H : Hs (⟨0, fun _ => .none⟩ : Heap) [] := Has.nil (Nat.le_refl _)
  generalize (⟨0, fun _ => .none⟩ : Heap) = σ at H ⊢
  unfold gran_Before at h
  apply Runs.then
  refine Runs.regionH 3 rfl H ?_; intro b1 σ H
  refine Ops.boxH (v := (.agg [(.v (.int .i64 f.Period)), (.v (.int .i64 f.Count)), (.v (.sl (f.Core.map (cL Span.cs)))), (.v (.sl (f.Odd.map Granule.cs)))])) (cs := [(.v (.int .i64 f.Period)), (.v (.int .i64 f.Count)), (.v (.sl (f.Core.map (cL Span.cs)))), (.v (.sl (f.Odd.map Granule.cs)))]) H (by omega) (by omega) rfl rfl rfl ?_; intro σ H
  refine Ops.assign (v := (.v (.int .i64 0))) rfl rfl ?_
  refine Ops.assign (v := (.v (.bool false))) rfl rfl ?_
  apply Ops.nil
  replace H := H.all
  apply Runs.then
  apply Runs.then
  refine Runs.regionH 2 rfl H ?_; intro b2 σ H
  refine Ops.move (v := (.v (.int .i64 i))) rfl rfl ?_
  refine Ops.int (m := i) (m' := (-1099511627776)) (r := .bool (decide (i ≤ (-1099511627776)))) rfl rfl rfl rfl rfl ?_
  apply Ops.nil
  replace H := H.all
  refine Runs.whether (v := (decide (i ≤ (-1099511627776)))) rfl ?_ ?_ <;> intro hc1
  · replace h := cond_T hc1 h
    apply Runs.then
    refine Runs.regionH 2 rfl H ?_; intro b3 σ H
    refine Ops.assign (v := (.v (.int .i64 0))) rfl rfl ?_
    refine Ops.assign (v := (.v (.bool false))) rfl rfl ?_
    apply Ops.nil
    replace H := H.all
    apply Runs.ret
    replace h := Option.some.inj h; subst h
    exact (Ends.H (xs := [(.v (.int .i64 0)), (.v (.bool false))]) (.inr rfl) H (.tmp (v := (.v (.int .i64 0))) rfl (.tmp (v := (.v (.bool false))) rfl .nil)) (.two (.cons (.c (.v _)) (.cons (.c (.v _)) .nil))))
  · replace h := cond_F hc1 h
    apply Runs.skip
    apply Runs.then
    refine Runs.regionH 9 rfl H ?_; intro b4 σ H
    refine Ops.loadHA (off := 0) (cs := [(.v (.int .i64 f.Period)), (.v (.int .i64 f.Count)), (.v (.sl (f.Core.map (cL Span.cs)))), (.v (.sl (f.Odd.map Granule.cs)))]) H 0 rfl rfl rfl rfl rfl rfl rfl nofun rfl ?_
    refine Ops.move (v := (.v (.int .i64 i))) rfl rfl ?_
    refine Ops.int (m := i) (m' := 1) (r := .int .i64 (w64 (i - 1))) rfl rfl rfl rfl rfl ?_
    refine Ops.min2 rfl rfl rfl ?_
    obtain ⟨x1, q1, h⟩ := bind_some h
    refine Ops.call (ys := [(.agg [(.v (.int .i64 f.Period)), (.v (.int .i64 f.Count)), (.v (.sl (f.Core.map (cL Span.cs)))), (.v (.sl (f.Odd.map Granule.cs)))]), (.v (.int .i64 (iMin (w64 (i - 1)) 1099511627776))), (.v (.int .i64 (-1)))]) (r := (.tup [(.v (.int .i64 x1.1)), (.v (.bool x1.2))])) rfl (gran_step_fn q1) rfl ?_
    refine Ops.extract (v := (.v (.int .i64 x1.1))) rfl rfl rfl ?_
    refine Ops.extract (v := (.v (.bool x1.2))) rfl rfl rfl ?_
    refine Ops.assign (v := (.v (.int .i64 x1.1))) rfl rfl ?_
    refine Ops.assign (v := (.v (.bool x1.2))) rfl rfl ?_
    apply Ops.nil
    replace H := H.all
    apply Runs.ret
    replace h := Option.some.inj h; subst h
    exact (Ends.H (xs := [(.v (.int .i64 x1.1)), (.v (.bool x1.2))]) (.inr rfl) H (.tmp (v := (.v (.int .i64 x1.1))) rfl (.tmp (v := (.v (.bool x1.2))) rfl .nil)) (.two (.cons (.c (.v _)) (.cons (.c (.v _)) .nil))))

set_option maxRecDepth 100000 in
set_option maxHeartbeats 4000000 in
theorem gran_Behind_fn {f : Form} {i : Int} {r : Int × Bool} (h : gran_Behind f i = some r) : Fn CX 14 [(.agg (vs (Form.cs f))), (.v (.int .i64 i))] (.tup [(.v (.int .i64 r.1)), (.v (.bool r.2))]) := by
  refine Fn.ends Try.func14 rfl rfl rfl rfl rfl rfl ?_
  have H : Hs (⟨0, fun _ => .none⟩ : Heap) [] := Has.nil (Nat.le_refl _)
  generalize (⟨0, fun _ => .none⟩ : Heap) = σ at H ⊢
  unfold gran_Behind at h
  apply Runs.then
  refine Runs.regionH 3 rfl H ?_; intro b1 σ H
  refine Ops.boxH (v := (.agg [(.v (.int .i64 f.Period)), (.v (.int .i64 f.Count)), (.v (.sl (f.Core.map (cL Span.cs)))), (.v (.sl (f.Odd.map Granule.cs)))])) (cs := [(.v (.int .i64 f.Period)), (.v (.int .i64 f.Count)), (.v (.sl (f.Core.map (cL Span.cs)))), (.v (.sl (f.Odd.map Granule.cs)))]) H (by omega) (by omega) rfl rfl rfl ?_; intro σ H
  refine Ops.assign (v := (.v (.int .i64 0))) rfl rfl ?_
  refine Ops.assign (v := (.v (.bool false))) rfl rfl ?_
  apply Ops.nil
  replace H := H.all
  apply Runs.then
  apply Runs.then
  refine Runs.regionH 2 rfl H ?_; intro b2 σ H
  refine Ops.move (v := (.v (.int .i64 i))) rfl rfl ?_
  refine Ops.int (m := i) (m' := 1099511627776) (r := .bool (decide (i ≥ 1099511627776))) rfl rfl rfl rfl rfl ?_
  apply Ops.nil
  replace H := H.all
  refine Runs.whether (v := (decide (i ≥ 1099511627776))) rfl ?_ ?_ <;> intro hc1
  · replace h := cond_T hc1 h
    apply Runs.then
    refine Runs.regionH 2 rfl H ?_; intro b3 σ H
    refine Ops.assign (v := (.v (.int .i64 0))) rfl rfl ?_
    refine Ops.assign (v := (.v (.bool false))) rfl rfl ?_
    apply Ops.nil
    replace H := H.all
    apply Runs.ret
    replace h := Option.some.inj h; subst h
    exact (Ends.H (xs := [(.v (.int .i64 0)), (.v (.bool false))]) (.inr rfl) H (.tmp (v := (.v (.int .i64 0))) rfl (.tmp (v := (.v (.bool false))) rfl .nil)) (.two (.cons (.c (.v _)) (.cons (.c (.v _)) .nil))))
  · replace h := cond_F hc1 h
    apply Runs.skip
    apply Runs.then
    refine Runs.regionH 9 rfl H ?_; intro b4 σ H
    refine Ops.loadHA (off := 0) (cs := [(.v (.int .i64 f.Period)), (.v (.int .i64 f.Count)), (.v (.sl (f.Core.map (cL Span.cs)))), (.v (.sl (f.Odd.map Granule.cs)))]) H 0 rfl rfl rfl rfl rfl rfl rfl nofun rfl ?_
    refine Ops.move (v := (.v (.int .i64 i))) rfl rfl ?_
    refine Ops.int (m := i) (m' := 1) (r := .int .i64 (w64 (i + 1))) rfl rfl rfl rfl rfl ?_
    refine Ops.max2 rfl rfl rfl ?_
    obtain ⟨x1, q1, h⟩ := bind_some h
    refine Ops.call (ys := [(.agg [(.v (.int .i64 f.Period)), (.v (.int .i64 f.Count)), (.v (.sl (f.Core.map (cL Span.cs)))), (.v (.sl (f.Odd.map Granule.cs)))]), (.v (.int .i64 (iMax (w64 (i + 1)) (-1099511627776)))), (.v (.int .i64 1))]) (r := (.tup [(.v (.int .i64 x1.1)), (.v (.bool x1.2))])) rfl (gran_step_fn q1) rfl ?_
    refine Ops.extract (v := (.v (.int .i64 x1.1))) rfl rfl rfl ?_
    refine Ops.extract (v := (.v (.bool x1.2))) rfl rfl rfl ?_
    refine Ops.assign (v := (.v (.int .i64 x1.1))) rfl rfl ?_
    refine Ops.assign (v := (.v (.bool x1.2))) rfl rfl ?_
    apply Ops.nil
    replace H := H.all
    apply Runs.ret
    replace h := Option.some.inj h; subst h
    exact (Ends.H (xs := [(.v (.int .i64 x1.1)), (.v (.bool x1.2))]) (.inr rfl) H (.tmp (v := (.v (.int .i64 x1.1))) rfl (.tmp (v := (.v (.bool x1.2))) rfl .nil)) (.two (.cons (.c (.v _)) (.cons (.c (.v _)) .nil))))

set_option maxRecDepth 100000 in
set_option maxHeartbeats 4000000 in
theorem spans_Ahead_fn {a : (List Span)} {b : (List Span)} {r : Bool} (h : spans_Ahead a b = some r) : Fn CX 19 [(.v (.sl (a.map Span.cs))), (.v (.sl (b.map Span.cs)))] (.v (.bool r)) := by
  refine Fn.ends Try.func19 rfl rfl rfl rfl rfl rfl ?_
  have H : Hs (⟨0, fun _ => .none⟩ : Heap) [] := Has.nil (Nat.le_refl _)
  generalize (⟨0, fun _ => .none⟩ : Heap) = σ at H ⊢
  unfold spans_Ahead at h
  apply Runs.then
  refine Runs.regionH 1 rfl H ?_; intro b1 σ H
  refine Ops.assign (v := (.v (.bool false))) rfl rfl ?_
  apply Ops.nil
  replace H := H.all
  apply Runs.then
  refine Runs.drawnH 23 rfl (by kernel_rfl) H ?_; intro b2 σ H B2
  refine Ops.move (v := (.v (.sl (a.map Span.cs)))) rfl rfl ?_
  refine Ops.lenPt (c := Span.cs) (xs := a) rfl rfl rfl ?_
  refine Ops.int (m := (a.length : Int)) (m' := 0) (r := .bool ((a.length : Int) == 0)) rfl rfl rfl rfl rfl ?_
  refine Ops.move (v := (.v (.bool ((a.length : Int) == 0)))) rfl rfl ?_
  refine Ops.mid 4 (K1 := fun e σ => EnvHas e [(12, (.v (.bool (((a.length : Int) == 0) || ((b.length : Int) == 0))))), (0, (.v (.sl (a.map Span.cs)))), (1, (.v (.sl (b.map Span.cs))))] ∧ Has σ (b2 + 8) (b2 + 23) []) rfl ?_ ?_
  · refine Ops.split rfl rfl ?_ ?_ <;> intro hc1
    · skip
      refine Ops.pass rfl rfl rfl ?_
      refine Ops.pass rfl rfl rfl ?_
      refine Ops.pass rfl rfl rfl ?_
      refine Ops.pickT (v := (.v (.bool true))) rfl rfl rfl ?_
      apply Ops.nil
      exact ⟨⟨or_T hc1, rfl, rfl, trivial⟩, H.weak (by omega) (Nat.le_refl _)⟩
    · skip
      refine Ops.wanted rfl rfl ?_
      refine Ops.move (v := (.v (.sl (b.map Span.cs)))) rfl rfl ?_
      refine Ops.wanted rfl rfl ?_
      refine Ops.lenPt (c := Span.cs) (xs := b) rfl rfl rfl ?_
      refine Ops.wanted rfl rfl ?_
      refine Ops.int (m := (b.length : Int)) (m' := 0) (r := .bool ((b.length : Int) == 0)) rfl rfl rfl rfl rfl ?_
      refine Ops.pickF (v := (.v (.bool ((b.length : Int) == 0)))) rfl rfl rfl ?_
      apply Ops.nil
      exact ⟨⟨or_F hc1, rfl, rfl, trivial⟩, H.weak (by omega) (Nat.le_refl _)⟩
  · rintro e σ ⟨he, H⟩
    obtain ⟨e, rfl⟩ := he.ex
    refine Ops.move (v := (.v (.bool (((a.length : Int) == 0) || ((b.length : Int) == 0))))) rfl rfl ?_
    obtain ⟨y1, hj1, h⟩ := bind_some h
    refine Ops.mid 13 (K1 := fun e σ => EnvHas e [(26, (.v (.bool y1)))] ∧ Has σ (b2 + 22) (b2 + 23) []) rfl ?_ ?_
    · refine Ops.split rfl rfl ?_ ?_ <;> intro hc2
      · replace h := cond_T hc2 hj1
        refine Ops.pass rfl rfl rfl ?_
        refine Ops.pass rfl rfl rfl ?_
        refine Ops.pass rfl rfl rfl ?_
        refine Ops.pass rfl rfl rfl ?_
        refine Ops.pass rfl rfl rfl ?_
        refine Ops.pass rfl rfl rfl ?_
        refine Ops.pass rfl rfl rfl ?_
        refine Ops.pass rfl rfl rfl ?_
        refine Ops.pass rfl rfl rfl ?_
        refine Ops.pass rfl rfl rfl ?_
        refine Ops.pass rfl rfl rfl ?_
        refine Ops.pass rfl rfl rfl ?_
        refine Ops.pickT (v := (.v (.bool true))) rfl rfl rfl ?_
        apply Ops.nil
        replace h := Option.some.inj h; subst h
        exact ⟨⟨rfl, trivial⟩, H.weak (by omega) (Nat.le_refl _)⟩
      · replace h := cond_F hc2 hj1
        refine Ops.wanted rfl rfl ?_
        refine Ops.move (v := (.v (.sl (a.map Span.cs)))) rfl rfl ?_
        refine Ops.wanted rfl rfl ?_
        refine Ops.move (v := (.v (.sl (a.map Span.cs)))) rfl rfl ?_
        refine Ops.wanted rfl rfl ?_
        refine Ops.lenPt (c := Span.cs) (xs := a) rfl rfl rfl ?_
        refine Ops.wanted rfl rfl ?_
        refine Ops.int (m := (a.length : Int)) (m' := 1) (r := .int .i64 (w64 ((a.length : Int) - 1))) rfl rfl rfl rfl rfl ?_
        refine Ops.wanted rfl rfl ?_
        obtain ⟨x1, q1, h⟩ := bind_some h
        refine Ops.indexP (c := Span.cs) (u := x1) rfl rfl q1 rfl rfl rfl rfl ?_
        refine Ops.wanted rfl rfl ?_
        refine Ops.fieldAddrP rfl rfl rfl rfl ?_
        refine Ops.wanted rfl rfl ?_
        refine Ops.loadP (u := (.int .i64 x1.To)) rfl rfl rfl rfl ?_
        refine Ops.wanted rfl rfl ?_
        refine Ops.move (v := (.v (.sl (b.map Span.cs)))) rfl rfl ?_
        refine Ops.wanted rfl rfl ?_
        obtain ⟨x2, q2, h⟩ := bind_some h
        refine Ops.indexP (c := Span.cs) (u := x2) rfl rfl q2 rfl rfl rfl rfl ?_
        refine Ops.wanted rfl rfl ?_
        refine Ops.fieldAddrP rfl rfl rfl rfl ?_
        refine Ops.wanted rfl rfl ?_
        refine Ops.loadP (u := (.int .i64 x2.From)) rfl rfl rfl rfl ?_
        refine Ops.wanted rfl rfl ?_
        refine Ops.int (m := x1.To) (m' := x2.From) (r := .bool (decide (x1.To < x2.From))) rfl rfl rfl rfl rfl ?_
        refine Ops.pickF (v := (.v (.bool (decide (x1.To < x2.From))))) rfl rfl rfl ?_
        apply Ops.nil
        replace h := Option.some.inj h; subst h
        exact ⟨⟨rfl, trivial⟩, H.weak (by omega) (Nat.le_refl _)⟩
    · rintro e σ ⟨he, H⟩
      obtain ⟨e, rfl⟩ := he.ex
      refine Ops.assign (v := (.v (.bool y1))) rfl rfl ?_
      apply Ops.nil
      replace H := H.all
      apply Runs.ret
      replace h := Option.some.inj h; subst h
      exact (Ends.H (xs := [(.v (.bool y1))]) (.inr rfl) H (.tmp (v := (.v (.bool y1))) rfl .nil) (.one (.c (.v _))))

set_option maxRecDepth 100000 in
set_option maxHeartbeats 4000000 in
theorem gran_beside_fn {f : Form} {i : Int} {r : Bool} (h : gran_beside f i = some r) : Fn CX 58 [(.agg (vs (Form.cs f))), (.v (.int .i64 i))] (.v (.bool r)) := by
  refine Fn.ends Try.func58 rfl rfl rfl rfl rfl rfl ?_
  have H : Hs (⟨0, fun _ => .none⟩ : Heap) [] := Has.nil (Nat.le_refl _)
  generalize (⟨0, fun _ => .none⟩ : Heap) = σ at H ⊢
  unfold gran_beside at h
  apply Runs.then
  refine Runs.regionH 2 rfl H ?_; intro b1 σ H
  refine Ops.boxH (v := (.agg [(.v (.int .i64 f.Period)), (.v (.int .i64 f.Count)), (.v (.sl (f.Core.map (cL Span.cs)))), (.v (.sl (f.Odd.map Granule.cs)))])) (cs := [(.v (.int .i64 f.Period)), (.v (.int .i64 f.Count)), (.v (.sl (f.Core.map (cL Span.cs)))), (.v (.sl (f.Odd.map Granule.cs)))]) H (by omega) (by omega) rfl rfl rfl ?_; intro σ H
  refine Ops.assign (v := (.v (.bool false))) rfl rfl ?_
  apply Ops.nil
  replace H := H.all
  apply Runs.then
  refine Runs.regionH 8 rfl H ?_; intro b2 σ H
  refine Ops.loadHA (off := 0) (cs := [(.v (.int .i64 f.Period)), (.v (.int .i64 f.Count)), (.v (.sl (f.Core.map (cL Span.cs)))), (.v (.sl (f.Odd.map Granule.cs)))]) H 0 rfl rfl rfl rfl rfl rfl rfl nofun rfl ?_
  refine Ops.move (v := (.v (.int .i64 i))) rfl rfl ?_
  obtain ⟨x1, q1, h⟩ := bind_some h
  refine Ops.call (ys := [(.agg [(.v (.int .i64 f.Period)), (.v (.int .i64 f.Count)), (.v (.sl (f.Core.map (cL Span.cs)))), (.v (.sl (f.Odd.map Granule.cs)))]), (.v (.int .i64 i))]) (r := (.tup [(.v (.sl (x1.1.map Span.cs))), (.v (.int .i64 x1.2))])) rfl (gran_Get_fn q1) rfl ?_
  refine Ops.move (v := (.tup [(.v (.sl (x1.1.map Span.cs))), (.v (.int .i64 x1.2))])) rfl rfl ?_
  refine Ops.extract (v := (.v (.sl (x1.1.map Span.cs)))) rfl rfl rfl ?_
  refine Ops.extract (v := (.v (.int .i64 x1.2))) rfl rfl rfl ?_
  refine Ops.assign (v := (.v (.sl (x1.1.map Span.cs)))) rfl rfl ?_
  refine Ops.assign (v := (.v (.int .i64 x1.2))) rfl rfl ?_
  apply Ops.nil
  replace H := H.all
  apply Runs.then
  apply Runs.then
  refine Runs.regionH 2 rfl H ?_; intro b3 σ H
  refine Ops.move (v := (.v (.int .i64 x1.2))) rfl rfl ?_
  refine Ops.int (m := x1.2) (m' := 0) (r := .bool (x1.2 != 0)) rfl rfl rfl rfl rfl ?_
  apply Ops.nil
  replace H := H.all
  refine Runs.whether (v := (x1.2 != 0)) rfl ?_ ?_ <;> intro hc1
  · replace h := cond_T hc1 h
    apply Runs.then
    refine Runs.regionH 1 rfl H ?_; intro b4 σ H
    refine Ops.assign (v := (.v (.bool false))) rfl rfl ?_
    apply Ops.nil
    replace H := H.all
    apply Runs.ret
    replace h := Option.some.inj h; subst h
    exact (Ends.H (xs := [(.v (.bool false))]) (.inr rfl) H (.tmp (v := (.v (.bool false))) rfl .nil) (.one (.c (.v _))))
  · replace h := cond_F hc1 h
    apply Runs.skip
    apply Runs.then
    refine Runs.regionH 8 rfl H ?_; intro b5 σ H
    refine Ops.loadHA (off := 0) (cs := [(.v (.int .i64 f.Period)), (.v (.int .i64 f.Count)), (.v (.sl (f.Core.map (cL Span.cs)))), (.v (.sl (f.Odd.map Granule.cs)))]) H 0 rfl rfl rfl rfl rfl rfl rfl nofun rfl ?_
    refine Ops.move (v := (.v (.int .i64 i))) rfl rfl ?_
    obtain ⟨x2, q2, h⟩ := bind_some h
    refine Ops.call (ys := [(.agg [(.v (.int .i64 f.Period)), (.v (.int .i64 f.Count)), (.v (.sl (f.Core.map (cL Span.cs)))), (.v (.sl (f.Odd.map Granule.cs)))]), (.v (.int .i64 i))]) (r := (.tup [(.v (.int .i64 x2.1)), (.v (.bool x2.2))])) rfl (gran_Before_fn q2) rfl ?_
    refine Ops.move (v := (.tup [(.v (.int .i64 x2.1)), (.v (.bool x2.2))])) rfl rfl ?_
    refine Ops.extract (v := (.v (.int .i64 x2.1))) rfl rfl rfl ?_
    refine Ops.extract (v := (.v (.bool x2.2))) rfl rfl rfl ?_
    refine Ops.assign (v := (.v (.int .i64 x2.1))) rfl rfl ?_
    refine Ops.assign (v := (.v (.bool x2.2))) rfl rfl ?_
    apply Ops.nil
    replace H := H.all
    apply Runs.then
    refine Runs.regionH 8 rfl H ?_; intro b6 σ H
    refine Ops.loadHA (off := 0) (cs := [(.v (.int .i64 f.Period)), (.v (.int .i64 f.Count)), (.v (.sl (f.Core.map (cL Span.cs)))), (.v (.sl (f.Odd.map Granule.cs)))]) H 0 rfl rfl rfl rfl rfl rfl rfl nofun rfl ?_
    refine Ops.move (v := (.v (.int .i64 i))) rfl rfl ?_
    obtain ⟨x3, q3, h⟩ := bind_some h
    refine Ops.call (ys := [(.agg [(.v (.int .i64 f.Period)), (.v (.int .i64 f.Count)), (.v (.sl (f.Core.map (cL Span.cs)))), (.v (.sl (f.Odd.map Granule.cs)))]), (.v (.int .i64 i))]) (r := (.tup [(.v (.int .i64 x3.1)), (.v (.bool x3.2))])) rfl (gran_Behind_fn q3) rfl ?_
    refine Ops.move (v := (.tup [(.v (.int .i64 x3.1)), (.v (.bool x3.2))])) rfl rfl ?_
    refine Ops.extract (v := (.v (.int .i64 x3.1))) rfl rfl rfl ?_
    refine Ops.extract (v := (.v (.bool x3.2))) rfl rfl rfl ?_
    refine Ops.assign (v := (.v (.int .i64 x3.1))) rfl rfl ?_
    refine Ops.assign (v := (.v (.bool x3.2))) rfl rfl ?_
    apply Ops.nil
    replace H := H.all
    apply Runs.then
    refine Runs.regionH 2 rfl H ?_; intro b7 σ H
    refine Ops.assign (v := .nils) rfl rfl ?_
    refine Ops.assign (v := .nils) rfl rfl ?_
    apply Ops.nil
    replace H := H.all
    apply Runs.then
    obtain ⟨y1, hj1, h⟩ := bind_some h
    refine Runs.mono (Q := fun x e σ => (∃ a1, ∃ (w1 : PV), RO w1 (a1.map Span.cs) ∧ y1 = (.go a1) ∧ x = .normal ∧ EnvHas e [(2, (.ptr (b1 + 0) 4 0)), (5, (.v (.sl (x1.1.map Span.cs)))), (9, (.v (.int .i64 x3.1))), (10, (.v (.bool x3.2))), (11, w1), (12, .nils)] ∧ Hs σ [.blk (b1 + 0) 25 [(.v (.int .i64 f.Period)), (.v (.int .i64 f.Count)), (.v (.sl (f.Core.map (cL Span.cs)))), (.v (.sl (f.Odd.map Granule.cs)))]]) ∨ (∃ r', y1 = (.ret r') ∧ x = .ret ∧ Ends CX Try.f58.results.toList (.v (.bool r')) x e σ)) ?_ ?_
    · replace h := hj1
      apply Runs.then
      refine Runs.regionH 1 rfl H ?_; intro b8 σ H
      refine Ops.move (v := (.v (.bool x2.2))) rfl rfl ?_
      apply Ops.nil
      replace H := H.all
      refine Runs.whether (v := x2.2) rfl ?_ ?_ <;> intro hc2
      · replace h := cond_T hc2 h
        apply Runs.then
        refine Runs.regionH 8 rfl H ?_; intro b9 σ H
        refine Ops.loadHA (off := 0) (cs := [(.v (.int .i64 f.Period)), (.v (.int .i64 f.Count)), (.v (.sl (f.Core.map (cL Span.cs)))), (.v (.sl (f.Odd.map Granule.cs)))]) H 0 rfl rfl rfl rfl rfl rfl rfl nofun rfl ?_
        refine Ops.move (v := (.v (.int .i64 x2.1))) rfl rfl ?_
        obtain ⟨x4, q4, h⟩ := bind_some h
        refine Ops.call (ys := [(.agg [(.v (.int .i64 f.Period)), (.v (.int .i64 f.Count)), (.v (.sl (f.Core.map (cL Span.cs)))), (.v (.sl (f.Odd.map Granule.cs)))]), (.v (.int .i64 x2.1))]) (r := (.tup [(.v (.sl (x4.1.map Span.cs))), (.v (.int .i64 x4.2))])) rfl (gran_Get_fn q4) rfl ?_
        refine Ops.move (v := (.tup [(.v (.sl (x4.1.map Span.cs))), (.v (.int .i64 x4.2))])) rfl rfl ?_
        refine Ops.extract (v := (.v (.sl (x4.1.map Span.cs)))) rfl rfl rfl ?_
        refine Ops.extract (v := (.v (.int .i64 x4.2))) rfl rfl rfl ?_
        refine Ops.assign (v := (.v (.sl (x4.1.map Span.cs)))) rfl rfl ?_
        refine Ops.assign (v := (.v (.int .i64 x4.2))) rfl rfl ?_
        apply Ops.nil
        replace H := H.all
        apply Runs.then
        refine Runs.regionH 2 rfl H ?_; intro b10 σ H
        refine Ops.move (v := (.v (.int .i64 x4.2))) rfl rfl ?_
        refine Ops.int (m := x4.2) (m' := 0) (r := .bool (x4.2 != 0)) rfl rfl rfl rfl rfl ?_
        apply Ops.nil
        replace H := H.all
        refine Runs.whether (v := (x4.2 != 0)) rfl ?_ ?_ <;> intro hc3
        · replace h := cond_T hc3 h
          apply Runs.then
          refine Runs.regionH 1 rfl H ?_; intro b11 σ H
          refine Ops.assign (v := (.v (.bool false))) rfl rfl ?_
          apply Ops.nil
          replace H := H.all
          apply Runs.ret
          replace h := Option.some.inj h; subst h
          exact (.inr ⟨_, rfl, rfl, (Ends.H (xs := [(.v (.bool false))]) (.inr rfl) H (.tmp (v := (.v (.bool false))) rfl .nil) (.one (.c (.v _))))⟩)
        · replace h := cond_F hc3 h
          apply Runs.skip
          replace h := Option.some.inj h; subst h
          exact (.inl ⟨_, (.v (.sl (x4.1.map Span.cs))), .inr rfl, rfl, rfl, ⟨rfl, rfl, rfl, rfl, rfl, rfl, trivial⟩, H⟩)
      · replace h := cond_F hc2 h
        apply Runs.skip
        replace h := Option.some.inj h; subst h
        exact (.inl ⟨_, .nils, .inl ⟨rfl, rfl⟩, rfl, rfl, ⟨rfl, rfl, rfl, rfl, rfl, rfl, trivial⟩, H⟩)
    · rintro x e σ (⟨a2, w2, hw2, rfl, rfl, he, H⟩ | ⟨r', rfl, rfl, hE⟩)
      · skip
        replace h := jgo h
        obtain ⟨e, rfl⟩ := he.ex
        apply Runs.then
        obtain ⟨y2, hj2, h⟩ := bind_some h
        refine Runs.mono (Q := fun x e σ => (∃ a3, ∃ (w3 : PV), RO w3 (a3.map Span.cs) ∧ y2 = (.go a3) ∧ x = .normal ∧ EnvHas e [(5, (.v (.sl (x1.1.map Span.cs)))), (11, w2), (12, w3)] ∧ Hs σ []) ∨ (∃ r', y2 = (.ret r') ∧ x = .ret ∧ Ends CX Try.f58.results.toList (.v (.bool r')) x e σ)) ?_ ?_
        · replace h := hj2
          apply Runs.then
          refine Runs.regionH 1 rfl H ?_; intro b12 σ H
          refine Ops.move (v := (.v (.bool x3.2))) rfl rfl ?_
          apply Ops.nil
          replace H := H.all
          refine Runs.whether (v := x3.2) rfl ?_ ?_ <;> intro hc4
          · replace h := cond_T hc4 h
            apply Runs.then
            refine Runs.regionH 8 rfl H ?_; intro b13 σ H
            refine Ops.loadHA (off := 0) (cs := [(.v (.int .i64 f.Period)), (.v (.int .i64 f.Count)), (.v (.sl (f.Core.map (cL Span.cs)))), (.v (.sl (f.Odd.map Granule.cs)))]) H 0 rfl rfl rfl rfl rfl rfl rfl nofun rfl ?_
            refine Ops.move (v := (.v (.int .i64 x3.1))) rfl rfl ?_
            obtain ⟨x5, q5, h⟩ := bind_some h
            refine Ops.call (ys := [(.agg [(.v (.int .i64 f.Period)), (.v (.int .i64 f.Count)), (.v (.sl (f.Core.map (cL Span.cs)))), (.v (.sl (f.Odd.map Granule.cs)))]), (.v (.int .i64 x3.1))]) (r := (.tup [(.v (.sl (x5.1.map Span.cs))), (.v (.int .i64 x5.2))])) rfl (gran_Get_fn q5) rfl ?_
            refine Ops.move (v := (.tup [(.v (.sl (x5.1.map Span.cs))), (.v (.int .i64 x5.2))])) rfl rfl ?_
            refine Ops.extract (v := (.v (.sl (x5.1.map Span.cs)))) rfl rfl rfl ?_
            refine Ops.extract (v := (.v (.int .i64 x5.2))) rfl rfl rfl ?_
            refine Ops.assign (v := (.v (.sl (x5.1.map Span.cs)))) rfl rfl ?_
            refine Ops.assign (v := (.v (.int .i64 x5.2))) rfl rfl ?_
            apply Ops.nil
            replace H := H.all
            apply Runs.then
            refine Runs.regionH 2 rfl H ?_; intro b14 σ H
            refine Ops.move (v := (.v (.int .i64 x5.2))) rfl rfl ?_
            refine Ops.int (m := x5.2) (m' := 0) (r := .bool (x5.2 != 0)) rfl rfl rfl rfl rfl ?_
            apply Ops.nil
            replace H := H.all
            refine Runs.whether (v := (x5.2 != 0)) rfl ?_ ?_ <;> intro hc5
            · replace h := cond_T hc5 h
              apply Runs.then
              refine Runs.regionH 1 rfl H ?_; intro b15 σ H
              refine Ops.assign (v := (.v (.bool false))) rfl rfl ?_
              apply Ops.nil
              replace H := H.all
              apply Runs.ret
              replace h := Option.some.inj h; subst h
              exact (.inr ⟨_, rfl, rfl, (Ends.H (xs := [(.v (.bool false))]) (.inr rfl) H (.tmp (v := (.v (.bool false))) rfl .nil) (.one (.c (.v _))))⟩)
            · replace h := cond_F hc5 h
              apply Runs.skip
              replace h := Option.some.inj h; subst h
              exact (.inl ⟨_, (.v (.sl (x5.1.map Span.cs))), .inr rfl, rfl, rfl, ⟨rfl, rfl, rfl, trivial⟩, (H.erase 0)⟩)
          · replace h := cond_F hc4 h
            apply Runs.skip
            replace h := Option.some.inj h; subst h
            exact (.inl ⟨_, .nils, .inl ⟨rfl, rfl⟩, rfl, rfl, ⟨rfl, rfl, rfl, trivial⟩, (H.erase 0)⟩)
        · rintro x e σ (⟨a4, w4, hw4, rfl, rfl, he, H⟩ | ⟨r', rfl, rfl, hE⟩)
          · skip
            replace h := jgo h
            obtain ⟨e, rfl⟩ := he.ex
            apply Runs.then
            refine Runs.regionH 14 rfl H ?_; intro b16 σ H
            refine Ops.move (v := w2) rfl rfl ?_
            refine Ops.move (v := (.v (.sl (x1.1.map Span.cs)))) rfl rfl ?_
            obtain ⟨x6, q6, h⟩ := bind_some h
            refine Ops.callX (xs := [w2, (.v (.sl (x1.1.map Span.cs)))]) (ys := [(.v (.sl (a2.map Span.cs))), (.v (.sl (x1.1.map Span.cs)))]) H rfl (.cons (.c (.ro hw2)) (.cons (.c (.v _)) .nil)) (spans_Ahead_fn q6) rfl rfl rfl rfl ?_; intro σ H
            refine Ops.move (v := (.v (.bool x6))) rfl rfl ?_
            obtain ⟨y3, hj3, h⟩ := bind_some h
            refine Ops.mid 4 (K1 := fun e σ => EnvHas e [(58, (.v (.bool y3))), (11, w2), (12, w4)] ∧ Has σ (b16 + 8) (b16 + 14) []) rfl ?_ ?_
            · refine Ops.split rfl rfl ?_ ?_ <;> intro hc6
              · replace h := cond_T hc6 hj3
                refine Ops.wanted rfl rfl ?_
                refine Ops.move (v := (.v (.sl (x1.1.map Span.cs)))) rfl rfl ?_
                refine Ops.wanted rfl rfl ?_
                refine Ops.move (v := w4) rfl rfl ?_
                refine Ops.wanted rfl rfl ?_
                obtain ⟨x7, q7, h⟩ := bind_some h
                refine Ops.callX (xs := [(.v (.sl (x1.1.map Span.cs))), w4]) (ys := [(.v (.sl (x1.1.map Span.cs))), (.v (.sl (a4.map Span.cs)))]) H rfl (.cons (.c (.v _)) (.cons (.c (.ro hw4)) .nil)) (spans_Ahead_fn q7) rfl rfl rfl rfl ?_; intro σ H
                refine Ops.pickT (v := (.v (.bool x7))) rfl rfl rfl ?_
                apply Ops.nil
                replace h := Option.some.inj h; subst h
                exact ⟨⟨rfl, rfl, rfl, trivial⟩, H.weak (by omega) (Nat.le_refl _)⟩
              · replace h := cond_F hc6 hj3
                refine Ops.pass rfl rfl rfl ?_
                refine Ops.pass rfl rfl rfl ?_
                refine Ops.pass rfl rfl rfl ?_
                refine Ops.pickF (v := (.v (.bool false))) rfl rfl rfl ?_
                apply Ops.nil
                replace h := Option.some.inj h; subst h
                exact ⟨⟨rfl, rfl, rfl, trivial⟩, H.weak (by omega) (Nat.le_refl _)⟩
            · rintro e σ ⟨he, H⟩
              obtain ⟨e, rfl⟩ := he.ex
              refine Ops.move (v := (.v (.bool y3))) rfl rfl ?_
              obtain ⟨y4, hj4, h⟩ := bind_some h
              refine Ops.mid 4 (K1 := fun e σ => EnvHas e [(63, (.v (.bool y4)))] ∧ Has σ (b16 + 13) (b16 + 14) []) rfl ?_ ?_
              · refine Ops.split rfl rfl ?_ ?_ <;> intro hc7
                · replace h := cond_T hc7 hj4
                  refine Ops.wanted rfl rfl ?_
                  refine Ops.move (v := w2) rfl rfl ?_
                  refine Ops.wanted rfl rfl ?_
                  refine Ops.move (v := w4) rfl rfl ?_
                  refine Ops.wanted rfl rfl ?_
                  obtain ⟨x8, q8, h⟩ := bind_some h
                  refine Ops.callX (xs := [w2, w4]) (ys := [(.v (.sl (a2.map Span.cs))), (.v (.sl (a4.map Span.cs)))]) H rfl (.cons (.c (.ro hw2)) (.cons (.c (.ro hw4)) .nil)) (spans_Ahead_fn q8) rfl rfl rfl rfl ?_; intro σ H
                  refine Ops.pickT (v := (.v (.bool x8))) rfl rfl rfl ?_
                  apply Ops.nil
                  replace h := Option.some.inj h; subst h
                  exact ⟨⟨rfl, trivial⟩, H.weak (by omega) (Nat.le_refl _)⟩
                · replace h := cond_F hc7 hj4
                  refine Ops.pass rfl rfl rfl ?_
                  refine Ops.pass rfl rfl rfl ?_
                  refine Ops.pass rfl rfl rfl ?_
                  refine Ops.pickF (v := (.v (.bool false))) rfl rfl rfl ?_
                  apply Ops.nil
                  replace h := Option.some.inj h; subst h
                  exact ⟨⟨rfl, trivial⟩, H.weak (by omega) (Nat.le_refl _)⟩
              · rintro e σ ⟨he, H⟩
                obtain ⟨e, rfl⟩ := he.ex
                refine Ops.assign (v := (.v (.bool y4))) rfl rfl ?_
                apply Ops.nil
                replace H := H.all
                apply Runs.ret
                replace h := Option.some.inj h; subst h
                exact (Ends.H (xs := [(.v (.bool y4))]) (.inr rfl) H (.tmp (v := (.v (.bool y4))) rfl .nil) (.one (.c (.v _))))
          · skip
            replace h := jret h
            replace h := Option.some.inj h; subst h
            exact hE
      · skip
        replace h := jret h
        replace h := Option.some.inj h; subst h
        exact hE

set_option maxRecDepth 100000 in
set_option maxHeartbeats 4000000 in
theorem gran_Right_fn {f : Form} {r : Int} (h : gran_Right f = some r) : Fn CX 32 [(.agg (vs (Form.cs f)))] (.v (.int .i64 r)) := by
  refine Fn.ends Try.func32 rfl rfl rfl rfl rfl rfl ?_
  have H : Hs (⟨0, fun _ => .none⟩ : Heap) [] := Has.nil (Nat.le_refl _)
  generalize (⟨0, fun _ => .none⟩ : Heap) = σ at H ⊢
  unfold gran_Right at h
  apply Runs.then
  refine Runs.regionH 2 rfl H ?_; intro b1 σ H
  refine Ops.boxH (v := (.agg [(.v (.int .i64 f.Period)), (.v (.int .i64 f.Count)), (.v (.sl (f.Core.map (cL Span.cs)))), (.v (.sl (f.Odd.map Granule.cs)))])) (cs := [(.v (.int .i64 f.Period)), (.v (.int .i64 f.Count)), (.v (.sl (f.Core.map (cL Span.cs)))), (.v (.sl (f.Odd.map Granule.cs)))]) H (by omega) (by omega) rfl rfl rfl ?_; intro σ H
  refine Ops.assign (v := (.v (.int .i64 0))) rfl rfl ?_
  apply Ops.nil
  replace H := H.all
  apply Runs.then
  apply Runs.then
  refine Runs.regionH 15 rfl H ?_; intro b2 σ H
  refine Ops.fieldAddrH (off := 0) (fo := 2) H 0 rfl rfl rfl rfl rfl nofun rfl ?_
  refine Ops.loadH (off := 2) (v := (.v (.sl (f.Core.map (cL Span.cs))))) H 0 rfl rfl rfl rfl rfl nofun rfl ?_
  refine Ops.lenPt (c := (cL Span.cs)) (xs := f.Core) rfl rfl rfl ?_
  refine Ops.int (m := (f.Core.length : Int)) (m' := 6000) (r := .bool (decide ((f.Core.length : Int) > 6000))) rfl rfl rfl rfl rfl ?_
  refine Ops.move (v := (.v (.bool (decide ((f.Core.length : Int) > 6000))))) rfl rfl ?_
  refine Ops.mid 5 (K1 := fun e σ => EnvHas e [(14, (.v (.bool ((decide ((f.Core.length : Int) > 6000)) || (decide ((f.Odd.length : Int) > 6000)))))), (1, (.ptr (b1 + 0) 4 0))] ∧ Has σ (b2 + 10) (b2 + 15) [.blk (b1 + 0) 25 [(.v (.int .i64 f.Period)), (.v (.int .i64 f.Count)), (.v (.sl (f.Core.map (cL Span.cs)))), (.v (.sl (f.Odd.map Granule.cs)))]]) rfl ?_ ?_
  · refine Ops.split rfl rfl ?_ ?_ <;> intro hc1
    · skip
      refine Ops.pass rfl rfl rfl ?_
      refine Ops.pass rfl rfl rfl ?_
      refine Ops.pass rfl rfl rfl ?_
      refine Ops.pass rfl rfl rfl ?_
      refine Ops.pickT (v := (.v (.bool true))) rfl rfl rfl ?_
      apply Ops.nil
      exact ⟨⟨or_T hc1, rfl, trivial⟩, H.weak (by omega) (Nat.le_refl _)⟩
    · skip
      refine Ops.wanted rfl rfl ?_
      refine Ops.fieldAddrH (off := 0) (fo := 3) H 0 rfl rfl rfl rfl rfl nofun rfl ?_
      refine Ops.wanted rfl rfl ?_
      refine Ops.loadH (off := 3) (v := (.v (.sl (f.Odd.map Granule.cs)))) H 0 rfl rfl rfl rfl rfl nofun rfl ?_
      refine Ops.wanted rfl rfl ?_
      refine Ops.lenPt (c := Granule.cs) (xs := f.Odd) rfl rfl rfl ?_
      refine Ops.wanted rfl rfl ?_
      refine Ops.int (m := (f.Odd.length : Int)) (m' := 6000) (r := .bool (decide ((f.Odd.length : Int) > 6000))) rfl rfl rfl rfl rfl ?_
      refine Ops.pickF (v := (.v (.bool (decide ((f.Odd.length : Int) > 6000))))) rfl rfl rfl ?_
      apply Ops.nil
      exact ⟨⟨or_F hc1, rfl, trivial⟩, H.weak (by omega) (Nat.le_refl _)⟩
  · rintro e σ ⟨he, H⟩
    obtain ⟨e, rfl⟩ := he.ex
    refine Ops.move (v := (.v (.bool ((decide ((f.Core.length : Int) > 6000)) || (decide ((f.Odd.length : Int) > 6000)))))) rfl rfl ?_
    obtain ⟨y1, hj1, h⟩ := bind_some h
    refine Ops.mid 4 (K1 := fun e σ => EnvHas e [(19, (.v (.bool y1))), (1, (.ptr (b1 + 0) 4 0))] ∧ Has σ (b2 + 15) (b2 + 15) [.blk (b1 + 0) 25 [(.v (.int .i64 f.Period)), (.v (.int .i64 f.Count)), (.v (.sl (f.Core.map (cL Span.cs)))), (.v (.sl (f.Odd.map Granule.cs)))]]) rfl ?_ ?_
    · refine Ops.split rfl rfl ?_ ?_ <;> intro hc2
      · replace h := cond_T hc2 hj1
        refine Ops.pass rfl rfl rfl ?_
        refine Ops.pass rfl rfl rfl ?_
        refine Ops.pass rfl rfl rfl ?_
        refine Ops.pickT (v := (.v (.bool true))) rfl rfl rfl ?_
        apply Ops.nil
        replace h := Option.some.inj h; subst h
        exact ⟨⟨rfl, rfl, trivial⟩, H.weak (by omega) (Nat.le_refl _)⟩
      · replace h := cond_F hc2 hj1
        refine Ops.wanted rfl rfl ?_
        refine Ops.loadHA (off := 0) (cs := [(.v (.int .i64 f.Period)), (.v (.int .i64 f.Count)), (.v (.sl (f.Core.map (cL Span.cs)))), (.v (.sl (f.Odd.map Granule.cs)))]) H 0 rfl rfl rfl rfl rfl rfl rfl nofun rfl ?_
        refine Ops.wanted rfl rfl ?_
        obtain ⟨x1, q1, h⟩ := bind_some h
        refine Ops.call (ys := [(.agg [(.v (.int .i64 f.Period)), (.v (.int .i64 f.Count)), (.v (.sl (f.Core.map (cL Span.cs)))), (.v (.sl (f.Odd.map Granule.cs)))])]) (r := (.v (.int .i64 x1))) rfl (gran_Size_fn q1) rfl ?_
        refine Ops.wanted rfl rfl ?_
        refine Ops.int (m := x1) (m' := 60000) (r := .bool (decide (x1 > 60000))) rfl rfl rfl rfl rfl ?_
        refine Ops.pickF (v := (.v (.bool (decide (x1 > 60000))))) rfl rfl rfl ?_
        apply Ops.nil
        replace h := Option.some.inj h; subst h
        exact ⟨⟨rfl, rfl, trivial⟩, H.weak (by omega) (Nat.le_refl _)⟩
    · rintro e σ ⟨he, H⟩
      obtain ⟨e, rfl⟩ := he.ex
      apply Ops.nil
      replace H := H.all
      refine Runs.whether (v := y1) rfl ?_ ?_ <;> intro hc3
      · replace h := cond_T hc3 h
        apply Runs.then
        refine Runs.regionH 1 rfl H ?_; intro b3 σ H
        refine Ops.assign (v := (.v (.int .i64 3))) rfl rfl ?_
        apply Ops.nil
        replace H := H.all
        apply Runs.ret
        replace h := Option.some.inj h; subst h
        exact (Ends.H (xs := [(.v (.int .i64 3))]) (.inr rfl) H (.tmp (v := (.v (.int .i64 3))) rfl .nil) (.one (.c (.v _))))
      · replace h := cond_F hc3 h
        apply Runs.skip
        apply Runs.then
        apply Runs.then
        refine Runs.regionH 8 rfl H ?_; intro b4 σ H
        refine Ops.loadHA (off := 0) (cs := [(.v (.int .i64 f.Period)), (.v (.int .i64 f.Count)), (.v (.sl (f.Core.map (cL Span.cs)))), (.v (.sl (f.Odd.map Granule.cs)))]) H 0 rfl rfl rfl rfl rfl rfl rfl nofun rfl ?_
        obtain ⟨x2, q2, h⟩ := bind_some h
        refine Ops.call (ys := [(.agg [(.v (.int .i64 f.Period)), (.v (.int .i64 f.Count)), (.v (.sl (f.Core.map (cL Span.cs)))), (.v (.sl (f.Odd.map Granule.cs)))])]) (r := (.v (.bool x2))) rfl (gran_shape_fn q2) rfl ?_
        refine Ops.not (b := x2) rfl rfl ?_
        refine Ops.move (v := (.v (.bool (!x2)))) rfl rfl ?_
        obtain ⟨y2, hj2, h⟩ := bind_some h
        refine Ops.mid 4 (K1 := fun e σ => EnvHas e [(27, (.v (.bool y2))), (1, (.ptr (b1 + 0) 4 0))] ∧ Has σ (b4 + 8) (b4 + 8) [.blk (b1 + 0) 25 [(.v (.int .i64 f.Period)), (.v (.int .i64 f.Count)), (.v (.sl (f.Core.map (cL Span.cs)))), (.v (.sl (f.Odd.map Granule.cs)))]]) rfl ?_ ?_
        · refine Ops.split rfl rfl ?_ ?_ <;> intro hc4
          · replace h := cond_T hc4 hj2
            refine Ops.pass rfl rfl rfl ?_
            refine Ops.pass rfl rfl rfl ?_
            refine Ops.pass rfl rfl rfl ?_
            refine Ops.pickT (v := (.v (.bool true))) rfl rfl rfl ?_
            apply Ops.nil
            replace h := Option.some.inj h; subst h
            exact ⟨⟨rfl, rfl, trivial⟩, H.weak (by omega) (Nat.le_refl _)⟩
          · replace h := cond_F hc4 hj2
            refine Ops.wanted rfl rfl ?_
            refine Ops.loadHA (off := 0) (cs := [(.v (.int .i64 f.Period)), (.v (.int .i64 f.Count)), (.v (.sl (f.Core.map (cL Span.cs)))), (.v (.sl (f.Odd.map Granule.cs)))]) H 0 rfl rfl rfl rfl rfl rfl rfl nofun rfl ?_
            refine Ops.wanted rfl rfl ?_
            obtain ⟨x3, q3, h⟩ := bind_some h
            refine Ops.call (ys := [(.agg [(.v (.int .i64 f.Period)), (.v (.int .i64 f.Count)), (.v (.sl (f.Core.map (cL Span.cs)))), (.v (.sl (f.Odd.map Granule.cs)))])]) (r := (.v (.bool x3))) rfl (gran_turns_fn q3) rfl ?_
            refine Ops.wanted rfl rfl ?_
            refine Ops.not (b := x3) rfl rfl ?_
            refine Ops.pickF (v := (.v (.bool (!x3)))) rfl rfl rfl ?_
            apply Ops.nil
            replace h := Option.some.inj h; subst h
            exact ⟨⟨rfl, rfl, trivial⟩, H.weak (by omega) (Nat.le_refl _)⟩
        · rintro e σ ⟨he, H⟩
          obtain ⟨e, rfl⟩ := he.ex
          apply Ops.nil
          replace H := H.all
          refine Runs.whether (v := y2) rfl ?_ ?_ <;> intro hc5
          · replace h := cond_T hc5 h
            apply Runs.then
            refine Runs.regionH 1 rfl H ?_; intro b5 σ H
            refine Ops.assign (v := (.v (.int .i64 50))) rfl rfl ?_
            apply Ops.nil
            replace H := H.all
            apply Runs.ret
            replace h := Option.some.inj h; subst h
            exact (Ends.H (xs := [(.v (.int .i64 50))]) (.inr rfl) H (.tmp (v := (.v (.int .i64 50))) rfl .nil) (.one (.c (.v _))))
          · replace h := cond_F hc5 h
            apply Runs.skip
            apply Runs.then
            apply Runs.then
            refine Runs.regionH 4 rfl H ?_; intro b6 σ H
            refine Ops.fieldAddrH (off := 0) (fo := 3) H 0 rfl rfl rfl rfl rfl nofun rfl ?_
            refine Ops.loadH (off := 3) (v := (.v (.sl (f.Odd.map Granule.cs)))) H 0 rfl rfl rfl rfl rfl nofun rfl ?_
            refine Ops.lenPt (c := Granule.cs) (xs := f.Odd) rfl rfl rfl ?_
            refine Ops.move (v := (.v (.int .i64 0))) rfl rfl ?_
            apply Ops.nil
            replace H := H.all
            apply Runs.inBlock
            obtain ⟨y3, hj3, h⟩ := bind_some h
            obtain ⟨n1, hj3⟩ := loopO_iff.1 hj3
            refine Runs.mono (Runs.loopO hj3 (fun s1 e σ => EnvHas e [(1, (.ptr (b1 + 0) 4 0)), (29, (.v (.sl (f.Odd.map Granule.cs)))), (30, (.v (.int .i64 (f.Odd.length : Int)))), (31, (.v (.int .i64 s1)))] ∧ Hs σ [.blk (b1 + 0) 25 [(.v (.int .i64 f.Period)), (.v (.int .i64 f.Count)), (.v (.sl (f.Core.map (cL Span.cs)))), (.v (.sl (f.Odd.map Granule.cs)))]]) (fun y3 x e σ => (∃ a1, y3 = (.go a1) ∧ x = .exit 0 ∧ EnvHas e [] ∧ Hs σ []) ∨ (∃ r', y3 = (.ret r') ∧ x = .ret ∧ Ends CX Try.f32.results.toList (.v (.int .i64 r')) x e σ)) ⟨⟨rfl, rfl, rfl, rfl, trivial⟩, H⟩ ?_) ?_
            · intro s1 e σ hI z h
              obtain ⟨he, H⟩ := hI
              obtain ⟨e, rfl⟩ := he.ex
              unfold gran_Right.s0 at h
              apply Runs.then
              refine Runs.regionH 1 rfl H ?_; intro b7 σ H
              refine Ops.int (m := s1) (m' := (f.Odd.length : Int)) (r := .bool (decide (s1 < (f.Odd.length : Int)))) rfl rfl rfl rfl rfl ?_
              apply Ops.nil
              replace H := H.all
              apply Runs.then
              refine Runs.whether (v := (decide (s1 < (f.Odd.length : Int)))) rfl ?_ ?_ <;> intro hc6
              · replace h := cond_T hc6 h
                apply Runs.skip
                apply Runs.then
                apply Runs.inBlock
                apply Runs.then
                refine Runs.regionH 4 rfl H ?_; intro b8 σ H
                obtain ⟨x4, q4, h⟩ := bind_some h
                refine Ops.indexP (c := Granule.cs) (u := x4) rfl rfl q4 rfl rfl rfl rfl ?_
                refine Ops.loadPA (cs := [(.int .i64 x4.Index), (.sl (x4.Ticks.map Span.cs))]) rfl rfl rfl rfl rfl rfl ?_
                refine Ops.allocH (cs := [(.v (.int .i64 0)), .nils]) H (by omega) (by omega) rfl rfl ?_; intro σ H
                refine Ops.storeH (off := 0) (v := (.agg [(.v (.int .i64 x4.Index)), (.v (.sl (x4.Ticks.map Span.cs)))])) (ys := [(.v (.int .i64 x4.Index)), (.v (.sl (x4.Ticks.map Span.cs)))]) (cells' := [(.v (.int .i64 x4.Index)), (.v (.sl (x4.Ticks.map Span.cs)))]) H 0 rfl rfl rfl rfl rfl rfl rfl rfl rfl nofun ?_; intro σ H
                apply Ops.nil
                replace H := H.all
                apply Runs.then
                refine Runs.regionH 5 rfl H ?_; intro b9 σ H
                refine Ops.loadHA (off := 0) (cs := [(.v (.int .i64 f.Period)), (.v (.int .i64 f.Count)), (.v (.sl (f.Core.map (cL Span.cs)))), (.v (.sl (f.Odd.map Granule.cs)))]) H 1 rfl rfl rfl rfl rfl rfl rfl nofun rfl ?_
                refine Ops.fieldAddrH (off := 0) (fo := 0) H 0 rfl rfl rfl rfl rfl nofun rfl ?_
                refine Ops.loadH (off := 0) (v := (.v (.int .i64 x4.Index))) H 0 rfl rfl rfl rfl rfl nofun rfl ?_
                obtain ⟨x5, q5, h⟩ := bind_some h
                refine Ops.call (ys := [(.agg [(.v (.int .i64 f.Period)), (.v (.int .i64 f.Count)), (.v (.sl (f.Core.map (cL Span.cs)))), (.v (.sl (f.Odd.map Granule.cs)))]), (.v (.int .i64 x4.Index))]) (r := (.v (.bool x5))) rfl (gran_beside_fn q5) rfl ?_
                refine Ops.not (b := x5) rfl rfl ?_
                apply Ops.nil
                replace H := H.all
                refine Runs.whether (v := (!x5)) rfl ?_ ?_ <;> intro hc7
                · replace h := cond_T hc7 h
                  apply Runs.then
                  refine Runs.regionH 1 rfl H ?_; intro b10 σ H
                  refine Ops.assign (v := (.v (.int .i64 50))) rfl rfl ?_
                  apply Ops.nil
                  replace H := H.all
                  apply Runs.ret
                  replace h := Option.some.inj h; subst h
                  exact ⟨nofun, (.inr ⟨_, rfl, rfl, (Ends.H (xs := [(.v (.int .i64 50))]) (.inr rfl) H (.tmp (v := (.v (.int .i64 50))) rfl .nil) (.one (.c (.v _))))⟩)⟩
                · replace h := cond_F hc7 h
                  apply Runs.skip
                  refine Runs.regionH 2 rfl H ?_; intro b11 σ H
                  refine Ops.int (m := s1) (m' := 1) (r := .int .i64 (w64 (s1 + 1))) rfl rfl rfl rfl rfl ?_
                  refine Ops.move (v := (.v (.int .i64 (w64 (s1 + 1))))) rfl rfl ?_
                  apply Ops.nil
                  replace H := H.all
                  replace h := Option.some.inj h; subst h
                  exact ⟨rfl, ⟨rfl, rfl, rfl, rfl, trivial⟩, (H.erase 0)⟩
              · replace h := cond_F hc6 h
                apply Runs.exit
                replace h := Option.some.inj h; subst h
                exact ⟨nofun, (.inl ⟨_, rfl, rfl, trivial, (H.erase 0)⟩)⟩
            · rintro x e σ (⟨a2, rfl, rfl, he, H⟩ | ⟨r', rfl, rfl, hE⟩)
              · skip
                replace h := jgo h
                obtain ⟨e, rfl⟩ := he.ex
                apply Runs.then
                refine Runs.regionH 1 rfl H ?_; intro b12 σ H
                refine Ops.assign (v := (.v (.int .i64 0))) rfl rfl ?_
                apply Ops.nil
                replace H := H.all
                apply Runs.ret
                replace h := Option.some.inj h; subst h
                exact (Ends.H (xs := [(.v (.int .i64 0))]) (.inr rfl) H (.tmp (v := (.v (.int .i64 0))) rfl .nil) (.one (.c (.v _))))
              · skip
                replace h := jret h
                replace h := Option.some.inj h; subst h
                exact hE

set_option maxRecDepth 100000 in
set_option maxHeartbeats 4000000 in
theorem epactlaw06_right_fn {f : Form} {r : Bool} (h : epactlaw06_right f = some r) : Fn CX 25 [(.agg (vs (Form.cs f)))] (.v (.bool r)) := by
  refine Fn.ends Try.func25 rfl rfl rfl rfl rfl rfl ?_
  have H : Hs (⟨0, fun _ => .none⟩ : Heap) [] := Has.nil (Nat.le_refl _)
  generalize (⟨0, fun _ => .none⟩ : Heap) = σ at H ⊢
  unfold epactlaw06_right at h
  apply Runs.then
  refine Runs.regionH 2 rfl H ?_; intro b1 σ H
  refine Ops.boxH (v := (.agg [(.v (.int .i64 f.Period)), (.v (.int .i64 f.Count)), (.v (.sl (f.Core.map (cL Span.cs)))), (.v (.sl (f.Odd.map Granule.cs)))])) (cs := [(.v (.int .i64 f.Period)), (.v (.int .i64 f.Count)), (.v (.sl (f.Core.map (cL Span.cs)))), (.v (.sl (f.Odd.map Granule.cs)))]) H (by omega) (by omega) rfl rfl rfl ?_; intro σ H
  refine Ops.assign (v := (.v (.bool false))) rfl rfl ?_
  apply Ops.nil
  replace H := H.all
  apply Runs.then
  refine Runs.regionH 8 rfl H ?_; intro b2 σ H
  refine Ops.loadHA (off := 0) (cs := [(.v (.int .i64 f.Period)), (.v (.int .i64 f.Count)), (.v (.sl (f.Core.map (cL Span.cs)))), (.v (.sl (f.Odd.map Granule.cs)))]) H 0 rfl rfl rfl rfl rfl rfl rfl nofun rfl ?_
  obtain ⟨x1, q1, h⟩ := bind_some h
  refine Ops.call (ys := [(.agg [(.v (.int .i64 f.Period)), (.v (.int .i64 f.Count)), (.v (.sl (f.Core.map (cL Span.cs)))), (.v (.sl (f.Odd.map Granule.cs)))])]) (r := (.v (.bool x1))) rfl (epactlaw05_Small_fn q1) rfl ?_
  refine Ops.move (v := (.v (.bool x1))) rfl rfl ?_
  obtain ⟨y1, hj1, h⟩ := bind_some h
  refine Ops.mid 4 (K1 := fun e σ => EnvHas e [(9, (.v (.bool y1)))] ∧ Has σ (b2 + 7) (b2 + 8) []) rfl ?_ ?_
  · refine Ops.split rfl rfl ?_ ?_ <;> intro hc1
    · replace h := cond_T hc1 hj1
      refine Ops.wanted rfl rfl ?_
      refine Ops.loadHA (off := 0) (cs := [(.v (.int .i64 f.Period)), (.v (.int .i64 f.Count)), (.v (.sl (f.Core.map (cL Span.cs)))), (.v (.sl (f.Odd.map Granule.cs)))]) H 0 rfl rfl rfl rfl rfl rfl rfl nofun rfl ?_
      refine Ops.wanted rfl rfl ?_
      obtain ⟨x2, q2, h⟩ := bind_some h
      refine Ops.call (ys := [(.agg [(.v (.int .i64 f.Period)), (.v (.int .i64 f.Count)), (.v (.sl (f.Core.map (cL Span.cs)))), (.v (.sl (f.Odd.map Granule.cs)))])]) (r := (.v (.int .i64 x2))) rfl (gran_Right_fn q2) rfl ?_
      refine Ops.wanted rfl rfl ?_
      refine Ops.int (m := x2) (m' := 0) (r := .bool (x2 == 0)) rfl rfl rfl rfl rfl ?_
      refine Ops.pickT (v := (.v (.bool (x2 == 0)))) rfl rfl rfl ?_
      apply Ops.nil
      replace h := Option.some.inj h; subst h
      exact ⟨⟨rfl, trivial⟩, (H.erase 0).weak (by omega) (Nat.le_refl _)⟩
    · replace h := cond_F hc1 hj1
      refine Ops.pass rfl rfl rfl ?_
      refine Ops.pass rfl rfl rfl ?_
      refine Ops.pass rfl rfl rfl ?_
      refine Ops.pickF (v := (.v (.bool false))) rfl rfl rfl ?_
      apply Ops.nil
      replace h := Option.some.inj h; subst h
      exact ⟨⟨rfl, trivial⟩, (H.erase 0).weak (by omega) (Nat.le_refl _)⟩
  · rintro e σ ⟨he, H⟩
    obtain ⟨e, rfl⟩ := he.ex
    refine Ops.assign (v := (.v (.bool y1))) rfl rfl ?_
    apply Ops.nil
    replace H := H.all
    apply Runs.ret
    replace h := Option.some.inj h; subst h
    exact (Ends.H (xs := [(.v (.bool y1))]) (.inr rfl) H (.tmp (v := (.v (.bool y1))) rfl .nil) (.one (.c (.v _))))

set_option maxRecDepth 100000 in
set_option maxHeartbeats 4000000 in
theorem epactlaw06_near_fn {f : Form} {most : Int} {r : Bool} (h : epactlaw06_near f most = some r) : Fn CX 30 [(.agg (vs (Form.cs f))), (.v (.int .i64 most))] (.v (.bool r)) := by
  refine Fn.ends Try.func30 rfl rfl rfl rfl rfl rfl ?_
  have H : Hs (⟨0, fun _ => .none⟩ : Heap) [] := Has.nil (Nat.le_refl _)
  generalize (⟨0, fun _ => .none⟩ : Heap) = σ at H ⊢
  unfold epactlaw06_near at h
  apply Runs.then
  refine Runs.regionH 2 rfl H ?_; intro b1 σ H
  refine Ops.boxH (v := (.agg [(.v (.int .i64 f.Period)), (.v (.int .i64 f.Count)), (.v (.sl (f.Core.map (cL Span.cs)))), (.v (.sl (f.Odd.map Granule.cs)))])) (cs := [(.v (.int .i64 f.Period)), (.v (.int .i64 f.Count)), (.v (.sl (f.Core.map (cL Span.cs)))), (.v (.sl (f.Odd.map Granule.cs)))]) H (by omega) (by omega) rfl rfl rfl ?_; intro σ H
  refine Ops.assign (v := (.v (.bool false))) rfl rfl ?_
  apply Ops.nil
  replace H := H.all
  apply Runs.then
  apply Runs.then
  refine Runs.regionH 4 rfl H ?_; intro b2 σ H
  refine Ops.fieldAddrH (off := 0) (fo := 3) H 0 rfl rfl rfl rfl rfl nofun rfl ?_
  refine Ops.loadH (off := 3) (v := (.v (.sl (f.Odd.map Granule.cs)))) H 0 rfl rfl rfl rfl rfl nofun rfl ?_
  refine Ops.lenPt (c := Granule.cs) (xs := f.Odd) rfl rfl rfl ?_
  refine Ops.move (v := (.v (.int .i64 0))) rfl rfl ?_
  apply Ops.nil
  replace H := H.all
  apply Runs.inBlock
  obtain ⟨y1, hj1, h⟩ := bind_some h
  obtain ⟨n1, hj1⟩ := loopO_iff.1 hj1
  refine Runs.mono (Runs.loopO hj1 (fun s1 e σ => EnvHas e [(1, (.v (.int .i64 most))), (8, (.v (.sl (f.Odd.map Granule.cs)))), (9, (.v (.int .i64 (f.Odd.length : Int)))), (10, (.v (.int .i64 s1)))] ∧ Hs σ []) (fun y1 x e σ => (∃ a1, y1 = (.go a1) ∧ x = .exit 0 ∧ EnvHas e [] ∧ Hs σ []) ∨ (∃ r', y1 = (.ret r') ∧ x = .ret ∧ Ends CX Try.f30.results.toList (.v (.bool r')) x e σ)) ⟨⟨rfl, rfl, rfl, rfl, trivial⟩, (H.erase 0)⟩ ?_) ?_
  · intro s1 e σ hI z h
    obtain ⟨he, H⟩ := hI
    obtain ⟨e, rfl⟩ := he.ex
    unfold epactlaw06_near.s0 at h
    apply Runs.then
    refine Runs.regionH 1 rfl H ?_; intro b3 σ H
    refine Ops.int (m := s1) (m' := (f.Odd.length : Int)) (r := .bool (decide (s1 < (f.Odd.length : Int)))) rfl rfl rfl rfl rfl ?_
    apply Ops.nil
    replace H := H.all
    apply Runs.then
    refine Runs.whether (v := (decide (s1 < (f.Odd.length : Int)))) rfl ?_ ?_ <;> intro hc1
    · replace h := cond_T hc1 h
      apply Runs.skip
      apply Runs.then
      apply Runs.inBlock
      apply Runs.then
      refine Runs.regionH 4 rfl H ?_; intro b4 σ H
      obtain ⟨x1, q1, h⟩ := bind_some h
      refine Ops.indexP (c := Granule.cs) (u := x1) rfl rfl q1 rfl rfl rfl rfl ?_
      refine Ops.loadPA (cs := [(.int .i64 x1.Index), (.sl (x1.Ticks.map Span.cs))]) rfl rfl rfl rfl rfl rfl ?_
      refine Ops.allocH (cs := [(.v (.int .i64 0)), .nils]) H (by omega) (by omega) rfl rfl ?_; intro σ H
      refine Ops.storeH (off := 0) (v := (.agg [(.v (.int .i64 x1.Index)), (.v (.sl (x1.Ticks.map Span.cs)))])) (ys := [(.v (.int .i64 x1.Index)), (.v (.sl (x1.Ticks.map Span.cs)))]) (cells' := [(.v (.int .i64 x1.Index)), (.v (.sl (x1.Ticks.map Span.cs)))]) H 0 rfl rfl rfl rfl rfl rfl rfl rfl rfl nofun ?_; intro σ H
      apply Ops.nil
      replace H := H.all
      apply Runs.then
      refine Runs.regionH 11 rfl H ?_; intro b5 σ H
      refine Ops.fieldAddrH (off := 0) (fo := 0) H 0 rfl rfl rfl rfl rfl nofun rfl ?_
      refine Ops.loadH (off := 0) (v := (.v (.int .i64 x1.Index))) H 0 rfl rfl rfl rfl rfl nofun rfl ?_
      refine Ops.move (v := (.v (.int .i64 most))) rfl rfl ?_
      refine Ops.neg (m := most) rfl rfl ?_
      refine Ops.int (m := x1.Index) (m' := (w64 (0 - most))) (r := .bool (decide (x1.Index < (w64 (0 - most))))) rfl rfl rfl rfl rfl ?_
      refine Ops.move (v := (.v (.bool (decide (x1.Index < (w64 (0 - most))))))) rfl rfl ?_
      refine Ops.mid 5 (K1 := fun e σ => EnvHas e [(24, (.v (.bool ((decide (x1.Index < (w64 (0 - most)))) || (decide (x1.Index > most)))))), (1, (.v (.int .i64 most))), (8, (.v (.sl (f.Odd.map Granule.cs)))), (9, (.v (.int .i64 (f.Odd.length : Int)))), (10, (.v (.int .i64 s1)))] ∧ Has σ (b5 + 11) (b5 + 11) []) rfl ?_ ?_
      · refine Ops.split rfl rfl ?_ ?_ <;> intro hc2
        · skip
          refine Ops.pass rfl rfl rfl ?_
          refine Ops.pass rfl rfl rfl ?_
          refine Ops.pass rfl rfl rfl ?_
          refine Ops.pass rfl rfl rfl ?_
          refine Ops.pickT (v := (.v (.bool true))) rfl rfl rfl ?_
          apply Ops.nil
          exact ⟨⟨or_T hc2, rfl, rfl, rfl, rfl, trivial⟩, (H.erase 0).weak (by omega) (Nat.le_refl _)⟩
        · skip
          refine Ops.wanted rfl rfl ?_
          refine Ops.fieldAddrH (off := 0) (fo := 0) H 0 rfl rfl rfl rfl rfl nofun rfl ?_
          refine Ops.wanted rfl rfl ?_
          refine Ops.loadH (off := 0) (v := (.v (.int .i64 x1.Index))) H 0 rfl rfl rfl rfl rfl nofun rfl ?_
          refine Ops.wanted rfl rfl ?_
          refine Ops.move (v := (.v (.int .i64 most))) rfl rfl ?_
          refine Ops.wanted rfl rfl ?_
          refine Ops.int (m := x1.Index) (m' := most) (r := .bool (decide (x1.Index > most))) rfl rfl rfl rfl rfl ?_
          refine Ops.pickF (v := (.v (.bool (decide (x1.Index > most))))) rfl rfl rfl ?_
          apply Ops.nil
          exact ⟨⟨or_F hc2, rfl, rfl, rfl, rfl, trivial⟩, (H.erase 0).weak (by omega) (Nat.le_refl _)⟩
      · rintro e σ ⟨he, H⟩
        obtain ⟨e, rfl⟩ := he.ex
        apply Ops.nil
        replace H := H.all
        refine Runs.whether (v := ((decide (x1.Index < (w64 (0 - most)))) || (decide (x1.Index > most)))) rfl ?_ ?_ <;> intro hc3
        · replace h := cond_T hc3 h
          apply Runs.then
          refine Runs.regionH 1 rfl H ?_; intro b6 σ H
          refine Ops.assign (v := (.v (.bool false))) rfl rfl ?_
          apply Ops.nil
          replace H := H.all
          apply Runs.ret
          replace h := Option.some.inj h; subst h
          exact ⟨nofun, (.inr ⟨_, rfl, rfl, (Ends.H (xs := [(.v (.bool false))]) (.inr rfl) H (.tmp (v := (.v (.bool false))) rfl .nil) (.one (.c (.v _))))⟩)⟩
        · replace h := cond_F hc3 h
          apply Runs.skip
          refine Runs.regionH 2 rfl H ?_; intro b7 σ H
          refine Ops.int (m := s1) (m' := 1) (r := .int .i64 (w64 (s1 + 1))) rfl rfl rfl rfl rfl ?_
          refine Ops.move (v := (.v (.int .i64 (w64 (s1 + 1))))) rfl rfl ?_
          apply Ops.nil
          replace H := H.all
          replace h := Option.some.inj h; subst h
          exact ⟨rfl, ⟨rfl, rfl, rfl, rfl, trivial⟩, H⟩
    · replace h := cond_F hc1 h
      apply Runs.exit
      replace h := Option.some.inj h; subst h
      exact ⟨nofun, (.inl ⟨_, rfl, rfl, trivial, H⟩)⟩
  · rintro x e σ (⟨a2, rfl, rfl, he, H⟩ | ⟨r', rfl, rfl, hE⟩)
    · skip
      replace h := jgo h
      obtain ⟨e, rfl⟩ := he.ex
      apply Runs.then
      refine Runs.regionH 1 rfl H ?_; intro b8 σ H
      refine Ops.assign (v := (.v (.bool true))) rfl rfl ?_
      apply Ops.nil
      replace H := H.all
      apply Runs.ret
      replace h := Option.some.inj h; subst h
      exact (Ends.H (xs := [(.v (.bool true))]) (.inr rfl) H (.tmp (v := (.v (.bool true))) rfl .nil) (.one (.c (.v _))))
    · skip
      replace h := jret h
      replace h := Option.some.inj h; subst h
      exact hE

set_option maxRecDepth 100000 in
theorem epactlaw06_awake_fn {r : Bool} (h : epactlaw06_awake = r) : Fn CX 26 [] (.v (.bool r)) := by
  subst h
  exact Fn.intr (by rfl) rfl rfl rfl

set_option maxRecDepth 100000 in
set_option maxHeartbeats 4000000 in
theorem slices_Equal_SSpan_Span_fn {s1' : (List Span)} {s2' : (List Span)} {r : Bool} (h : slices_Equal_SSpan_Span s1' s2' = some r) : Fn CX 42 [(.v (.sl (s1'.map Span.cs))), (.v (.sl (s2'.map Span.cs)))] (.v (.bool r)) := by
  refine Fn.ends Try.func42 rfl rfl rfl rfl rfl rfl ?_
  have H : Hs (⟨0, fun _ => .none⟩ : Heap) [] := Has.nil (Nat.le_refl _)
  generalize (⟨0, fun _ => .none⟩ : Heap) = σ at H ⊢
  unfold slices_Equal_SSpan_Span at h
  apply Runs.then
  refine Runs.regionH 1 rfl H ?_; intro b1 σ H
  refine Ops.assign (v := (.v (.bool false))) rfl rfl ?_
  apply Ops.nil
  replace H := H.all
  apply Runs.then
  apply Runs.then
  refine Runs.regionH 5 rfl H ?_; intro b2 σ H
  refine Ops.move (v := (.v (.sl (s1'.map Span.cs)))) rfl rfl ?_
  refine Ops.lenPt (c := Span.cs) (xs := s1') rfl rfl rfl ?_
  refine Ops.move (v := (.v (.sl (s2'.map Span.cs)))) rfl rfl ?_
  refine Ops.lenPt (c := Span.cs) (xs := s2') rfl rfl rfl ?_
  refine Ops.int (m := (s1'.length : Int)) (m' := (s2'.length : Int)) (r := .bool ((s1'.length : Int) != (s2'.length : Int))) rfl rfl rfl rfl rfl ?_
  apply Ops.nil
  replace H := H.all
  refine Runs.whether (v := ((s1'.length : Int) != (s2'.length : Int))) rfl ?_ ?_ <;> intro hc1
  · replace h := cond_T hc1 h
    apply Runs.then
    refine Runs.regionH 1 rfl H ?_; intro b3 σ H
    refine Ops.assign (v := (.v (.bool false))) rfl rfl ?_
    apply Ops.nil
    replace H := H.all
    apply Runs.ret
    replace h := Option.some.inj h; subst h
    exact (Ends.H (xs := [(.v (.bool false))]) (.inr rfl) H (.tmp (v := (.v (.bool false))) rfl .nil) (.one (.c (.v _))))
  · replace h := cond_F hc1 h
    apply Runs.skip
    apply Runs.then
    apply Runs.then
    refine Runs.regionH 3 rfl H ?_; intro b4 σ H
    refine Ops.move (v := (.v (.sl (s1'.map Span.cs)))) rfl rfl ?_
    refine Ops.lenPt (c := Span.cs) (xs := s1') rfl rfl rfl ?_
    refine Ops.move (v := (.v (.int .i64 0))) rfl rfl ?_
    apply Ops.nil
    replace H := H.all
    apply Runs.inBlock
    obtain ⟨y1, hj1, h⟩ := bind_some h
    obtain ⟨n1, hj1⟩ := loopO_iff.1 hj1
    refine Runs.mono (Runs.loopO hj1 (fun s1 e σ => EnvHas e [(0, (.v (.sl (s1'.map Span.cs)))), (1, (.v (.sl (s2'.map Span.cs)))), (12, (.v (.int .i64 (s1'.length : Int)))), (13, (.v (.int .i64 s1)))] ∧ Hs σ []) (fun y1 x e σ => (∃ a1, y1 = (.go a1) ∧ x = .exit 0 ∧ EnvHas e [] ∧ Hs σ []) ∨ (∃ r', y1 = (.ret r') ∧ x = .ret ∧ Ends CX Try.f42.results.toList (.v (.bool r')) x e σ)) ⟨⟨rfl, rfl, rfl, rfl, trivial⟩, H⟩ ?_) ?_
    · intro s1 e σ hI z h
      obtain ⟨he, H⟩ := hI
      obtain ⟨e, rfl⟩ := he.ex
      unfold slices_Equal_SSpan_Span.s0 at h
      apply Runs.then
      refine Runs.regionH 1 rfl H ?_; intro b5 σ H
      refine Ops.int (m := s1) (m' := (s1'.length : Int)) (r := .bool (decide (s1 < (s1'.length : Int)))) rfl rfl rfl rfl rfl ?_
      apply Ops.nil
      replace H := H.all
      apply Runs.then
      refine Runs.whether (v := (decide (s1 < (s1'.length : Int)))) rfl ?_ ?_ <;> intro hc2
      · replace h := cond_T hc2 h
        apply Runs.skip
        apply Runs.then
        apply Runs.inBlock
        apply Runs.then
        refine Runs.regionH 2 rfl H ?_; intro b6 σ H
        refine Ops.move (v := (.v (.int .i64 s1))) rfl rfl ?_
        refine Ops.assign (v := (.v (.int .i64 s1))) rfl rfl ?_
        apply Ops.nil
        replace H := H.all
        apply Runs.then
        refine Runs.drawnH 9 rfl (by kernel_rfl) H ?_; intro b7 σ H B7
        refine Ops.move (v := (.v (.sl (s1'.map Span.cs)))) rfl rfl ?_
        refine Ops.move (v := (.v (.int .i64 s1))) rfl rfl ?_
        obtain ⟨x1, q1, h⟩ := bind_some h
        refine Ops.indexP (c := Span.cs) (u := x1) rfl rfl q1 rfl rfl rfl rfl ?_
        refine Ops.loadPA (cs := [(.int .i64 x1.From), (.int .i64 x1.To)]) rfl rfl rfl rfl rfl rfl ?_
        refine Ops.move (v := (.v (.sl (s2'.map Span.cs)))) rfl rfl ?_
        refine Ops.move (v := (.v (.int .i64 s1))) rfl rfl ?_
        obtain ⟨x2, q2, h⟩ := bind_some h
        refine Ops.indexP (c := Span.cs) (u := x2) rfl rfl q2 rfl rfl rfl rfl ?_
        refine Ops.loadPA (cs := [(.int .i64 x2.From), (.int .i64 x2.To)]) rfl rfl rfl rfl rfl rfl ?_
        refine Ops.binA (u := (.agg [(.v (.int .i64 x1.From)), (.v (.int .i64 x1.To))])) (w := (.agg [(.v (.int .i64 x2.From)), (.v (.int .i64 x2.To))])) (r := .bool (!((x1.From == x2.From) && ((x1.To == x2.To) && true)))) rfl rfl (by kernel_rfl) (fun _ => ask_eqA rfl rfl rfl rfl) rfl ?_
        apply Ops.nil
        replace H := H.all
        refine Runs.whether (v := (!((x1.From == x2.From) && ((x1.To == x2.To) && true)))) rfl ?_ ?_ <;> intro hc3
        · replace h := cond_T hc3 h
          apply Runs.then
          refine Runs.regionH 1 rfl H ?_; intro b8 σ H
          refine Ops.assign (v := (.v (.bool false))) rfl rfl ?_
          apply Ops.nil
          replace H := H.all
          apply Runs.ret
          replace h := Option.some.inj h; subst h
          exact ⟨nofun, (.inr ⟨_, rfl, rfl, (Ends.H (xs := [(.v (.bool false))]) (.inr rfl) H (.tmp (v := (.v (.bool false))) rfl .nil) (.one (.c (.v _))))⟩)⟩
        · replace h := cond_F hc3 h
          apply Runs.skip
          refine Runs.regionH 2 rfl H ?_; intro b9 σ H
          refine Ops.int (m := s1) (m' := 1) (r := .int .i64 (w64 (s1 + 1))) rfl rfl rfl rfl rfl ?_
          refine Ops.move (v := (.v (.int .i64 (w64 (s1 + 1))))) rfl rfl ?_
          apply Ops.nil
          replace H := H.all
          replace h := Option.some.inj h; subst h
          exact ⟨rfl, ⟨rfl, rfl, rfl, rfl, trivial⟩, H⟩
      · replace h := cond_F hc2 h
        apply Runs.exit
        replace h := Option.some.inj h; subst h
        exact ⟨nofun, (.inl ⟨_, rfl, rfl, trivial, H⟩)⟩
    · rintro x e σ (⟨a2, rfl, rfl, he, H⟩ | ⟨r', rfl, rfl, hE⟩)
      · skip
        replace h := jgo h
        obtain ⟨e, rfl⟩ := he.ex
        apply Runs.then
        refine Runs.regionH 1 rfl H ?_; intro b10 σ H
        refine Ops.assign (v := (.v (.bool true))) rfl rfl ?_
        apply Ops.nil
        replace H := H.all
        apply Runs.ret
        replace h := Option.some.inj h; subst h
        exact (Ends.H (xs := [(.v (.bool true))]) (.inr rfl) H (.tmp (v := (.v (.bool true))) rfl .nil) (.one (.c (.v _))))
      · skip
        replace h := jret h
        replace h := Option.some.inj h; subst h
        exact hE

set_option maxRecDepth 100000 in
set_option maxHeartbeats 4000000 in
theorem spans_Same_fn {a : (List Span)} {b : (List Span)} {r : Bool} (h : spans_Same a b = some r) : Fn CX 18 [(.v (.sl (a.map Span.cs))), (.v (.sl (b.map Span.cs)))] (.v (.bool r)) := by
  refine Fn.ends Try.func18 rfl rfl rfl rfl rfl rfl ?_
  have H : Hs (⟨0, fun _ => .none⟩ : Heap) [] := Has.nil (Nat.le_refl _)
  generalize (⟨0, fun _ => .none⟩ : Heap) = σ at H ⊢
  unfold spans_Same at h
  apply Runs.then
  refine Runs.regionH 1 rfl H ?_; intro b1 σ H
  refine Ops.assign (v := (.v (.bool false))) rfl rfl ?_
  apply Ops.nil
  replace H := H.all
  apply Runs.then
  refine Runs.regionH 4 rfl H ?_; intro b2 σ H
  refine Ops.move (v := (.v (.sl (a.map Span.cs)))) rfl rfl ?_
  refine Ops.move (v := (.v (.sl (b.map Span.cs)))) rfl rfl ?_
  obtain ⟨x1, q1, h⟩ := bind_some h
  refine Ops.call (ys := [(.v (.sl (a.map Span.cs))), (.v (.sl (b.map Span.cs)))]) (r := (.v (.bool x1))) rfl (slices_Equal_SSpan_Span_fn q1) rfl ?_
  refine Ops.assign (v := (.v (.bool x1))) rfl rfl ?_
  apply Ops.nil
  replace H := H.all
  apply Runs.ret
  replace h := Option.some.inj h; subst h
  exact (Ends.H (xs := [(.v (.bool x1))]) (.inr rfl) H (.tmp (v := (.v (.bool x1))) rfl .nil) (.one (.c (.v _))))

set_option maxRecDepth 100000 in
set_option maxHeartbeats 4000000 in
theorem canon_bare_1_fn {l : (List Span)} {r : Bool} (h : canon_bare_1 l = r) : Fn CX 79 [(.v (.sl (l.map Span.cs)))] (.v (.bool r)) := by
  refine Fn.ends Try.func79 rfl rfl rfl rfl rfl rfl ?_
  have H : Hs (⟨0, fun _ => .none⟩ : Heap) [] := Has.nil (Nat.le_refl _)
  generalize (⟨0, fun _ => .none⟩ : Heap) = σ at H ⊢
  unfold canon_bare_1 at h
  apply Runs.then
  refine Runs.regionH 1 rfl H ?_; intro b1 σ H
  refine Ops.assign (v := (.v (.bool false))) rfl rfl ?_
  apply Ops.nil
  replace H := H.all
  apply Runs.then
  refine Runs.regionH 4 rfl H ?_; intro b2 σ H
  refine Ops.move (v := (.v (.sl (l.map Span.cs)))) rfl rfl ?_
  refine Ops.lenPt (c := Span.cs) (xs := l) rfl rfl rfl ?_
  refine Ops.int (m := (l.length : Int)) (m' := 0) (r := .bool (decide ((l.length : Int) > 0))) rfl rfl rfl rfl rfl ?_
  refine Ops.assign (v := (.v (.bool (decide ((l.length : Int) > 0))))) rfl rfl ?_
  apply Ops.nil
  replace H := H.all
  apply Runs.ret
  subst h
  exact (Ends.H (xs := [(.v (.bool (decide ((l.length : Int) > 0))))]) (.inr rfl) H (.tmp (v := (.v (.bool (decide ((l.length : Int) > 0))))) rfl .nil) (.one (.c (.v _))))

set_option maxRecDepth 100000 in
set_option maxHeartbeats 4000000 in
theorem canon_bare_fn {f : Form} {r : Bool} (h : canon_bare f = some r) : Fn CX 64 [(.agg (vs (Form.cs f)))] (.v (.bool r)) := by
  refine Fn.ends Try.func64 rfl rfl rfl rfl rfl rfl ?_
  have H : Hs (⟨0, fun _ => .none⟩ : Heap) [] := Has.nil (Nat.le_refl _)
  generalize (⟨0, fun _ => .none⟩ : Heap) = σ at H ⊢
  unfold canon_bare at h
  apply Runs.then
  refine Runs.regionH 2 rfl H ?_; intro b1 σ H
  refine Ops.boxH (v := (.agg [(.v (.int .i64 f.Period)), (.v (.int .i64 f.Count)), (.v (.sl (f.Core.map (cL Span.cs)))), (.v (.sl (f.Odd.map Granule.cs)))])) (cs := [(.v (.int .i64 f.Period)), (.v (.int .i64 f.Count)), (.v (.sl (f.Core.map (cL Span.cs)))), (.v (.sl (f.Odd.map Granule.cs)))]) H (by omega) (by omega) rfl rfl rfl ?_; intro σ H
  refine Ops.assign (v := (.v (.bool false))) rfl rfl ?_
  apply Ops.nil
  replace H := H.all
  apply Runs.then
  refine Runs.regionH 5 rfl H ?_; intro b2 σ H
  refine Ops.fieldAddrH (off := 0) (fo := 2) H 0 rfl rfl rfl rfl rfl nofun rfl ?_
  refine Ops.loadH (off := 2) (v := (.v (.sl (f.Core.map (cL Span.cs))))) H 0 rfl rfl rfl rfl rfl nofun rfl ?_
  obtain ⟨x1, q1, h⟩ := bind_some h
  refine Ops.callH (ys := [(.v (.sl (f.Core.map (cL Span.cs)))), (.v (.fn 79))]) (r := (.v (.bool x1))) H rfl (slices_ContainsFunc_SSSpan_SSpan_fn (C := []) rfl (fun _ => rfl) (fun z0 y hz => (CloH.fn (Fn.toH (canon_bare_1_fn (Option.some.inj hz)) _))) q1) .nil nofun rfl ?_; intro σ H
  refine Ops.not (b := x1) rfl rfl ?_
  refine Ops.assign (v := (.v (.bool (!x1)))) rfl rfl ?_
  apply Ops.nil
  replace H := H.all
  apply Runs.ret
  replace h := Option.some.inj h; subst h
  exact (Ends.H (xs := [(.v (.bool (!x1)))]) (.inr rfl) H (.tmp (v := (.v (.bool (!x1)))) rfl .nil) (.one (.c (.v _))))

set_option maxRecDepth 100000 in
set_option maxHeartbeats 4000000 in
theorem canon_divisors_fn {n : Int} {σ : Heap} {lo hi : Nat} {L : List Res} (H : Has σ lo hi L) : ∃ r σ', callL CX (.fn 65) [(.v (.int .i64 n))] σ = some (r, σ') ∧ ∃ i0' : Nat, r = (.clo 80 [] [(.ptr i0' 1 0)]) ∧ Hs σ' (.blk i0' 3 [(.v (.int .i64 n))] :: L) := by
  refine callO_of (Post := fun r σ' => ∃ i0' : Nat, r = (.clo 80 [] [(.ptr i0' 1 0)]) ∧ Hs σ' (.blk i0' 3 [(.v (.int .i64 n))] :: L)) Try.func65 rfl rfl rfl rfl rfl rfl ?_
  replace H := H.all
  apply Runs.then
  refine Runs.regionH 2 rfl H ?_; intro b1 σ H
  refine Ops.boxH (v := (.v (.int .i64 n))) (cs := [(.v (.int .i64 n))]) H (by omega) (by omega) rfl rfl rfl ?_; intro σ H
  refine Ops.assign (v := (.v .nilf)) rfl rfl ?_
  apply Ops.nil
  replace H := H.all
  apply Runs.then
  refine Runs.regionH 2 rfl H ?_; intro b2 σ H
  refine Ops.makeClo (fs := []) (cs := [(.ptr (b1 + 0) 1 0)]) rfl rfl rfl rfl ?_
  refine Ops.assign (v := (.clo 80 [] [(.ptr (b1 + 0) 1 0)])) rfl rfl ?_
  apply Ops.nil
  replace H := H.all
  apply Runs.ret
  exact ⟨.inr rfl, [(.clo 80 [] [(.ptr (b1 + 0) 1 0)])], resD_ok H (.tmp (v := (.clo 80 [] [(.ptr (b1 + 0) 1 0)])) rfl .nil), (b1 + 0), rfl, H.all⟩

set_option maxRecDepth 100000 in
set_option maxHeartbeats 4000000 in
theorem canon_divisors_1_fn {p1' : Int} {S : Type} {C : S → List Res → Prop} {yield : S → Int → Option (S × Bool)} {yid : Nat} {id0' : Nat} (hy : YldH CX yid C (fun z => [(.v (.int .i64 z))]) yield) (hcap : ∀ s L, C s L → Sub [.blk id0' 3 [(.v (.int .i64 p1'))]] L) {st' r : S} (h : canon_divisors_1 p1' yield st' = some r) : ItF CX 80 [(.yld yid), (.ptr id0' 1 0)] C st' r := by
  refine ItF.of Try.func80 rfl rfl rfl rfl rfl rfl rfl rfl ?_
  intro σ L hC H
  have hc0 := hcap _ _ hC
  obtain ⟨k0', hk0', hc0⟩ := hc0.inv
  unfold canon_divisors_1 at h
  apply Runs.then
  refine Runs.regionH 1 rfl H ?_; intro b1 σ H
  refine Ops.assign (v := (.v (.int .i64 1))) rfl rfl ?_
  apply Ops.nil
  replace H := H.all
  apply Runs.inBlock
  obtain ⟨y1, hj1, h⟩ := bind_some h
  obtain ⟨n1, hj1⟩ := loopO_iff.1 hj1
  refine Runs.mono (Runs.loopO hj1 (fun s1 e σ => ∃ (L : List Res), C s1.2 L ∧ EnvHas e [(0, (.yld yid)), (1, (.ptr id0' 1 0)), (3, (.v (.int .i64 s1.1)))] ∧ Hs σ (L)) (fun y1 x e σ => (∃ a1, ∃ (L : List Res), C a1 L ∧ y1 = (.go a1) ∧ x = .exit 0 ∧ EnvHas e [] ∧ Hs σ (L)) ∨ (∃ r', y1 = (.ret r') ∧ x = .ret ∧ EndsI C r' x e σ)) ⟨_, hC, ⟨rfl, rfl, rfl, trivial⟩, H⟩ ?_) ?_
  · intro s1 e σ hI z h
    obtain ⟨L, hC, he, H⟩ := hI
    obtain ⟨e, rfl⟩ := he.ex
    have hc0 := hcap _ _ hC
    obtain ⟨k0', hk0', hc0⟩ := hc0.inv
    unfold canon_divisors_1.s0 at h
    apply Runs.then
    apply Runs.then
    refine Runs.regionH 3 rfl H ?_; intro b2 σ H
    refine Ops.move (v := (.v (.int .i64 s1.1))) rfl rfl ?_
    refine Ops.loadH (off := 0) (v := (.v (.int .i64 p1'))) H k0' hk0' rfl rfl rfl rfl nofun rfl ?_
    refine Ops.int (m := s1.1) (m' := p1') (r := .bool (decide (s1.1 ≤ p1'))) rfl rfl rfl rfl rfl ?_
    apply Ops.nil
    replace H := H.all
    refine Runs.whether (v := (decide (s1.1 ≤ p1'))) rfl ?_ ?_ <;> intro hc1
    · replace h := cond_T hc1 h
      apply Runs.skip
      apply Runs.then
      apply Runs.inBlock
      apply Runs.then
      refine Runs.regionH 10 rfl H ?_; intro b3 σ H
      refine Ops.loadH (off := 0) (v := (.v (.int .i64 p1'))) H k0' hk0' rfl rfl rfl rfl nofun rfl ?_
      refine Ops.move (v := (.v (.int .i64 s1.1))) rfl rfl ?_
      obtain ⟨u1, q1, h⟩ := bind_some h
      refine Ops.rem (m := p1') (m' := s1.1) rfl rfl (nz_ne q1) rfl ?_
      refine Ops.int (m := (p1'.tmod s1.1)) (m' := 0) (r := .bool ((p1'.tmod s1.1) == 0)) rfl rfl rfl rfl rfl ?_
      refine Ops.move (v := (.v (.bool ((p1'.tmod s1.1) == 0)))) rfl rfl ?_
      obtain ⟨y2, hj2, h⟩ := bind_some h
      refine Ops.mid 5 (K1 := fun e σ => ∃ L, C y2.2 L ∧ EnvHas e [(18, (.v (.bool y2.1))), (0, (.yld yid)), (1, (.ptr id0' 1 0)), (3, (.v (.int .i64 s1.1)))] ∧ Hs σ (L)) rfl ?_ ?_
      · refine Ops.split rfl rfl ?_ ?_ <;> intro hc2
        · replace h := cond_T hc2 hj2
          refine Ops.wanted rfl rfl ?_
          refine Ops.move (v := (.yld yid)) rfl rfl ?_
          refine Ops.wanted rfl rfl ?_
          refine Ops.move (v := (.v (.int .i64 s1.1))) rfl rfl ?_
          refine Ops.wanted rfl rfl ?_
          obtain ⟨x1, q2, h⟩ := bind_some h
          refine Ops.callY (z := s1.1) (s' := x1.1) (b := x1.2) [] H hC rfl rfl hy q2 rfl rfl ?_; intro σ L hC H
          have hc0 := hcap _ _ hC
          obtain ⟨k0', hk0', hc0⟩ := hc0.inv
          refine Ops.wanted rfl rfl ?_
          refine Ops.not (b := x1.2) rfl rfl ?_
          refine Ops.pickT (v := (.v (.bool (!x1.2)))) rfl rfl rfl ?_
          apply Ops.nil
          replace h := Option.some.inj h; subst h
          exact ⟨_, hC, ⟨rfl, rfl, rfl, rfl, trivial⟩, H.all⟩
        · replace h := cond_F hc2 hj2
          refine Ops.pass rfl rfl rfl ?_
          refine Ops.pass rfl rfl rfl ?_
          refine Ops.pass rfl rfl rfl ?_
          refine Ops.pass rfl rfl rfl ?_
          refine Ops.pickF (v := (.v (.bool false))) rfl rfl rfl ?_
          apply Ops.nil
          replace h := Option.some.inj h; subst h
          exact ⟨_, hC, ⟨rfl, rfl, rfl, rfl, trivial⟩, H.all⟩
      · rintro e σ ⟨L, hC, he, H⟩
        obtain ⟨e, rfl⟩ := he.ex
        have hc0 := hcap _ _ hC
        obtain ⟨k0', hk0', hc0⟩ := hc0.inv
        apply Ops.nil
        replace H := H.all
        refine Runs.whether (v := y2.1) rfl ?_ ?_ <;> intro hc3
        · replace h := cond_T hc3 h
          apply Runs.ret
          replace h := Option.some.inj h; subst h
          exact ⟨nofun, (.inr ⟨_, rfl, rfl, (EndsI.H (.inr rfl) H 0 rfl hC)⟩)⟩
        · replace h := cond_F hc3 h
          apply Runs.skip
          refine Runs.regionH 3 rfl H ?_; intro b4 σ H
          refine Ops.move (v := (.v (.int .i64 s1.1))) rfl rfl ?_
          refine Ops.int (m := s1.1) (m' := 1) (r := .int .i64 (w64 (s1.1 + 1))) rfl rfl rfl rfl rfl ?_
          refine Ops.assign (v := (.v (.int .i64 (w64 (s1.1 + 1))))) rfl rfl ?_
          apply Ops.nil
          replace H := H.all
          replace h := Option.some.inj h; subst h
          exact ⟨rfl, _, hC, ⟨rfl, rfl, rfl, trivial⟩, H⟩
    · replace h := cond_F hc1 h
      apply Runs.exit
      replace h := Option.some.inj h; subst h
      exact ⟨nofun, (.inl ⟨_, _, hC, rfl, rfl, trivial, H⟩)⟩
  · rintro x e σ (⟨a2, L, hC, rfl, rfl, he, H⟩ | ⟨r', rfl, rfl, hE⟩)
    · skip
      replace h := jgo h
      obtain ⟨e, rfl⟩ := he.ex
      have hc0 := hcap _ _ hC
      obtain ⟨k0', hk0', hc0⟩ := hc0.inv
      replace h := Option.some.inj h; subst h
      exact (EndsI.H (.inl rfl) H 0 rfl hC)
    · skip
      replace h := jret h
      replace h := Option.some.inj h; subst h
      exact hE

set_option maxRecDepth 100000 in
set_option maxHeartbeats 4000000 in
theorem slices_EqualFunc_SSpan_SSpan_Span_Span_fn {s1' : (List Span)} {s2' : (List Span)} {eq : Span → Span → Option Bool} {C : List Res} {cv0 : PV} (hs0 : cv0.still = true) (hp0 : cv0.pure = true → C = []) (hf0 : ∀ z0 z1 y, eq z0 z1 = some y → CloH CX cv0 [(.agg (vs (Span.cs z0))), (.agg (vs (Span.cs z1)))] (.v (.bool y)) C) {r : Bool} (h : slices_EqualFunc_SSpan_SSpan_Span_Span s1' s2' eq = some r) : FnH CX 84 [(.v (.sl (s1'.map Span.cs))), (.v (.sl (s2'.map Span.cs))), cv0] (.v (.bool r)) C := by
  refine FnH.of Try.func84 rfl rfl rfl rfl (all_t rfl (all_t rfl (all_t hs0 all_nil))) rfl (fun h => hp0 (all_get h 2 rfl)) ?_
  intro σ L hC H
  unfold slices_EqualFunc_SSpan_SSpan_Span_Span at h
  apply Runs.then
  refine Runs.regionH 1 rfl H ?_; intro b1 σ H
  refine Ops.assign (v := (.v (.bool false))) rfl rfl ?_
  apply Ops.nil
  replace H := H.all
  apply Runs.then
  apply Runs.then
  refine Runs.regionH 5 rfl H ?_; intro b2 σ H
  refine Ops.move (v := (.v (.sl (s1'.map Span.cs)))) rfl rfl ?_
  refine Ops.lenPt (c := Span.cs) (xs := s1') rfl rfl rfl ?_
  refine Ops.move (v := (.v (.sl (s2'.map Span.cs)))) rfl rfl ?_
  refine Ops.lenPt (c := Span.cs) (xs := s2') rfl rfl rfl ?_
  refine Ops.int (m := (s1'.length : Int)) (m' := (s2'.length : Int)) (r := .bool ((s1'.length : Int) != (s2'.length : Int))) rfl rfl rfl rfl rfl ?_
  apply Ops.nil
  replace H := H.all
  refine Runs.whether (v := ((s1'.length : Int) != (s2'.length : Int))) rfl ?_ ?_ <;> intro hc1
  · replace h := cond_T hc1 h
    apply Runs.then
    refine Runs.regionH 1 rfl H ?_; intro b3 σ H
    refine Ops.assign (v := (.v (.bool false))) rfl rfl ?_
    apply Ops.nil
    replace H := H.all
    apply Runs.ret
    replace h := Option.some.inj h; subst h
    exact (EndsH.H (xs := [(.v (.bool false))]) (.inr rfl) H (.tmp (v := (.v (.bool false))) rfl .nil) (.one (.c (.v _))) 0 rfl)
  · replace h := cond_F hc1 h
    apply Runs.skip
    apply Runs.then
    apply Runs.then
    refine Runs.regionH 3 rfl H ?_; intro b4 σ H
    refine Ops.move (v := (.v (.sl (s1'.map Span.cs)))) rfl rfl ?_
    refine Ops.lenPt (c := Span.cs) (xs := s1') rfl rfl rfl ?_
    refine Ops.move (v := (.v (.int .i64 0))) rfl rfl ?_
    apply Ops.nil
    replace H := H.all
    apply Runs.inBlock
    obtain ⟨y1, hj1, h⟩ := bind_some h
    obtain ⟨n1, hj1⟩ := loopO_iff.1 hj1
    refine Runs.mono (Runs.loopO hj1 (fun s1 e σ => EnvHas e [(1, (.v (.sl (s2'.map Span.cs)))), (2, cv0), (15, (.v (.sl (s1'.map Span.cs)))), (16, (.v (.int .i64 (s1'.length : Int)))), (17, (.v (.int .i64 s1)))] ∧ Hs σ (L)) (fun y1 x e σ => (∃ a1, y1 = (.go a1) ∧ x = .exit 0 ∧ EnvHas e [] ∧ Hs σ (L)) ∨ (∃ r', y1 = (.ret r') ∧ x = .ret ∧ EndsH CX Try.f84.results.toList (.v (.bool r')) L x e σ)) ⟨⟨rfl, rfl, rfl, rfl, rfl, trivial⟩, H⟩ ?_) ?_
    · intro s1 e σ hI z h
      obtain ⟨he, H⟩ := hI
      obtain ⟨e, rfl⟩ := he.ex
      unfold slices_EqualFunc_SSpan_SSpan_Span_Span.s0 at h
      apply Runs.then
      refine Runs.regionH 1 rfl H ?_; intro b5 σ H
      refine Ops.int (m := s1) (m' := (s1'.length : Int)) (r := .bool (decide (s1 < (s1'.length : Int)))) rfl rfl rfl rfl rfl ?_
      apply Ops.nil
      replace H := H.all
      apply Runs.then
      refine Runs.whether (v := (decide (s1 < (s1'.length : Int)))) rfl ?_ ?_ <;> intro hc2
      · replace h := cond_T hc2 h
        apply Runs.skip
        apply Runs.then
        apply Runs.inBlock
        apply Runs.then
        refine Runs.regionH 6 rfl H ?_; intro b6 σ H
        refine Ops.move (v := (.v (.int .i64 s1))) rfl rfl ?_
        obtain ⟨x1, q1, h⟩ := bind_some h
        refine Ops.indexP (c := Span.cs) (u := x1) rfl rfl q1 rfl rfl rfl rfl ?_
        refine Ops.loadPA (cs := [(.int .i64 x1.From), (.int .i64 x1.To)]) rfl rfl rfl rfl rfl rfl ?_
        refine Ops.allocH (cs := [(.v (.int .i64 0)), (.v (.int .i64 0))]) H (by omega) (by omega) rfl rfl ?_; intro σ H
        refine Ops.assign (v := (.v (.int .i64 s1))) rfl rfl ?_
        refine Ops.storeH (off := 0) (v := (.agg [(.v (.int .i64 x1.From)), (.v (.int .i64 x1.To))])) (ys := [(.v (.int .i64 x1.From)), (.v (.int .i64 x1.To))]) (cells' := [(.v (.int .i64 x1.From)), (.v (.int .i64 x1.To))]) H 0 rfl rfl rfl rfl rfl rfl rfl rfl rfl nofun ?_; intro σ H
        apply Ops.nil
        replace H := H.all
        apply Runs.then
        refine Runs.regionH 6 rfl H ?_; intro b7 σ H
        refine Ops.move (v := (.v (.sl (s2'.map Span.cs)))) rfl rfl ?_
        refine Ops.move (v := (.v (.int .i64 s1))) rfl rfl ?_
        obtain ⟨x2, q2, h⟩ := bind_some h
        refine Ops.indexP (c := Span.cs) (u := x2) rfl rfl q2 rfl rfl rfl rfl ?_
        refine Ops.loadPA (cs := [(.int .i64 x2.From), (.int .i64 x2.To)]) rfl rfl rfl rfl rfl rfl ?_
        refine Ops.allocH (cs := [(.v (.int .i64 0)), (.v (.int .i64 0))]) H (by omega) (by omega) rfl rfl ?_; intro σ H
        refine Ops.storeH (off := 0) (v := (.agg [(.v (.int .i64 x2.From)), (.v (.int .i64 x2.To))])) (ys := [(.v (.int .i64 x2.From)), (.v (.int .i64 x2.To))]) (cells' := [(.v (.int .i64 x2.From)), (.v (.int .i64 x2.To))]) H 0 rfl rfl rfl rfl rfl rfl rfl rfl rfl nofun ?_; intro σ H
        apply Ops.nil
        replace H := H.all
        apply Runs.then
        refine Runs.regionH 5 rfl H ?_; intro b8 σ H
        refine Ops.move (v := cv0) rfl rfl ?_
        refine Ops.loadHA (off := 0) (cs := [(.v (.int .i64 x1.From)), (.v (.int .i64 x1.To))]) H 1 rfl rfl rfl rfl rfl rfl rfl nofun rfl ?_
        refine Ops.loadHA (off := 0) (cs := [(.v (.int .i64 x2.From)), (.v (.int .i64 x2.To))]) H 0 rfl rfl rfl rfl rfl rfl rfl nofun rfl ?_
        obtain ⟨x3, q3, h⟩ := bind_some h
        refine Ops.callV (cv := cv0) (ys := [(.agg (vs (Span.cs x1))), (.agg (vs (Span.cs x2)))]) (r := (.v (.bool x3))) H rfl rfl (hf0 x1 x2 _ q3) hC.push.push rfl rfl ?_; intro σ H
        refine Ops.not (b := x3) rfl rfl ?_
        apply Ops.nil
        replace H := H.all
        refine Runs.whether (v := (!x3)) rfl ?_ ?_ <;> intro hc3
        · replace h := cond_T hc3 h
          apply Runs.then
          refine Runs.regionH 1 rfl H ?_; intro b9 σ H
          refine Ops.assign (v := (.v (.bool false))) rfl rfl ?_
          apply Ops.nil
          replace H := H.all
          apply Runs.ret
          replace h := Option.some.inj h; subst h
          exact ⟨nofun, (.inr ⟨_, rfl, rfl, (EndsH.H (xs := [(.v (.bool false))]) (.inr rfl) H (.tmp (v := (.v (.bool false))) rfl .nil) (.one (.c (.v _))) 2 rfl)⟩)⟩
        · replace h := cond_F hc3 h
          apply Runs.skip
          refine Runs.regionH 2 rfl H ?_; intro b10 σ H
          refine Ops.int (m := s1) (m' := 1) (r := .int .i64 (w64 (s1 + 1))) rfl rfl rfl rfl rfl ?_
          refine Ops.move (v := (.v (.int .i64 (w64 (s1 + 1))))) rfl rfl ?_
          apply Ops.nil
          replace H := H.all
          replace h := Option.some.inj h; subst h
          exact ⟨rfl, ⟨rfl, rfl, rfl, rfl, rfl, trivial⟩, ((H.erase 1).erase 0)⟩
      · replace h := cond_F hc2 h
        apply Runs.exit
        replace h := Option.some.inj h; subst h
        exact ⟨nofun, (.inl ⟨_, rfl, rfl, trivial, H⟩)⟩
    · rintro x e σ (⟨a2, rfl, rfl, he, H⟩ | ⟨r', rfl, rfl, hE⟩)
      · skip
        replace h := jgo h
        obtain ⟨e, rfl⟩ := he.ex
        apply Runs.then
        refine Runs.regionH 1 rfl H ?_; intro b11 σ H
        refine Ops.assign (v := (.v (.bool true))) rfl rfl ?_
        apply Ops.nil
        replace H := H.all
        apply Runs.ret
        replace h := Option.some.inj h; subst h
        exact (EndsH.H (xs := [(.v (.bool true))]) (.inr rfl) H (.tmp (v := (.v (.bool true))) rfl .nil) (.one (.c (.v _))) 0 rfl)
      · skip
        replace h := jret h
        replace h := Option.some.inj h; subst h
        exact hE

set_option maxRecDepth 100000 in
set_option maxHeartbeats 4000000 in
theorem canon_shifted_1_fn {x' : Span} {y : Span} {p2' : Int} {id0' : Nat} {r : Bool} (h : canon_shifted_1 x' y p2' = r) : FnH CX 85 [(.agg (vs (Span.cs x'))), (.agg (vs (Span.cs y))), (.ptr id0' 1 0)] (.v (.bool r)) [.blk id0' 3 [(.v (.int .i64 p2'))]] := by
  refine FnH.of Try.func85 rfl rfl rfl rfl rfl rfl (fun h => by have := all_get h 2 rfl; cases this) ?_
  intro σ L hC H
  obtain ⟨k0', hk0', hC⟩ := hC.inv
  unfold canon_shifted_1 at h
  apply Runs.then
  refine Runs.regionH 3 rfl H ?_; intro b1 σ H
  refine Ops.boxH (v := (.agg [(.v (.int .i64 x'.From)), (.v (.int .i64 x'.To))])) (cs := [(.v (.int .i64 x'.From)), (.v (.int .i64 x'.To))]) H (by omega) (by omega) rfl rfl rfl ?_; intro σ H
  refine Ops.boxH (v := (.agg [(.v (.int .i64 y.From)), (.v (.int .i64 y.To))])) (cs := [(.v (.int .i64 y.From)), (.v (.int .i64 y.To))]) H (by omega) (by omega) rfl rfl rfl ?_; intro σ H
  refine Ops.assign (v := (.v (.bool false))) rfl rfl ?_
  apply Ops.nil
  replace H := H.all
  apply Runs.then
  refine Runs.regionH 17 rfl H ?_; intro b2 σ H
  refine Ops.fieldAddrH (off := 0) (fo := 0) H 0 rfl rfl rfl rfl rfl nofun rfl ?_
  refine Ops.loadH (off := 0) (v := (.v (.int .i64 y.From))) H 0 rfl rfl rfl rfl rfl nofun rfl ?_
  refine Ops.fieldAddrH (off := 0) (fo := 0) H 1 rfl rfl rfl rfl rfl nofun rfl ?_
  refine Ops.loadH (off := 0) (v := (.v (.int .i64 x'.From))) H 1 rfl rfl rfl rfl rfl nofun rfl ?_
  refine Ops.int (m := y.From) (m' := x'.From) (r := .int .i64 (w64 (y.From - x'.From))) rfl rfl rfl rfl rfl ?_
  refine Ops.loadH (off := 0) (v := (.v (.int .i64 p2'))) H (k0' + 2) hk0' rfl rfl rfl rfl nofun rfl ?_
  refine Ops.int (m := (w64 (y.From - x'.From))) (m' := p2') (r := .bool ((w64 (y.From - x'.From)) == p2')) rfl rfl rfl rfl rfl ?_
  refine Ops.move (v := (.v (.bool ((w64 (y.From - x'.From)) == p2')))) rfl rfl ?_
  refine Ops.mid 8 (K1 := fun e σ => EnvHas e [(21, (.v (.bool (((w64 (y.From - x'.From)) == p2') && ((w64 (y.To - x'.To)) == p2')))))] ∧ Has σ (b2 + 16) (b2 + 17) (L)) rfl ?_ ?_
  · refine Ops.split rfl rfl ?_ ?_ <;> intro hc1
    · skip
      refine Ops.wanted rfl rfl ?_
      refine Ops.fieldAddrH (off := 0) (fo := 1) H 0 rfl rfl rfl rfl rfl nofun rfl ?_
      refine Ops.wanted rfl rfl ?_
      refine Ops.loadH (off := 1) (v := (.v (.int .i64 y.To))) H 0 rfl rfl rfl rfl rfl nofun rfl ?_
      refine Ops.wanted rfl rfl ?_
      refine Ops.fieldAddrH (off := 0) (fo := 1) H 1 rfl rfl rfl rfl rfl nofun rfl ?_
      refine Ops.wanted rfl rfl ?_
      refine Ops.loadH (off := 1) (v := (.v (.int .i64 x'.To))) H 1 rfl rfl rfl rfl rfl nofun rfl ?_
      refine Ops.wanted rfl rfl ?_
      refine Ops.int (m := y.To) (m' := x'.To) (r := .int .i64 (w64 (y.To - x'.To))) rfl rfl rfl rfl rfl ?_
      refine Ops.wanted rfl rfl ?_
      refine Ops.loadH (off := 0) (v := (.v (.int .i64 p2'))) H (k0' + 2) hk0' rfl rfl rfl rfl nofun rfl ?_
      refine Ops.wanted rfl rfl ?_
      refine Ops.int (m := (w64 (y.To - x'.To))) (m' := p2') (r := .bool ((w64 (y.To - x'.To)) == p2')) rfl rfl rfl rfl rfl ?_
      refine Ops.pickT (v := (.v (.bool ((w64 (y.To - x'.To)) == p2')))) rfl rfl rfl ?_
      apply Ops.nil
      exact ⟨⟨and_T hc1, trivial⟩, ((H.erase 1).erase 0).weak (by omega) (Nat.le_refl _)⟩
    · skip
      refine Ops.pass rfl rfl rfl ?_
      refine Ops.pass rfl rfl rfl ?_
      refine Ops.pass rfl rfl rfl ?_
      refine Ops.pass rfl rfl rfl ?_
      refine Ops.pass rfl rfl rfl ?_
      refine Ops.pass rfl rfl rfl ?_
      refine Ops.pass rfl rfl rfl ?_
      refine Ops.pickF (v := (.v (.bool false))) rfl rfl rfl ?_
      apply Ops.nil
      exact ⟨⟨and_F hc1, trivial⟩, ((H.erase 1).erase 0).weak (by omega) (Nat.le_refl _)⟩
  · rintro e σ ⟨he, H⟩
    obtain ⟨e, rfl⟩ := he.ex
    refine Ops.assign (v := (.v (.bool (((w64 (y.From - x'.From)) == p2') && ((w64 (y.To - x'.To)) == p2'))))) rfl rfl ?_
    apply Ops.nil
    replace H := H.all
    apply Runs.ret
    subst h
    exact (EndsH.H (xs := [(.v (.bool (((w64 (y.From - x'.From)) == p2') && ((w64 (y.To - x'.To)) == p2'))))]) (.inr rfl) H (.tmp (v := (.v (.bool (((w64 (y.From - x'.From)) == p2') && ((w64 (y.To - x'.To)) == p2'))))) rfl .nil) (.one (.c (.v _))) 0 rfl)

set_option maxRecDepth 100000 in
set_option maxHeartbeats 4000000 in
theorem canon_shifted_fn {a : (List Span)} {b : (List Span)} {by' : Int} {r : Bool} (h : canon_shifted a b by' = some r) : Fn CX 81 [(.v (.sl (a.map Span.cs))), (.v (.sl (b.map Span.cs))), (.v (.int .i64 by'))] (.v (.bool r)) := by
  refine Fn.ends Try.func81 rfl rfl rfl rfl rfl rfl ?_
  have H : Hs (⟨0, fun _ => .none⟩ : Heap) [] := Has.nil (Nat.le_refl _)
  generalize (⟨0, fun _ => .none⟩ : Heap) = σ at H ⊢
  unfold canon_shifted at h
  apply Runs.then
  refine Runs.regionH 2 rfl H ?_; intro b1 σ H
  refine Ops.boxH (v := (.v (.int .i64 by'))) (cs := [(.v (.int .i64 by'))]) H (by omega) (by omega) rfl rfl rfl ?_; intro σ H
  refine Ops.assign (v := (.v (.bool false))) rfl rfl ?_
  apply Ops.nil
  replace H := H.all
  apply Runs.then
  refine Runs.regionH 5 rfl H ?_; intro b2 σ H
  refine Ops.move (v := (.v (.sl (a.map Span.cs)))) rfl rfl ?_
  refine Ops.move (v := (.v (.sl (b.map Span.cs)))) rfl rfl ?_
  refine Ops.makeClo (fs := []) (cs := [(.ptr (b1 + 0) 1 0)]) rfl rfl rfl rfl ?_
  obtain ⟨x1, q1, h⟩ := bind_some h
  refine Ops.callH (ys := [(.v (.sl (a.map Span.cs))), (.v (.sl (b.map Span.cs))), (.clo 85 [] [(.ptr (b1 + 0) 1 0)])]) (r := (.v (.bool x1))) H rfl (slices_EqualFunc_SSpan_SSpan_Span_Span_fn (C := [.blk (b1 + 0) 3 [(.v (.int .i64 by'))]]) rfl (fun h => by simp [PV.pure] at h) (fun z0 z1 y hz => (CloH.clo (canon_shifted_1_fn (Option.some.inj hz)))) q1) (.cons 0 rfl .nil) nofun rfl ?_; intro σ H
  refine Ops.assign (v := (.v (.bool x1))) rfl rfl ?_
  apply Ops.nil
  replace H := H.all
  apply Runs.ret
  replace h := Option.some.inj h; subst h
  exact (Ends.H (xs := [(.v (.bool x1))]) (.inr rfl) H (.tmp (v := (.v (.bool x1))) rfl .nil) (.one (.c (.v _))))

end Go.Dn
