/- The interpreter answers as the plain functions do: part 1. -/
import Derived.Test.YtefaoeaohhdhkaaSh
import Derived.Test.YtefaoeaohhdhkaaGb0
set_option linter.unusedVariables false
set_option linter.unusedSimpArgs false
namespace Go.Dn
open Go Go.Proofs

set_option maxRecDepth 100000 in
set_option maxHeartbeats 4000000 in
theorem spans_Move_fn {l : (List Span)} {by' : Int} {r : (List Span) × Int} (h : spans_Move l by' = some r) : Fn CX 21 [(.v (.sl (l.map Span.cs))), (.v (.int .i64 by'))] (.tup [(.v (.sl (r.1.map Span.cs))), (.v (.int .i64 r.2))]) := by
  refine Fn.ends Try.func21 rfl rfl rfl rfl rfl rfl ?_
  have H : Hs (⟨0, fun _ => .none⟩ : Heap) [] := Has.nil (Nat.le_refl _)
  generalize (⟨0, fun _ => .none⟩ : Heap) = σ at H ⊢
  unfold spans_Move at h
  apply Runs.then
  refine Runs.regionH 2 rfl H ?_; intro b1 σ H
  refine Ops.assign (v := .nils) rfl rfl ?_
  refine Ops.assign (v := (.v (.int .i64 0))) rfl rfl ?_
  apply Ops.nil
  replace H := H.all
  apply Runs.then
  refine Runs.regionH 1 rfl H ?_; intro b2 σ H
  refine Ops.assign (v := .nils) rfl rfl ?_
  apply Ops.nil
  replace H := H.all
  apply Runs.then
  apply Runs.then
  refine Runs.regionH 3 rfl H ?_; intro b3 σ H
  refine Ops.move (v := (.v (.sl (l.map Span.cs)))) rfl rfl ?_
  refine Ops.lenPt (c := Span.cs) (xs := l) rfl rfl rfl ?_
  refine Ops.move (v := (.v (.int .i64 0))) rfl rfl ?_
  apply Ops.nil
  replace H := H.all
  apply Runs.inBlock
  replace H := H.pushNil 43 2 true
  obtain ⟨y1, hj1, h⟩ := bind_some h
  obtain ⟨n1, hj1⟩ := loopO_iff.1 hj1
  refine Runs.mono (Runs.loopO hj1 (fun s2 e σ => ∃ (w3 : PV), EnvHas e [(1, (.v (.int .i64 by'))), (6, w3), (13, (.v (.sl (l.map Span.cs)))), (14, (.v (.int .i64 (l.length : Int)))), (15, (.v (.int .i64 s2.1)))] ∧ Hs σ [.sl w3 43 2 (s2.2.map Span.cs) true]) (fun y1 x e σ => (∃ a1, ∃ (w4 : PV), y1 = (.go a1) ∧ x = .exit 0 ∧ EnvHas e [(6, w4)] ∧ Hs σ [.sl w4 43 2 (a1.map Span.cs) true]) ∨ (∃ r', y1 = (.ret r') ∧ x = .ret ∧ Ends CX Try.f21.results.toList (.tup [(.v (.sl (r'.1.map Span.cs))), (.v (.int .i64 r'.2))]) x e σ)) ⟨.nils, ⟨rfl, rfl, rfl, rfl, rfl, trivial⟩, H⟩ ?_) ?_
  · intro s2 e σ hI z h
    obtain ⟨w3, he, H⟩ := hI
    obtain ⟨e, rfl⟩ := he.ex
    unfold spans_Move.s0 at h
    apply Runs.then
    refine Runs.regionH 1 rfl H ?_; intro b4 σ H
    refine Ops.int (m := s2.1) (m' := (l.length : Int)) (r := .bool (decide (s2.1 < (l.length : Int)))) rfl rfl rfl rfl rfl ?_
    apply Ops.nil
    replace H := H.all
    apply Runs.then
    refine Runs.whether (v := (decide (s2.1 < (l.length : Int)))) rfl ?_ ?_ <;> intro hc1
    · replace h := cond_T hc1 h
      apply Runs.skip
      apply Runs.then
      apply Runs.inBlock
      apply Runs.then
      refine Runs.regionH 4 rfl H ?_; intro b5 σ H
      obtain ⟨x1, q1, h⟩ := bind_some h
      refine Ops.indexP (c := Span.cs) (u := x1) rfl rfl q1 rfl rfl rfl rfl ?_
      refine Ops.loadPA (cs := [(.int .i64 x1.From), (.int .i64 x1.To)]) rfl rfl rfl rfl rfl rfl ?_
      refine Ops.allocH (cs := [(.v (.int .i64 0)), (.v (.int .i64 0))]) H (by omega) (by omega) rfl rfl ?_; intro σ H
      refine Ops.storeH (off := 0) (v := (.agg [(.v (.int .i64 x1.From)), (.v (.int .i64 x1.To))])) (ys := [(.v (.int .i64 x1.From)), (.v (.int .i64 x1.To))]) (cells' := [(.v (.int .i64 x1.From)), (.v (.int .i64 x1.To))]) H 0 rfl rfl rfl rfl rfl rfl rfl rfl rfl nofun ?_; intro σ H
      apply Ops.nil
      replace H := H.all
      apply Runs.then
      refine Runs.regionH 9 rfl H ?_; intro b6 σ H
      refine Ops.fieldAddrH (off := 0) (fo := 0) H 0 rfl rfl rfl rfl rfl nofun rfl ?_
      refine Ops.loadH (off := 0) (v := (.v (.int .i64 x1.From))) H 0 rfl rfl rfl rfl rfl nofun rfl ?_
      refine Ops.move (v := (.v (.int .i64 by'))) rfl rfl ?_
      refine Ops.call (ys := [(.v (.int .i64 x1.From)), (.v (.int .i64 by'))]) (r := (.tup [(.v (.int .i64 (safe_Add x1.From by').1)), (.v (.int .i64 (safe_Add x1.From by').2))])) rfl (safe_Add_fn rfl) rfl ?_
      refine Ops.move (v := (.tup [(.v (.int .i64 (safe_Add x1.From by').1)), (.v (.int .i64 (safe_Add x1.From by').2))])) rfl rfl ?_
      refine Ops.extract (v := (.v (.int .i64 (safe_Add x1.From by').1))) rfl rfl rfl ?_
      refine Ops.extract (v := (.v (.int .i64 (safe_Add x1.From by').2))) rfl rfl rfl ?_
      refine Ops.assign (v := (.v (.int .i64 (safe_Add x1.From by').1))) rfl rfl ?_
      refine Ops.assign (v := (.v (.int .i64 (safe_Add x1.From by').2))) rfl rfl ?_
      apply Ops.nil
      replace H := H.all
      apply Runs.then
      refine Runs.regionH 9 rfl H ?_; intro b7 σ H
      refine Ops.fieldAddrH (off := 0) (fo := 1) H 0 rfl rfl rfl rfl rfl nofun rfl ?_
      refine Ops.loadH (off := 1) (v := (.v (.int .i64 x1.To))) H 0 rfl rfl rfl rfl rfl nofun rfl ?_
      refine Ops.move (v := (.v (.int .i64 by'))) rfl rfl ?_
      refine Ops.call (ys := [(.v (.int .i64 x1.To)), (.v (.int .i64 by'))]) (r := (.tup [(.v (.int .i64 (safe_Add x1.To by').1)), (.v (.int .i64 (safe_Add x1.To by').2))])) rfl (safe_Add_fn rfl) rfl ?_
      refine Ops.move (v := (.tup [(.v (.int .i64 (safe_Add x1.To by').1)), (.v (.int .i64 (safe_Add x1.To by').2))])) rfl rfl ?_
      refine Ops.extract (v := (.v (.int .i64 (safe_Add x1.To by').1))) rfl rfl rfl ?_
      refine Ops.extract (v := (.v (.int .i64 (safe_Add x1.To by').2))) rfl rfl rfl ?_
      refine Ops.assign (v := (.v (.int .i64 (safe_Add x1.To by').1))) rfl rfl ?_
      refine Ops.assign (v := (.v (.int .i64 (safe_Add x1.To by').2))) rfl rfl ?_
      apply Ops.nil
      replace H := H.all
      apply Runs.then
      apply Runs.then
      refine Runs.regionH 16 rfl H ?_; intro b8 σ H
      refine Ops.move (v := (.v (.int .i64 (safe_Add x1.From by').2))) rfl rfl ?_
      refine Ops.int (m := (safe_Add x1.From by').2) (m' := 0) (r := .bool (((safe_Add x1.From by').2) != 0)) rfl rfl rfl rfl rfl ?_
      refine Ops.move (v := (.v (.bool (((safe_Add x1.From by').2) != 0)))) rfl rfl ?_
      refine Ops.mid 3 (K1 := fun e σ => EnvHas e [(38, (.v (.bool ((((safe_Add x1.From by').2) != 0) || (((safe_Add x1.To by').2) != 0))))), (1, (.v (.int .i64 by'))), (6, w3), (9, (.v (.int .i64 (safe_Add x1.From by').1))), (11, (.v (.int .i64 (safe_Add x1.To by').1))), (13, (.v (.sl (l.map Span.cs)))), (14, (.v (.int .i64 (l.length : Int)))), (15, (.v (.int .i64 s2.1)))] ∧ Has σ (b8 + 6) (b8 + 16) [.sl w3 43 2 (s2.2.map Span.cs) true]) rfl ?_ ?_
      · refine Ops.split rfl rfl ?_ ?_ <;> intro hc2
        · skip
          refine Ops.pass rfl rfl rfl ?_
          refine Ops.pass rfl rfl rfl ?_
          refine Ops.pickT (v := (.v (.bool true))) rfl rfl rfl ?_
          apply Ops.nil
          exact ⟨⟨or_T hc2, rfl, rfl, rfl, rfl, rfl, rfl, rfl, trivial⟩, (H.erase 0).weak (by omega) (Nat.le_refl _)⟩
        · skip
          refine Ops.wanted rfl rfl ?_
          refine Ops.move (v := (.v (.int .i64 (safe_Add x1.To by').2))) rfl rfl ?_
          refine Ops.wanted rfl rfl ?_
          refine Ops.int (m := (safe_Add x1.To by').2) (m' := 0) (r := .bool (((safe_Add x1.To by').2) != 0)) rfl rfl rfl rfl rfl ?_
          refine Ops.pickF (v := (.v (.bool (((safe_Add x1.To by').2) != 0)))) rfl rfl rfl ?_
          apply Ops.nil
          exact ⟨⟨or_F hc2, rfl, rfl, rfl, rfl, rfl, rfl, rfl, trivial⟩, (H.erase 0).weak (by omega) (Nat.le_refl _)⟩
      · rintro e σ ⟨he, H⟩
        obtain ⟨e, rfl⟩ := he.ex
        refine Ops.move (v := (.v (.bool ((((safe_Add x1.From by').2) != 0) || (((safe_Add x1.To by').2) != 0))))) rfl rfl ?_
        refine Ops.mid 4 (K1 := fun e σ => EnvHas e [(43, (.v (.bool (((((safe_Add x1.From by').2) != 0) || (((safe_Add x1.To by').2) != 0)) || (!(spans_tick ((safe_Add x1.From by').1))))))), (1, (.v (.int .i64 by'))), (6, w3), (9, (.v (.int .i64 (safe_Add x1.From by').1))), (11, (.v (.int .i64 (safe_Add x1.To by').1))), (13, (.v (.sl (l.map Span.cs)))), (14, (.v (.int .i64 (l.length : Int)))), (15, (.v (.int .i64 s2.1)))] ∧ Has σ (b8 + 11) (b8 + 16) [.sl w3 43 2 (s2.2.map Span.cs) true]) rfl ?_ ?_
        · refine Ops.split rfl rfl ?_ ?_ <;> intro hc3
          · skip
            refine Ops.pass rfl rfl rfl ?_
            refine Ops.pass rfl rfl rfl ?_
            refine Ops.pass rfl rfl rfl ?_
            refine Ops.pickT (v := (.v (.bool true))) rfl rfl rfl ?_
            apply Ops.nil
            exact ⟨⟨or_T hc3, rfl, rfl, rfl, rfl, rfl, rfl, rfl, trivial⟩, H.weak (by omega) (Nat.le_refl _)⟩
          · skip
            refine Ops.wanted rfl rfl ?_
            refine Ops.move (v := (.v (.int .i64 (safe_Add x1.From by').1))) rfl rfl ?_
            refine Ops.wanted rfl rfl ?_
            refine Ops.call (ys := [(.v (.int .i64 (safe_Add x1.From by').1))]) (r := (.v (.bool (spans_tick ((safe_Add x1.From by').1))))) rfl (spans_tick_fn rfl) rfl ?_
            refine Ops.wanted rfl rfl ?_
            refine Ops.not (b := (spans_tick ((safe_Add x1.From by').1))) rfl rfl ?_
            refine Ops.pickF (v := (.v (.bool (!(spans_tick ((safe_Add x1.From by').1)))))) rfl rfl rfl ?_
            apply Ops.nil
            exact ⟨⟨or_F hc3, rfl, rfl, rfl, rfl, rfl, rfl, rfl, trivial⟩, H.weak (by omega) (Nat.le_refl _)⟩
        · rintro e σ ⟨he, H⟩
          obtain ⟨e, rfl⟩ := he.ex
          refine Ops.move (v := (.v (.bool (((((safe_Add x1.From by').2) != 0) || (((safe_Add x1.To by').2) != 0)) || (!(spans_tick ((safe_Add x1.From by').1))))))) rfl rfl ?_
          refine Ops.mid 4 (K1 := fun e σ => EnvHas e [(48, (.v (.bool ((((((safe_Add x1.From by').2) != 0) || (((safe_Add x1.To by').2) != 0)) || (!(spans_tick ((safe_Add x1.From by').1)))) || (!(spans_tick ((safe_Add x1.To by').1))))))), (1, (.v (.int .i64 by'))), (6, w3), (9, (.v (.int .i64 (safe_Add x1.From by').1))), (11, (.v (.int .i64 (safe_Add x1.To by').1))), (13, (.v (.sl (l.map Span.cs)))), (14, (.v (.int .i64 (l.length : Int)))), (15, (.v (.int .i64 s2.1)))] ∧ Has σ (b8 + 16) (b8 + 16) [.sl w3 43 2 (s2.2.map Span.cs) true]) rfl ?_ ?_
          · refine Ops.split rfl rfl ?_ ?_ <;> intro hc4
            · skip
              refine Ops.pass rfl rfl rfl ?_
              refine Ops.pass rfl rfl rfl ?_
              refine Ops.pass rfl rfl rfl ?_
              refine Ops.pickT (v := (.v (.bool true))) rfl rfl rfl ?_
              apply Ops.nil
              exact ⟨⟨or_T hc4, rfl, rfl, rfl, rfl, rfl, rfl, rfl, trivial⟩, H.weak (by omega) (Nat.le_refl _)⟩
            · skip
              refine Ops.wanted rfl rfl ?_
              refine Ops.move (v := (.v (.int .i64 (safe_Add x1.To by').1))) rfl rfl ?_
              refine Ops.wanted rfl rfl ?_
              refine Ops.call (ys := [(.v (.int .i64 (safe_Add x1.To by').1))]) (r := (.v (.bool (spans_tick ((safe_Add x1.To by').1))))) rfl (spans_tick_fn rfl) rfl ?_
              refine Ops.wanted rfl rfl ?_
              refine Ops.not (b := (spans_tick ((safe_Add x1.To by').1))) rfl rfl ?_
              refine Ops.pickF (v := (.v (.bool (!(spans_tick ((safe_Add x1.To by').1)))))) rfl rfl rfl ?_
              apply Ops.nil
              exact ⟨⟨or_F hc4, rfl, rfl, rfl, rfl, rfl, rfl, rfl, trivial⟩, H.weak (by omega) (Nat.le_refl _)⟩
          · rintro e σ ⟨he, H⟩
            obtain ⟨e, rfl⟩ := he.ex
            apply Ops.nil
            replace H := H.all
            refine Runs.whether (v := ((((((safe_Add x1.From by').2) != 0) || (((safe_Add x1.To by').2) != 0)) || (!(spans_tick ((safe_Add x1.From by').1)))) || (!(spans_tick ((safe_Add x1.To by').1))))) rfl ?_ ?_ <;> intro hc5
            · replace h := cond_T hc5 h
              apply Runs.then
              refine Runs.regionH 2 rfl H ?_; intro b9 σ H
              refine Ops.assign (v := .nils) rfl rfl ?_
              refine Ops.assign (v := (.v (.int .i64 20))) rfl rfl ?_
              apply Ops.nil
              replace H := H.all
              apply Runs.ret
              replace h := Option.some.inj h; subst h
              exact ⟨nofun, (.inr ⟨_, rfl, rfl, (Ends.H (xs := [.nils, (.v (.int .i64 20))]) (.inr rfl) H (.tmp (v := .nils) rfl (.tmp (v := (.v (.int .i64 20))) rfl .nil)) (.two (.cons (.c .n) (.cons (.c (.v _)) .nil))))⟩)⟩
            · replace h := cond_F hc5 h
              apply Runs.skip
              refine Runs.regionH 7 rfl H ?_; intro b10 σ H
              refine Ops.move (v := w3) rfl rfl ?_
              refine Ops.move (v := (.v (.int .i64 (safe_Add x1.From by').1))) rfl rfl ?_
              refine Ops.move (v := (.v (.int .i64 (safe_Add x1.To by').1))) rfl rfl ?_
              refine Ops.buildA (cs := [(.v (.int .i64 (safe_Add x1.From by').1)), (.v (.int .i64 (safe_Add x1.To by').1))]) rfl rfl ?_
              refine Ops.buildS (sz := 2) ([(Span.mk ((safe_Add x1.From by').1) ((safe_Add x1.To by').1))].map Span.cs) H (by omega) (by omega) rfl rfl rfl rfl rfl rfl rfl rfl rfl ?_; intro σ H
              obtain ⟨x2, q2, h⟩ := bind_some h
              refine Ops.appendSt (c := Span.cs) (v := w3) (w := (.buf (b10 + 4) 1 2)) (xs := s2.2) (ys := [(Span.mk ((safe_Add x1.From by').1) ((safe_Add x1.To by').1))]) H (by omega) (by omega) 1 rfl rfl rfl (.s 0 rfl) q2 rfl rfl rfl rfl rfl nofun rfl ?_; intro w5 σ H
              refine Ops.assign (v := w5) rfl rfl ?_
              apply Ops.nil
              replace H := H.all
              refine Runs.regionH 2 rfl H ?_; intro b11 σ H
              refine Ops.int (m := s2.1) (m' := 1) (r := .int .i64 (w64 (s2.1 + 1))) rfl rfl rfl rfl rfl ?_
              refine Ops.move (v := (.v (.int .i64 (w64 (s2.1 + 1))))) rfl rfl ?_
              apply Ops.nil
              replace H := H.all
              replace h := Option.some.inj h; subst h
              exact ⟨rfl, w5, ⟨rfl, rfl, rfl, rfl, rfl, trivial⟩, (H.erase 0)⟩
    · replace h := cond_F hc1 h
      apply Runs.exit
      replace h := Option.some.inj h; subst h
      exact ⟨nofun, (.inl ⟨_, w3, rfl, rfl, ⟨rfl, trivial⟩, H⟩)⟩
  · rintro x e σ (⟨a2, w6, rfl, rfl, he, H⟩ | ⟨r', rfl, rfl, hE⟩)
    · skip
      replace h := jgo h
      obtain ⟨e, rfl⟩ := he.ex
      apply Runs.then
      refine Runs.regionH 3 rfl H ?_; intro b12 σ H
      refine Ops.move (v := w6) rfl rfl ?_
      refine Ops.assign (v := w6) rfl rfl ?_
      refine Ops.assign (v := (.v (.int .i64 0))) rfl rfl ?_
      apply Ops.nil
      replace H := H.all
      apply Runs.ret
      replace h := Option.some.inj h; subst h
      exact (Ends.H (xs := [w6, (.v (.int .i64 0))]) (.inr rfl) H (.tmp (v := w6) rfl (.tmp (v := (.v (.int .i64 0))) rfl .nil)) (.two (.cons (.c (.s 0 rfl)) (.cons (.c (.v _)) .nil))))
    · skip
      replace h := jret h
      replace h := Option.some.inj h; subst h
      exact hE

set_option maxRecDepth 100000 in
set_option maxHeartbeats 4000000 in
theorem gran_Get_fn {f : Form} {i : Int} {r : (List Span) × Int} (h : gran_Get f i = some r) : Fn CX 16 [(.agg (vs (Form.cs f))), (.v (.int .i64 i))] (.tup [(.v (.sl (r.1.map Span.cs))), (.v (.int .i64 r.2))]) := by
  refine Fn.ends Try.func16 rfl rfl rfl rfl rfl rfl ?_
  have H : Hs (⟨0, fun _ => .none⟩ : Heap) [] := Has.nil (Nat.le_refl _)
  generalize (⟨0, fun _ => .none⟩ : Heap) = σ at H ⊢
  unfold gran_Get at h
  apply Runs.then
  refine Runs.regionH 3 rfl H ?_; intro b1 σ H
  refine Ops.boxH (v := (.agg [(.v (.int .i64 f.Period)), (.v (.int .i64 f.Count)), (.v (.sl (f.Core.map (cL Span.cs)))), (.v (.sl (f.Odd.map Granule.cs)))])) (cs := [(.v (.int .i64 f.Period)), (.v (.int .i64 f.Count)), (.v (.sl (f.Core.map (cL Span.cs)))), (.v (.sl (f.Odd.map Granule.cs)))]) H (by omega) (by omega) rfl rfl rfl ?_; intro σ H
  refine Ops.assign (v := .nils) rfl rfl ?_
  refine Ops.assign (v := (.v (.int .i64 0))) rfl rfl ?_
  apply Ops.nil
  replace H := H.all
  apply Runs.then
  apply Runs.then
  refine Runs.regionH 3 rfl H ?_; intro b2 σ H
  refine Ops.move (v := (.v (.int .i64 i))) rfl rfl ?_
  refine Ops.call (ys := [(.v (.int .i64 i))]) (r := (.v (.bool (gran_inRange i)))) rfl (gran_inRange_fn rfl) rfl ?_
  refine Ops.not (b := (gran_inRange i)) rfl rfl ?_
  apply Ops.nil
  replace H := H.all
  refine Runs.whether (v := (!(gran_inRange i))) rfl ?_ ?_ <;> intro hc1
  · replace h := cond_T hc1 h
    apply Runs.then
    refine Runs.regionH 2 rfl H ?_; intro b3 σ H
    refine Ops.assign (v := .nils) rfl rfl ?_
    refine Ops.assign (v := (.v (.int .i64 20))) rfl rfl ?_
    apply Ops.nil
    replace H := H.all
    apply Runs.ret
    replace h := Option.some.inj h; subst h
    exact (Ends.H (xs := [.nils, (.v (.int .i64 20))]) (.inr rfl) H (.tmp (v := .nils) rfl (.tmp (v := (.v (.int .i64 20))) rfl .nil)) (.two (.cons (.c .n) (.cons (.c (.v _)) .nil))))
  · replace h := cond_F hc1 h
    apply Runs.skip
    apply Runs.then
    refine Runs.regionH 10 rfl H ?_; intro b4 σ H
    refine Ops.loadHA (off := 0) (cs := [(.v (.int .i64 f.Period)), (.v (.int .i64 f.Count)), (.v (.sl (f.Core.map (cL Span.cs)))), (.v (.sl (f.Odd.map Granule.cs)))]) H 0 rfl rfl rfl rfl rfl rfl rfl nofun rfl ?_
    refine Ops.move (v := (.v (.int .i64 i))) rfl rfl ?_
    obtain ⟨x1, q1, h⟩ := bind_some h
    refine Ops.call (ys := [(.agg [(.v (.int .i64 f.Period)), (.v (.int .i64 f.Count)), (.v (.sl (f.Core.map (cL Span.cs)))), (.v (.sl (f.Odd.map Granule.cs)))]), (.v (.int .i64 i))]) (r := (.tup [(.v (.sl (x1.1.map Span.cs))), (.v (.int .i64 x1.2.1)), (.v (.int .i64 x1.2.2))])) rfl (gran_kept_fn q1) rfl ?_
    refine Ops.move (v := (.tup [(.v (.sl (x1.1.map Span.cs))), (.v (.int .i64 x1.2.1)), (.v (.int .i64 x1.2.2))])) rfl rfl ?_
    refine Ops.extract (v := (.v (.sl (x1.1.map Span.cs)))) rfl rfl rfl ?_
    refine Ops.extract (v := (.v (.int .i64 x1.2.1))) rfl rfl rfl ?_
    refine Ops.extract (v := (.v (.int .i64 x1.2.2))) rfl rfl rfl ?_
    refine Ops.assign (v := (.v (.sl (x1.1.map Span.cs)))) rfl rfl ?_
    refine Ops.assign (v := (.v (.int .i64 x1.2.1))) rfl rfl ?_
    refine Ops.assign (v := (.v (.int .i64 x1.2.2))) rfl rfl ?_
    apply Ops.nil
    replace H := H.all
    apply Runs.then
    apply Runs.then
    refine Runs.regionH 3 rfl H ?_; intro b5 σ H
    refine Ops.move (v := (.v (.sl (x1.1.map Span.cs)))) rfl rfl ?_
    refine Ops.lenPt (c := Span.cs) (xs := x1.1) rfl rfl rfl ?_
    refine Ops.int (m := (x1.1.length : Int)) (m' := 0) (r := .bool ((x1.1.length : Int) == 0)) rfl rfl rfl rfl rfl ?_
    apply Ops.nil
    replace H := H.all
    refine Runs.whether (v := ((x1.1.length : Int) == 0)) rfl ?_ ?_ <;> intro hc2
    · replace h := cond_T hc2 h
      apply Runs.then
      refine Runs.regionH 2 rfl H ?_; intro b6 σ H
      refine Ops.assign (v := .nils) rfl rfl ?_
      refine Ops.assign (v := (.v (.int .i64 0))) rfl rfl ?_
      apply Ops.nil
      replace H := H.all
      apply Runs.ret
      replace h := Option.some.inj h; subst h
      exact (Ends.H (xs := [.nils, (.v (.int .i64 0))]) (.inr rfl) H (.tmp (v := .nils) rfl (.tmp (v := (.v (.int .i64 0))) rfl .nil)) (.two (.cons (.c .n) (.cons (.c (.v _)) .nil))))
    · replace h := cond_F hc2 h
      apply Runs.skip
      apply Runs.then
      apply Runs.then
      refine Runs.regionH 2 rfl H ?_; intro b7 σ H
      refine Ops.move (v := (.v (.int .i64 x1.2.2))) rfl rfl ?_
      refine Ops.int (m := x1.2.2) (m' := 0) (r := .bool (x1.2.2 != 0)) rfl rfl rfl rfl rfl ?_
      apply Ops.nil
      replace H := H.all
      refine Runs.whether (v := (x1.2.2 != 0)) rfl ?_ ?_ <;> intro hc3
      · replace h := cond_T hc3 h
        apply Runs.then
        refine Runs.regionH 2 rfl H ?_; intro b8 σ H
        refine Ops.assign (v := .nils) rfl rfl ?_
        refine Ops.assign (v := (.v (.int .i64 20))) rfl rfl ?_
        apply Ops.nil
        replace H := H.all
        apply Runs.ret
        replace h := Option.some.inj h; subst h
        exact (Ends.H (xs := [.nils, (.v (.int .i64 20))]) (.inr rfl) H (.tmp (v := .nils) rfl (.tmp (v := (.v (.int .i64 20))) rfl .nil)) (.two (.cons (.c .n) (.cons (.c (.v _)) .nil))))
      · replace h := cond_F hc3 h
        apply Runs.skip
        apply Runs.then
        refine Runs.regionH 7 rfl H ?_; intro b9 σ H
        refine Ops.move (v := (.v (.sl (x1.1.map Span.cs)))) rfl rfl ?_
        refine Ops.move (v := (.v (.int .i64 x1.2.1))) rfl rfl ?_
        obtain ⟨x2, q2, h⟩ := bind_some h
        refine Ops.call (ys := [(.v (.sl (x1.1.map Span.cs))), (.v (.int .i64 x1.2.1))]) (r := (.tup [(.v (.sl (x2.1.map Span.cs))), (.v (.int .i64 x2.2))])) rfl (spans_Move_fn q2) rfl ?_
        refine Ops.extract (v := (.v (.sl (x2.1.map Span.cs)))) rfl rfl rfl ?_
        refine Ops.extract (v := (.v (.int .i64 x2.2))) rfl rfl rfl ?_
        refine Ops.assign (v := (.v (.sl (x2.1.map Span.cs)))) rfl rfl ?_
        refine Ops.assign (v := (.v (.int .i64 x2.2))) rfl rfl ?_
        apply Ops.nil
        replace H := H.all
        apply Runs.ret
        replace h := Option.some.inj h; subst h
        exact (Ends.H (xs := [(.v (.sl (x2.1.map Span.cs))), (.v (.int .i64 x2.2))]) (.inr rfl) H (.tmp (v := (.v (.sl (x2.1.map Span.cs)))) rfl (.tmp (v := (.v (.int .i64 x2.2))) rfl .nil)) (.two (.cons (.c (.v _)) (.cons (.c (.v _)) .nil))))

set_option maxRecDepth 100000 in
set_option maxHeartbeats 4000000 in
theorem slices_IndexFunc_SSSpan_SSpan_fn {s : (List (List Span))} {f : (List Span) → Option Bool} {C : List Res} {cv0 : PV} (hs0 : cv0.still = true) (hp0 : cv0.pure = true → C = []) (hf0 : ∀ z0 y, f z0 = some y → CloH CX cv0 [(.v (.sl (z0.map Span.cs)))] (.v (.bool y)) C) {r : Int} (h : slices_IndexFunc_SSSpan_SSpan s f = some r) : FnH CX 82 [(.v (.sl (s.map (cL Span.cs)))), cv0] (.v (.int .i64 r)) C := by
  refine FnH.of Try.func82 rfl rfl rfl rfl (all_t rfl (all_t hs0 all_nil)) rfl (fun h => hp0 (all_get h 1 rfl)) ?_
  intro σ L hC H
  unfold slices_IndexFunc_SSSpan_SSpan at h
  apply Runs.then
  refine Runs.regionH 1 rfl H ?_; intro b1 σ H
  refine Ops.assign (v := (.v (.int .i64 0))) rfl rfl ?_
  apply Ops.nil
  replace H := H.all
  apply Runs.then
  apply Runs.then
  refine Runs.regionH 3 rfl H ?_; intro b2 σ H
  refine Ops.move (v := (.v (.sl (s.map (cL Span.cs))))) rfl rfl ?_
  refine Ops.lenPt (c := (cL Span.cs)) (xs := s) rfl rfl rfl ?_
  refine Ops.move (v := (.v (.int .i64 0))) rfl rfl ?_
  apply Ops.nil
  replace H := H.all
  apply Runs.inBlock
  obtain ⟨y1, hj1, h⟩ := bind_some h
  obtain ⟨n1, hj1⟩ := loopO_iff.1 hj1
  refine Runs.mono (Runs.loopO hj1 (fun s1 e σ => EnvHas e [(0, (.v (.sl (s.map (cL Span.cs))))), (1, cv0), (7, (.v (.int .i64 (s.length : Int)))), (8, (.v (.int .i64 s1)))] ∧ Hs σ (L)) (fun y1 x e σ => (∃ a1, y1 = (.go a1) ∧ x = .exit 0 ∧ EnvHas e [] ∧ Hs σ (L)) ∨ (∃ r', y1 = (.ret r') ∧ x = .ret ∧ EndsH CX Try.f82.results.toList (.v (.int .i64 r')) L x e σ)) ⟨⟨rfl, rfl, rfl, rfl, trivial⟩, H⟩ ?_) ?_
  · intro s1 e σ hI z h
    obtain ⟨he, H⟩ := hI
    obtain ⟨e, rfl⟩ := he.ex
    unfold slices_IndexFunc_SSSpan_SSpan.s0 at h
    apply Runs.then
    refine Runs.regionH 1 rfl H ?_; intro b3 σ H
    refine Ops.int (m := s1) (m' := (s.length : Int)) (r := .bool (decide (s1 < (s.length : Int)))) rfl rfl rfl rfl rfl ?_
    apply Ops.nil
    replace H := H.all
    apply Runs.then
    refine Runs.whether (v := (decide (s1 < (s.length : Int)))) rfl ?_ ?_ <;> intro hc1
    · replace h := cond_T hc1 h
      apply Runs.skip
      apply Runs.then
      apply Runs.inBlock
      apply Runs.then
      refine Runs.regionH 2 rfl H ?_; intro b4 σ H
      refine Ops.move (v := (.v (.int .i64 s1))) rfl rfl ?_
      refine Ops.assign (v := (.v (.int .i64 s1))) rfl rfl ?_
      apply Ops.nil
      replace H := H.all
      apply Runs.then
      refine Runs.regionH 6 rfl H ?_; intro b5 σ H
      refine Ops.move (v := cv0) rfl rfl ?_
      refine Ops.move (v := (.v (.sl (s.map (cL Span.cs))))) rfl rfl ?_
      refine Ops.move (v := (.v (.int .i64 s1))) rfl rfl ?_
      obtain ⟨x1, q1, h⟩ := bind_some h
      refine Ops.indexP (c := (cL Span.cs)) (u := x1) rfl rfl q1 rfl rfl rfl rfl ?_
      refine Ops.loadP (u := (.sl (x1.map Span.cs))) rfl rfl rfl rfl ?_
      obtain ⟨x2, q2, h⟩ := bind_some h
      refine Ops.callV (cv := cv0) (ys := [(.v (.sl (x1.map Span.cs)))]) (r := (.v (.bool x2))) H rfl rfl (hf0 x1 _ q2) hC rfl rfl ?_; intro σ H
      apply Ops.nil
      replace H := H.all
      refine Runs.whether (v := x2) rfl ?_ ?_ <;> intro hc2
      · replace h := cond_T hc2 h
        apply Runs.then
        refine Runs.regionH 2 rfl H ?_; intro b6 σ H
        refine Ops.move (v := (.v (.int .i64 s1))) rfl rfl ?_
        refine Ops.assign (v := (.v (.int .i64 s1))) rfl rfl ?_
        apply Ops.nil
        replace H := H.all
        apply Runs.ret
        replace h := Option.some.inj h; subst h
        exact ⟨nofun, (.inr ⟨_, rfl, rfl, (EndsH.H (xs := [(.v (.int .i64 s1))]) (.inr rfl) H (.tmp (v := (.v (.int .i64 s1))) rfl .nil) (.one (.c (.v _))) 0 rfl)⟩)⟩
      · replace h := cond_F hc2 h
        apply Runs.skip
        refine Runs.regionH 2 rfl H ?_; intro b7 σ H
        refine Ops.int (m := s1) (m' := 1) (r := .int .i64 (w64 (s1 + 1))) rfl rfl rfl rfl rfl ?_
        refine Ops.move (v := (.v (.int .i64 (w64 (s1 + 1))))) rfl rfl ?_
        apply Ops.nil
        replace H := H.all
        replace h := Option.some.inj h; subst h
        exact ⟨rfl, ⟨rfl, rfl, rfl, rfl, trivial⟩, H⟩
    · replace h := cond_F hc1 h
      apply Runs.exit
      replace h := Option.some.inj h; subst h
      exact ⟨nofun, (.inl ⟨_, rfl, rfl, trivial, H⟩)⟩
  · rintro x e σ (⟨a2, rfl, rfl, he, H⟩ | ⟨r', rfl, rfl, hE⟩)
    · skip
      replace h := jgo h
      obtain ⟨e, rfl⟩ := he.ex
      apply Runs.then
      refine Runs.regionH 1 rfl H ?_; intro b8 σ H
      refine Ops.assign (v := (.v (.int .i64 (-1)))) rfl rfl ?_
      apply Ops.nil
      replace H := H.all
      apply Runs.ret
      replace h := Option.some.inj h; subst h
      exact (EndsH.H (xs := [(.v (.int .i64 (-1)))]) (.inr rfl) H (.tmp (v := (.v (.int .i64 (-1)))) rfl .nil) (.one (.c (.v _))) 0 rfl)
    · skip
      replace h := jret h
      replace h := Option.some.inj h; subst h
      exact hE

set_option maxRecDepth 100000 in
set_option maxHeartbeats 4000000 in
theorem slices_ContainsFunc_SSSpan_SSpan_fn {s : (List (List Span))} {f : (List Span) → Option Bool} {C : List Res} {cv0 : PV} (hs0 : cv0.still = true) (hp0 : cv0.pure = true → C = []) (hf0 : ∀ z0 y, f z0 = some y → CloH CX cv0 [(.v (.sl (z0.map Span.cs)))] (.v (.bool y)) C) {r : Bool} (h : slices_ContainsFunc_SSSpan_SSpan s f = some r) : FnH CX 71 [(.v (.sl (s.map (cL Span.cs)))), cv0] (.v (.bool r)) C := by
  refine FnH.of Try.func71 rfl rfl rfl rfl (all_t rfl (all_t hs0 all_nil)) rfl (fun h => hp0 (all_get h 1 rfl)) ?_
  intro σ L hC H
  unfold slices_ContainsFunc_SSSpan_SSpan at h
  apply Runs.then
  refine Runs.regionH 1 rfl H ?_; intro b1 σ H
  refine Ops.assign (v := (.v (.bool false))) rfl rfl ?_
  apply Ops.nil
  replace H := H.all
  apply Runs.then
  refine Runs.regionH 5 rfl H ?_; intro b2 σ H
  refine Ops.move (v := (.v (.sl (s.map (cL Span.cs))))) rfl rfl ?_
  refine Ops.move (v := cv0) rfl rfl ?_
  obtain ⟨x1, q1, h⟩ := bind_some h
  refine Ops.callH (ys := [(.v (.sl (s.map (cL Span.cs)))), cv0]) (r := (.v (.int .i64 x1))) H rfl (slices_IndexFunc_SSSpan_SSpan_fn (C := C) hs0 hp0 hf0 q1) hC nofun rfl ?_; intro σ H
  refine Ops.int (m := x1) (m' := 0) (r := .bool (decide (x1 ≥ 0))) rfl rfl rfl rfl rfl ?_
  refine Ops.assign (v := (.v (.bool (decide (x1 ≥ 0))))) rfl rfl ?_
  apply Ops.nil
  replace H := H.all
  apply Runs.ret
  replace h := Option.some.inj h; subst h
  exact (EndsH.H (xs := [(.v (.bool (decide (x1 ≥ 0))))]) (.inr rfl) H (.tmp (v := (.v (.bool (decide (x1 ≥ 0))))) rfl .nil) (.one (.c (.v _))) 0 rfl)

set_option maxRecDepth 100000 in
set_option maxHeartbeats 4000000 in
theorem gran_bare_1_fn {l : (List Span)} {r : Bool} (h : gran_bare_1 l = r) : Fn CX 72 [(.v (.sl (l.map Span.cs)))] (.v (.bool r)) := by
  refine Fn.ends Try.func72 rfl rfl rfl rfl rfl rfl ?_
  have H : Hs (⟨0, fun _ => .none⟩ : Heap) [] := Has.nil (Nat.le_refl _)
  generalize (⟨0, fun _ => .none⟩ : Heap) = σ at H ⊢
  unfold gran_bare_1 at h
  apply Runs.then
  refine Runs.regionH 1 rfl H ?_; intro b1 σ H
  refine Ops.assign (v := (.v (.bool false))) rfl rfl ?_
  apply Ops.nil
  replace H := H.all
  apply Runs.then
  refine Runs.regionH 4 rfl H ?_; intro b2 σ H
  refine Ops.move (v := (.v (.sl (l.map Span.cs)))) rfl rfl ?_
  refine Ops.lenPt (c := Span.cs) (xs := l) rfl rfl rfl ?_
  refine Ops.int (m := (l.length : Int)) (m' := 0) (r := .bool (decide ((l.length : Int) > 0))) rfl rfl rfl rfl rfl ?_
  refine Ops.assign (v := (.v (.bool (decide ((l.length : Int) > 0))))) rfl rfl ?_
  apply Ops.nil
  replace H := H.all
  apply Runs.ret
  subst h
  exact (Ends.H (xs := [(.v (.bool (decide ((l.length : Int) > 0))))]) (.inr rfl) H (.tmp (v := (.v (.bool (decide ((l.length : Int) > 0))))) rfl .nil) (.one (.c (.v _))))

set_option maxRecDepth 100000 in
set_option maxHeartbeats 4000000 in
theorem gran_bare_fn {f : Form} {r : Bool} (h : gran_bare f = some r) : Fn CX 59 [(.agg (vs (Form.cs f)))] (.v (.bool r)) := by
  refine Fn.ends Try.func59 rfl rfl rfl rfl rfl rfl ?_
  have H : Hs (⟨0, fun _ => .none⟩ : Heap) [] := Has.nil (Nat.le_refl _)
  generalize (⟨0, fun _ => .none⟩ : Heap) = σ at H ⊢
  unfold gran_bare at h
  apply Runs.then
  refine Runs.regionH 2 rfl H ?_; intro b1 σ H
  refine Ops.boxH (v := (.agg [(.v (.int .i64 f.Period)), (.v (.int .i64 f.Count)), (.v (.sl (f.Core.map (cL Span.cs)))), (.v (.sl (f.Odd.map Granule.cs)))])) (cs := [(.v (.int .i64 f.Period)), (.v (.int .i64 f.Count)), (.v (.sl (f.Core.map (cL Span.cs)))), (.v (.sl (f.Odd.map Granule.cs)))]) H (by omega) (by omega) rfl rfl rfl ?_; intro σ H
  refine Ops.assign (v := (.v (.bool false))) rfl rfl ?_
  apply Ops.nil
  replace H := H.all
  apply Runs.then
  refine Runs.regionH 5 rfl H ?_; intro b2 σ H
  refine Ops.fieldAddrH (off := 0) (fo := 2) H 0 rfl rfl rfl rfl rfl nofun rfl ?_
  refine Ops.loadH (off := 2) (v := (.v (.sl (f.Core.map (cL Span.cs))))) H 0 rfl rfl rfl rfl rfl nofun rfl ?_
  obtain ⟨x1, q1, h⟩ := bind_some h
  refine Ops.callH (ys := [(.v (.sl (f.Core.map (cL Span.cs)))), (.v (.fn 72))]) (r := (.v (.bool x1))) H rfl (slices_ContainsFunc_SSSpan_SSpan_fn (C := []) rfl (fun _ => rfl) (fun z0 y hz => (CloH.fn (Fn.toH (gran_bare_1_fn (Option.some.inj hz)) _))) q1) .nil nofun rfl ?_; intro σ H
  refine Ops.not (b := x1) rfl rfl ?_
  refine Ops.assign (v := (.v (.bool (!x1)))) rfl rfl ?_
  apply Ops.nil
  replace H := H.all
  apply Runs.ret
  replace h := Option.some.inj h; subst h
  exact (Ends.H (xs := [(.v (.bool (!x1)))]) (.inr rfl) H (.tmp (v := (.v (.bool (!x1)))) rfl .nil) (.one (.c (.v _))))

set_option maxRecDepth 100000 in
set_option maxHeartbeats 4000000 in
theorem gran_some_fn {f : Form} {i : Int} {r : Bool} (h : gran_some f i = some r) : Fn CX 61 [(.agg (vs (Form.cs f))), (.v (.int .i64 i))] (.v (.bool r)) := by
  refine Fn.ends Try.func61 rfl rfl rfl rfl rfl rfl ?_
  have H : Hs (⟨0, fun _ => .none⟩ : Heap) [] := Has.nil (Nat.le_refl _)
  generalize (⟨0, fun _ => .none⟩ : Heap) = σ at H ⊢
  unfold gran_some at h
  apply Runs.then
  refine Runs.regionH 2 rfl H ?_; intro b1 σ H
  refine Ops.boxH (v := (.agg [(.v (.int .i64 f.Period)), (.v (.int .i64 f.Count)), (.v (.sl (f.Core.map (cL Span.cs)))), (.v (.sl (f.Odd.map Granule.cs)))])) (cs := [(.v (.int .i64 f.Period)), (.v (.int .i64 f.Count)), (.v (.sl (f.Core.map (cL Span.cs)))), (.v (.sl (f.Odd.map Granule.cs)))]) H (by omega) (by omega) rfl rfl rfl ?_; intro σ H
  refine Ops.assign (v := (.v (.bool false))) rfl rfl ?_
  apply Ops.nil
  replace H := H.all
  apply Runs.then
  refine Runs.regionH 10 rfl H ?_; intro b2 σ H
  refine Ops.loadHA (off := 0) (cs := [(.v (.int .i64 f.Period)), (.v (.int .i64 f.Count)), (.v (.sl (f.Core.map (cL Span.cs)))), (.v (.sl (f.Odd.map Granule.cs)))]) H 0 rfl rfl rfl rfl rfl rfl rfl nofun rfl ?_
  refine Ops.move (v := (.v (.int .i64 i))) rfl rfl ?_
  obtain ⟨x1, q1, h⟩ := bind_some h
  refine Ops.call (ys := [(.agg [(.v (.int .i64 f.Period)), (.v (.int .i64 f.Count)), (.v (.sl (f.Core.map (cL Span.cs)))), (.v (.sl (f.Odd.map Granule.cs)))]), (.v (.int .i64 i))]) (r := (.tup [(.v (.sl (x1.1.map Span.cs))), (.v (.int .i64 x1.2.1)), (.v (.int .i64 x1.2.2))])) rfl (gran_kept_fn q1) rfl ?_
  refine Ops.move (v := (.tup [(.v (.sl (x1.1.map Span.cs))), (.v (.int .i64 x1.2.1)), (.v (.int .i64 x1.2.2))])) rfl rfl ?_
  refine Ops.extract (v := (.v (.sl (x1.1.map Span.cs)))) rfl rfl rfl ?_
  refine Ops.extract (v := (.v (.int .i64 x1.2.1))) rfl rfl rfl ?_
  refine Ops.extract (v := (.v (.int .i64 x1.2.2))) rfl rfl rfl ?_
  refine Ops.assign (v := (.v (.sl (x1.1.map Span.cs)))) rfl rfl ?_
  refine Ops.assign (v := (.v (.int .i64 x1.2.1))) rfl rfl ?_
  refine Ops.assign (v := (.v (.int .i64 x1.2.2))) rfl rfl ?_
  apply Ops.nil
  replace H := H.all
  apply Runs.then
  refine Runs.regionH 4 rfl H ?_; intro b3 σ H
  refine Ops.move (v := (.v (.sl (x1.1.map Span.cs)))) rfl rfl ?_
  refine Ops.lenPt (c := Span.cs) (xs := x1.1) rfl rfl rfl ?_
  refine Ops.int (m := (x1.1.length : Int)) (m' := 0) (r := .bool (decide ((x1.1.length : Int) > 0))) rfl rfl rfl rfl rfl ?_
  refine Ops.assign (v := (.v (.bool (decide ((x1.1.length : Int) > 0))))) rfl rfl ?_
  apply Ops.nil
  replace H := H.all
  apply Runs.ret
  replace h := Option.some.inj h; subst h
  exact (Ends.H (xs := [(.v (.bool (decide ((x1.1.length : Int) > 0))))]) (.inr rfl) H (.tmp (v := (.v (.bool (decide ((x1.1.length : Int) > 0))))) rfl .nil) (.one (.c (.v _))))

set_option maxRecDepth 100000 in
set_option maxHeartbeats 4000000 in
theorem gran_step_fn {f : Form} {from' : Int} {by' : Int} {r : Int × Bool} (h : gran_step f from' by' = some r) : Fn CX 38 [(.agg (vs (Form.cs f))), (.v (.int .i64 from')), (.v (.int .i64 by'))] (.tup [(.v (.int .i64 r.1)), (.v (.bool r.2))]) := by
  refine Fn.ends Try.func38 rfl rfl rfl rfl rfl rfl ?_
  have H : Hs (⟨0, fun _ => .none⟩ : Heap) [] := Has.nil (Nat.le_refl _)
  generalize (⟨0, fun _ => .none⟩ : Heap) = σ at H ⊢
  unfold gran_step at h
  apply Runs.then
  refine Runs.regionH 3 rfl H ?_; intro b1 σ H
  refine Ops.boxH (v := (.agg [(.v (.int .i64 f.Period)), (.v (.int .i64 f.Count)), (.v (.sl (f.Core.map (cL Span.cs)))), (.v (.sl (f.Odd.map Granule.cs)))])) (cs := [(.v (.int .i64 f.Period)), (.v (.int .i64 f.Count)), (.v (.sl (f.Core.map (cL Span.cs)))), (.v (.sl (f.Odd.map Granule.cs)))]) H (by omega) (by omega) rfl rfl rfl ?_; intro σ H
  refine Ops.assign (v := (.v (.int .i64 0))) rfl rfl ?_
  refine Ops.assign (v := (.v (.bool false))) rfl rfl ?_
  apply Ops.nil
  replace H := H.all
  apply Runs.then
  apply Runs.then
  refine Runs.regionH 2 rfl H ?_; intro b2 σ H
  refine Ops.loadHA (off := 0) (cs := [(.v (.int .i64 f.Period)), (.v (.int .i64 f.Count)), (.v (.sl (f.Core.map (cL Span.cs)))), (.v (.sl (f.Odd.map Granule.cs)))]) H 0 rfl rfl rfl rfl rfl rfl rfl nofun rfl ?_
  obtain ⟨x1, q1, h⟩ := bind_some h
  refine Ops.call (ys := [(.agg [(.v (.int .i64 f.Period)), (.v (.int .i64 f.Count)), (.v (.sl (f.Core.map (cL Span.cs)))), (.v (.sl (f.Odd.map Granule.cs)))])]) (r := (.v (.bool x1))) rfl (gran_bare_fn q1) rfl ?_
  apply Ops.nil
  replace H := H.all
  refine Runs.whether (v := x1) rfl ?_ ?_ <;> intro hc1
  · replace h := cond_T hc1 h
    apply Runs.then
    refine Runs.regionH 8 rfl H ?_; intro b3 σ H
    refine Ops.loadHA (off := 0) (cs := [(.v (.int .i64 f.Period)), (.v (.int .i64 f.Count)), (.v (.sl (f.Core.map (cL Span.cs)))), (.v (.sl (f.Odd.map Granule.cs)))]) H 0 rfl rfl rfl rfl rfl rfl rfl nofun rfl ?_
    refine Ops.move (v := (.v (.int .i64 from'))) rfl rfl ?_
    obtain ⟨x2, q2, h⟩ := bind_some h
    refine Ops.call (ys := [(.agg [(.v (.int .i64 f.Period)), (.v (.int .i64 f.Count)), (.v (.sl (f.Core.map (cL Span.cs)))), (.v (.sl (f.Odd.map Granule.cs)))]), (.v (.int .i64 from'))]) (r := (.tup [(.v (.int .i64 x2.1)), (.v (.bool x2.2))])) rfl (gran_odd_fn q2) rfl ?_
    refine Ops.move (v := (.tup [(.v (.int .i64 x2.1)), (.v (.bool x2.2))])) rfl rfl ?_
    refine Ops.extract (v := (.v (.int .i64 x2.1))) rfl rfl rfl ?_
    refine Ops.extract (v := (.v (.bool x2.2))) rfl rfl rfl ?_
    refine Ops.assign (v := (.v (.int .i64 x2.1))) rfl rfl ?_
    refine Ops.assign (v := (.v (.bool x2.2))) rfl rfl ?_
    apply Ops.nil
    replace H := H.all
    apply Runs.then
    obtain ⟨y1, hj1, h⟩ := bind_some h
    refine Runs.mono (Q := fun x e σ => x = .normal ∧ EnvHas e [(2, (.v (.int .i64 by'))), (3, (.ptr (b1 + 0) 4 0)), (8, (.v (.int .i64 y1)))] ∧ Hs σ [.blk (b1 + 0) 25 [(.v (.int .i64 f.Period)), (.v (.int .i64 f.Count)), (.v (.sl (f.Core.map (cL Span.cs)))), (.v (.sl (f.Odd.map Granule.cs)))]]) ?_ ?_
    · replace h := hj1
      apply Runs.then
      refine Runs.regionH 6 rfl H ?_; intro b4 σ H
      refine Ops.move (v := (.v (.int .i64 by'))) rfl rfl ?_
      refine Ops.int (m := by') (m' := 0) (r := .bool (decide (by' < 0))) rfl rfl rfl rfl rfl ?_
      refine Ops.move (v := (.v (.bool (decide (by' < 0))))) rfl rfl ?_
      refine Ops.mid 3 (K1 := fun e σ => EnvHas e [(24, (.v (.bool ((decide (by' < 0)) && (!x2.2))))), (2, (.v (.int .i64 by'))), (3, (.ptr (b1 + 0) 4 0)), (8, (.v (.int .i64 x2.1)))] ∧ Has σ (b4 + 6) (b4 + 6) [.blk (b1 + 0) 25 [(.v (.int .i64 f.Period)), (.v (.int .i64 f.Count)), (.v (.sl (f.Core.map (cL Span.cs)))), (.v (.sl (f.Odd.map Granule.cs)))]]) rfl ?_ ?_
      · refine Ops.split rfl rfl ?_ ?_ <;> intro hc2
        · skip
          refine Ops.wanted rfl rfl ?_
          refine Ops.move (v := (.v (.bool x2.2))) rfl rfl ?_
          refine Ops.wanted rfl rfl ?_
          refine Ops.not (b := x2.2) rfl rfl ?_
          refine Ops.pickT (v := (.v (.bool (!x2.2)))) rfl rfl rfl ?_
          apply Ops.nil
          exact ⟨⟨and_T hc2, rfl, rfl, rfl, trivial⟩, H.weak (by omega) (Nat.le_refl _)⟩
        · skip
          refine Ops.pass rfl rfl rfl ?_
          refine Ops.pass rfl rfl rfl ?_
          refine Ops.pickF (v := (.v (.bool false))) rfl rfl rfl ?_
          apply Ops.nil
          exact ⟨⟨and_F hc2, rfl, rfl, rfl, trivial⟩, H.weak (by omega) (Nat.le_refl _)⟩
      · rintro e σ ⟨he, H⟩
        obtain ⟨e, rfl⟩ := he.ex
        apply Ops.nil
        replace H := H.all
        refine Runs.whether (v := ((decide (by' < 0)) && (!x2.2))) rfl ?_ ?_ <;> intro hc3
        · replace h := cond_T hc3 h
          refine Runs.regionH 3 rfl H ?_; intro b5 σ H
          refine Ops.move (v := (.v (.int .i64 x2.1))) rfl rfl ?_
          refine Ops.int (m := x2.1) (m' := 1) (r := .int .i64 (w64 (x2.1 - 1))) rfl rfl rfl rfl rfl ?_
          refine Ops.assign (v := (.v (.int .i64 (w64 (x2.1 - 1))))) rfl rfl ?_
          apply Ops.nil
          replace H := H.all
          replace h := Option.some.inj h; subst h
          exact ⟨rfl, ⟨rfl, rfl, rfl, trivial⟩, H⟩
        · replace h := cond_F hc3 h
          apply Runs.skip
          replace h := Option.some.inj h; subst h
          exact ⟨rfl, ⟨rfl, rfl, rfl, trivial⟩, H⟩
    · rintro x e σ ⟨rfl, he, H⟩
      obtain ⟨e, rfl⟩ := he.ex
      apply Runs.then
      apply Runs.inBlock
      obtain ⟨y2, hj2, h⟩ := bind_some h
      obtain ⟨n1, hj2⟩ := loopO_iff.1 hj2
      refine Runs.mono (Runs.loopO hj2 (fun s1 e σ => EnvHas e [(2, (.v (.int .i64 by'))), (3, (.ptr (b1 + 0) 4 0)), (8, (.v (.int .i64 s1)))] ∧ Hs σ [.blk (b1 + 0) 25 [(.v (.int .i64 f.Period)), (.v (.int .i64 f.Count)), (.v (.sl (f.Core.map (cL Span.cs)))), (.v (.sl (f.Odd.map Granule.cs)))]]) (fun y2 x e σ => (∃ a1, y2 = (.go a1) ∧ x = .exit 0 ∧ EnvHas e [] ∧ Hs σ []) ∨ (∃ r', y2 = (.ret r') ∧ x = .ret ∧ Ends CX Try.f38.results.toList (.tup [(.v (.int .i64 r'.1)), (.v (.bool r'.2))]) x e σ)) ⟨⟨rfl, rfl, rfl, trivial⟩, H⟩ ?_) ?_
      · intro s1 e σ hI z h
        obtain ⟨he, H⟩ := hI
        obtain ⟨e, rfl⟩ := he.ex
        unfold gran_step.s0 at h
        apply Runs.then
        apply Runs.then
        refine Runs.regionH 9 rfl H ?_; intro b6 σ H
        refine Ops.move (v := (.v (.int .i64 s1))) rfl rfl ?_
        refine Ops.int (m := s1) (m' := 0) (r := .bool (decide (s1 ≥ 0))) rfl rfl rfl rfl rfl ?_
        refine Ops.move (v := (.v (.bool (decide (s1 ≥ 0))))) rfl rfl ?_
        refine Ops.mid 6 (K1 := fun e σ => EnvHas e [(35, (.v (.bool ((decide (s1 ≥ 0)) && (decide (s1 < (f.Odd.length : Int))))))), (2, (.v (.int .i64 by'))), (3, (.ptr (b1 + 0) 4 0)), (8, (.v (.int .i64 s1)))] ∧ Has σ (b6 + 9) (b6 + 9) [.blk (b1 + 0) 25 [(.v (.int .i64 f.Period)), (.v (.int .i64 f.Count)), (.v (.sl (f.Core.map (cL Span.cs)))), (.v (.sl (f.Odd.map Granule.cs)))]]) rfl ?_ ?_
        · refine Ops.split rfl rfl ?_ ?_ <;> intro hc4
          · skip
            refine Ops.wanted rfl rfl ?_
            refine Ops.move (v := (.v (.int .i64 s1))) rfl rfl ?_
            refine Ops.wanted rfl rfl ?_
            refine Ops.fieldAddrH (off := 0) (fo := 3) H 0 rfl rfl rfl rfl rfl nofun rfl ?_
            refine Ops.wanted rfl rfl ?_
            refine Ops.loadH (off := 3) (v := (.v (.sl (f.Odd.map Granule.cs)))) H 0 rfl rfl rfl rfl rfl nofun rfl ?_
            refine Ops.wanted rfl rfl ?_
            refine Ops.lenPt (c := Granule.cs) (xs := f.Odd) rfl rfl rfl ?_
            refine Ops.wanted rfl rfl ?_
            refine Ops.int (m := s1) (m' := (f.Odd.length : Int)) (r := .bool (decide (s1 < (f.Odd.length : Int)))) rfl rfl rfl rfl rfl ?_
            refine Ops.pickT (v := (.v (.bool (decide (s1 < (f.Odd.length : Int)))))) rfl rfl rfl ?_
            apply Ops.nil
            exact ⟨⟨and_T hc4, rfl, rfl, rfl, trivial⟩, H.weak (by omega) (Nat.le_refl _)⟩
          · skip
            refine Ops.pass rfl rfl rfl ?_
            refine Ops.pass rfl rfl rfl ?_
            refine Ops.pass rfl rfl rfl ?_
            refine Ops.pass rfl rfl rfl ?_
            refine Ops.pass rfl rfl rfl ?_
            refine Ops.pickF (v := (.v (.bool false))) rfl rfl rfl ?_
            apply Ops.nil
            exact ⟨⟨and_F hc4, rfl, rfl, rfl, trivial⟩, H.weak (by omega) (Nat.le_refl _)⟩
        · rintro e σ ⟨he, H⟩
          obtain ⟨e, rfl⟩ := he.ex
          apply Ops.nil
          replace H := H.all
          refine Runs.whether (v := ((decide (s1 ≥ 0)) && (decide (s1 < (f.Odd.length : Int))))) rfl ?_ ?_ <;> intro hc5
          · replace h := cond_T hc5 h
            apply Runs.skip
            apply Runs.then
            apply Runs.inBlock
            apply Runs.then
            refine Runs.regionH 8 rfl H ?_; intro b7 σ H
            refine Ops.fieldAddrH (off := 0) (fo := 3) H 0 rfl rfl rfl rfl rfl nofun rfl ?_
            refine Ops.loadH (off := 3) (v := (.v (.sl (f.Odd.map Granule.cs)))) H 0 rfl rfl rfl rfl rfl nofun rfl ?_
            refine Ops.move (v := (.v (.int .i64 s1))) rfl rfl ?_
            obtain ⟨x3, q3, h⟩ := bind_some h
            refine Ops.indexP (c := Granule.cs) (u := x3) rfl rfl q3 rfl rfl rfl rfl ?_
            refine Ops.fieldAddrP rfl rfl rfl rfl ?_
            refine Ops.loadP (u := (.sl (x3.Ticks.map Span.cs))) rfl rfl rfl rfl ?_
            refine Ops.lenPt (c := Span.cs) (xs := x3.Ticks) rfl rfl rfl ?_
            refine Ops.int (m := (x3.Ticks.length : Int)) (m' := 0) (r := .bool (decide ((x3.Ticks.length : Int) > 0))) rfl rfl rfl rfl rfl ?_
            apply Ops.nil
            replace H := H.all
            refine Runs.whether (v := (decide ((x3.Ticks.length : Int) > 0))) rfl ?_ ?_ <;> intro hc6
            · replace h := cond_T hc6 h
              apply Runs.then
              refine Runs.regionH 8 rfl H ?_; intro b8 σ H
              refine Ops.fieldAddrH (off := 0) (fo := 3) H 0 rfl rfl rfl rfl rfl nofun rfl ?_
              refine Ops.loadH (off := 3) (v := (.v (.sl (f.Odd.map Granule.cs)))) H 0 rfl rfl rfl rfl rfl nofun rfl ?_
              refine Ops.move (v := (.v (.int .i64 s1))) rfl rfl ?_
              obtain ⟨x4, q4, h⟩ := bind_some h
              refine Ops.indexP (c := Granule.cs) (u := x4) rfl rfl q4 rfl rfl rfl rfl ?_
              refine Ops.fieldAddrP rfl rfl rfl rfl ?_
              refine Ops.loadP (u := (.int .i64 x4.Index)) rfl rfl rfl rfl ?_
              refine Ops.assign (v := (.v (.int .i64 x4.Index))) rfl rfl ?_
              refine Ops.assign (v := (.v (.bool true))) rfl rfl ?_
              apply Ops.nil
              replace H := H.all
              apply Runs.ret
              replace h := Option.some.inj h; subst h
              exact ⟨nofun, (.inr ⟨_, rfl, rfl, (Ends.H (xs := [(.v (.int .i64 x4.Index)), (.v (.bool true))]) (.inr rfl) H (.tmp (v := (.v (.int .i64 x4.Index))) rfl (.tmp (v := (.v (.bool true))) rfl .nil)) (.two (.cons (.c (.v _)) (.cons (.c (.v _)) .nil))))⟩)⟩
            · replace h := cond_F hc6 h
              apply Runs.skip
              refine Runs.regionH 4 rfl H ?_; intro b9 σ H
              refine Ops.move (v := (.v (.int .i64 s1))) rfl rfl ?_
              refine Ops.move (v := (.v (.int .i64 by'))) rfl rfl ?_
              refine Ops.int (m := s1) (m' := by') (r := .int .i64 (w64 (s1 + by'))) rfl rfl rfl rfl rfl ?_
              refine Ops.assign (v := (.v (.int .i64 (w64 (s1 + by'))))) rfl rfl ?_
              apply Ops.nil
              replace H := H.all
              replace h := Option.some.inj h; subst h
              exact ⟨rfl, ⟨rfl, rfl, rfl, trivial⟩, H⟩
          · replace h := cond_F hc5 h
            apply Runs.exit
            replace h := Option.some.inj h; subst h
            exact ⟨nofun, (.inl ⟨_, rfl, rfl, trivial, (H.erase 0)⟩)⟩
      · rintro x e σ (⟨a2, rfl, rfl, he, H⟩ | ⟨r', rfl, rfl, hE⟩)
        · skip
          replace h := jgo h
          obtain ⟨e, rfl⟩ := he.ex
          apply Runs.then
          refine Runs.regionH 2 rfl H ?_; intro b10 σ H
          refine Ops.assign (v := (.v (.int .i64 0))) rfl rfl ?_
          refine Ops.assign (v := (.v (.bool false))) rfl rfl ?_
          apply Ops.nil
          replace H := H.all
          apply Runs.ret
          replace h := Option.some.inj h; subst h
          exact (Ends.H (xs := [(.v (.int .i64 0)), (.v (.bool false))]) (.inr rfl) H (.tmp (v := (.v (.int .i64 0))) rfl (.tmp (v := (.v (.bool false))) rfl .nil)) (.two (.cons (.c (.v _)) (.cons (.c (.v _)) .nil))))
        · skip
          replace h := jret h
          replace h := Option.some.inj h; subst h
          exact hE
  · replace h := cond_F hc1 h
    apply Runs.skip
    apply Runs.then
    apply Runs.then
    refine Runs.regionH 2 rfl H ?_; intro b11 σ H
    refine Ops.move (v := (.v (.int .i64 from'))) rfl rfl ?_
    refine Ops.assign (v := (.v (.int .i64 from'))) rfl rfl ?_
    apply Ops.nil
    replace H := H.all
    apply Runs.inBlock
    obtain ⟨y3, hj3, h⟩ := bind_some h
    obtain ⟨n2, hj3⟩ := loopO_iff.1 hj3
    refine Runs.mono (Runs.loopO hj3 (fun s2 e σ => EnvHas e [(2, (.v (.int .i64 by'))), (3, (.ptr (b1 + 0) 4 0)), (10, (.v (.int .i64 s2)))] ∧ Hs σ [.blk (b1 + 0) 25 [(.v (.int .i64 f.Period)), (.v (.int .i64 f.Count)), (.v (.sl (f.Core.map (cL Span.cs)))), (.v (.sl (f.Odd.map Granule.cs)))]]) (fun y3 x e σ => (∃ a3, y3 = (.go a3) ∧ x = .exit 2 ∧ EnvHas e [] ∧ Hs σ []) ∨ (∃ r', y3 = (.ret r') ∧ x = .ret ∧ Ends CX Try.f38.results.toList (.tup [(.v (.int .i64 r'.1)), (.v (.bool r'.2))]) x e σ)) ⟨⟨rfl, rfl, rfl, trivial⟩, H⟩ ?_) ?_
    · intro s2 e σ hI z h
      obtain ⟨he, H⟩ := hI
      obtain ⟨e, rfl⟩ := he.ex
      unfold gran_step.s1 at h
      apply Runs.then
      apply Runs.then
      refine Runs.regionH 2 rfl H ?_; intro b12 σ H
      refine Ops.move (v := (.v (.int .i64 s2))) rfl rfl ?_
      refine Ops.call (ys := [(.v (.int .i64 s2))]) (r := (.v (.bool (gran_inRange s2)))) rfl (gran_inRange_fn rfl) rfl ?_
      apply Ops.nil
      replace H := H.all
      refine Runs.whether (v := (gran_inRange s2)) rfl ?_ ?_ <;> intro hc7
      · replace h := cond_T hc7 h
        apply Runs.skip
        apply Runs.then
        apply Runs.inBlock
        apply Runs.then
        refine Runs.regionH 3 rfl H ?_; intro b13 σ H
        refine Ops.loadHA (off := 0) (cs := [(.v (.int .i64 f.Period)), (.v (.int .i64 f.Count)), (.v (.sl (f.Core.map (cL Span.cs)))), (.v (.sl (f.Odd.map Granule.cs)))]) H 0 rfl rfl rfl rfl rfl rfl rfl nofun rfl ?_
        refine Ops.move (v := (.v (.int .i64 s2))) rfl rfl ?_
        obtain ⟨x5, q5, h⟩ := bind_some h
        refine Ops.call (ys := [(.agg [(.v (.int .i64 f.Period)), (.v (.int .i64 f.Count)), (.v (.sl (f.Core.map (cL Span.cs)))), (.v (.sl (f.Odd.map Granule.cs)))]), (.v (.int .i64 s2))]) (r := (.v (.bool x5))) rfl (gran_some_fn q5) rfl ?_
        apply Ops.nil
        replace H := H.all
        refine Runs.whether (v := x5) rfl ?_ ?_ <;> intro hc8
        · replace h := cond_T hc8 h
          apply Runs.then
          refine Runs.regionH 3 rfl H ?_; intro b14 σ H
          refine Ops.move (v := (.v (.int .i64 s2))) rfl rfl ?_
          refine Ops.assign (v := (.v (.int .i64 s2))) rfl rfl ?_
          refine Ops.assign (v := (.v (.bool true))) rfl rfl ?_
          apply Ops.nil
          replace H := H.all
          apply Runs.ret
          replace h := Option.some.inj h; subst h
          exact ⟨nofun, (.inr ⟨_, rfl, rfl, (Ends.H (xs := [(.v (.int .i64 s2)), (.v (.bool true))]) (.inr rfl) H (.tmp (v := (.v (.int .i64 s2))) rfl (.tmp (v := (.v (.bool true))) rfl .nil)) (.two (.cons (.c (.v _)) (.cons (.c (.v _)) .nil))))⟩)⟩
        · replace h := cond_F hc8 h
          apply Runs.skip
          refine Runs.regionH 4 rfl H ?_; intro b15 σ H
          refine Ops.move (v := (.v (.int .i64 s2))) rfl rfl ?_
          refine Ops.move (v := (.v (.int .i64 by'))) rfl rfl ?_
          refine Ops.int (m := s2) (m' := by') (r := .int .i64 (w64 (s2 + by'))) rfl rfl rfl rfl rfl ?_
          refine Ops.assign (v := (.v (.int .i64 (w64 (s2 + by'))))) rfl rfl ?_
          apply Ops.nil
          replace H := H.all
          replace h := Option.some.inj h; subst h
          exact ⟨rfl, ⟨rfl, rfl, rfl, trivial⟩, H⟩
      · replace h := cond_F hc7 h
        apply Runs.exit
        replace h := Option.some.inj h; subst h
        exact ⟨nofun, (.inl ⟨_, rfl, rfl, trivial, (H.erase 0)⟩)⟩
    · rintro x e σ (⟨a4, rfl, rfl, he, H⟩ | ⟨r', rfl, rfl, hE⟩)
      · skip
        replace h := jgo h
        obtain ⟨e, rfl⟩ := he.ex
        apply Runs.then
        refine Runs.regionH 2 rfl H ?_; intro b16 σ H
        refine Ops.assign (v := (.v (.int .i64 0))) rfl rfl ?_
        refine Ops.assign (v := (.v (.bool false))) rfl rfl ?_
        apply Ops.nil
        replace H := H.all
        apply Runs.ret
        replace h := Option.some.inj h; subst h
        exact (Ends.H (xs := [(.v (.int .i64 0)), (.v (.bool false))]) (.inr rfl) H (.tmp (v := (.v (.int .i64 0))) rfl (.tmp (v := (.v (.bool false))) rfl .nil)) (.two (.cons (.c (.v _)) (.cons (.c (.v _)) .nil))))
      · skip
        replace h := jret h
        replace h := Option.some.inj h; subst h
        exact hE

set_option maxRecDepth 100000 in
set_option maxHeartbeats 4000000 in
theorem gran_Before_fn {f : Form} {i : Int} {r : Int × Bool} (h : gran_Before f i = some r) : Fn CX 15 [(.agg (vs (Form.cs f))), (.v (.int .i64 i))] (.tup [(.v (.int .i64 r.1)), (.v (.bool r.2))]) := by
  refine Fn.ends Try.func15 rfl rfl rfl rfl rfl rfl ?_
  have H : Hs (⟨0, fun _ => .none⟩ : Heap) [] := Has.nil (Nat.le_refl _)
  generalize (⟨0, fun _ => .none⟩ : Heap) = σ at H ⊢
  unfold gran_Before at h
  apply Runs.then
  refine Runs.regionH 3 rfl H ?_; intro b1 σ H
  refine Ops.boxH (v := (.agg [(.v (.int .i64 f.Period)), (.v (.int .i64 f.Count)), (.v (.sl (f.Core.map (cL Span.cs)))), (.v (.sl (f.Odd.map Granule.cs)))])) (cs := [(.v (.int .i64 f.Period)), (.v (.int .i64 f.Count)), (.v (.sl (f.Core.map (cL Span.cs)))), (.v (.sl (f.Odd.map Granule.cs)))]) H (by omega) (by omega) rfl rfl rfl ?_; intro σ H
  refine Ops.assign (v := (.v (.int .i64 0))) rfl rfl ?_
  refine Ops.assign (v := (.v (.bool false))) rfl rfl ?_
  apply Ops.nil
  replace H := H.all
  apply Runs.then
  apply Runs.then
  refine Runs.regionH 2 rfl H ?_; intro b2 σ H
  refine Ops.move (v := (.v (.int .i64 i))) rfl rfl ?_
  refine Ops.int (m := i) (m' := (-1099511627776)) (r := .bool (decide (i ≤ (-1099511627776)))) rfl rfl rfl rfl rfl ?_
  apply Ops.nil
  replace H := H.all
  refine Runs.whether (v := (decide (i ≤ (-1099511627776)))) rfl ?_ ?_ <;> intro hc1
  · replace h := cond_T hc1 h
    apply Runs.then
    refine Runs.regionH 2 rfl H ?_; intro b3 σ H
    refine Ops.assign (v := (.v (.int .i64 0))) rfl rfl ?_
    refine Ops.assign (v := (.v (.bool false))) rfl rfl ?_
    apply Ops.nil
    replace H := H.all
    apply Runs.ret
    replace h := Option.some.inj h; subst h
    exact (Ends.H (xs := [(.v (.int .i64 0)), (.v (.bool false))]) (.inr rfl) H (.tmp (v := (.v (.int .i64 0))) rfl (.tmp (v := (.v (.bool false))) rfl .nil)) (.two (.cons (.c (.v _)) (.cons (.c (.v _)) .nil))))
  · replace h := cond_F hc1 h
    apply Runs.skip
    apply Runs.then
    refine Runs.regionH 9 rfl H ?_; intro b4 σ H
    refine Ops.loadHA (off := 0) (cs := [(.v (.int .i64 f.Period)), (.v (.int .i64 f.Count)), (.v (.sl (f.Core.map (cL Span.cs)))), (.v (.sl (f.Odd.map Granule.cs)))]) H 0 rfl rfl rfl rfl rfl rfl rfl nofun rfl ?_
    refine Ops.move (v := (.v (.int .i64 i))) rfl rfl ?_
    refine Ops.int (m := i) (m' := 1) (r := .int .i64 (w64 (i - 1))) rfl rfl rfl rfl rfl ?_
    refine Ops.min2 rfl rfl rfl ?_
    obtain ⟨x1, q1, h⟩ := bind_some h
    refine Ops.call (ys := [(.agg [(.v (.int .i64 f.Period)), (.v (.int .i64 f.Count)), (.v (.sl (f.Core.map (cL Span.cs)))), (.v (.sl (f.Odd.map Granule.cs)))]), (.v (.int .i64 (iMin (w64 (i - 1)) 1099511627776))), (.v (.int .i64 (-1)))]) (r := (.tup [(.v (.int .i64 x1.1)), (.v (.bool x1.2))])) rfl (gran_step_fn q1) rfl ?_
    refine Ops.extract (v := (.v (.int .i64 x1.1))) rfl rfl rfl ?_
    refine Ops.extract (v := (.v (.bool x1.2))) rfl rfl rfl ?_
    refine Ops.assign (v := (.v (.int .i64 x1.1))) rfl rfl ?_
    refine Ops.assign (v := (.v (.bool x1.2))) rfl rfl ?_
    apply Ops.nil
    replace H := H.all
    apply Runs.ret
    replace h := Option.some.inj h; subst h
    exact (Ends.H (xs := [(.v (.int .i64 x1.1)), (.v (.bool x1.2))]) (.inr rfl) H (.tmp (v := (.v (.int .i64 x1.1))) rfl (.tmp (v := (.v (.bool x1.2))) rfl .nil)) (.two (.cons (.c (.v _)) (.cons (.c (.v _)) .nil))))

set_option maxRecDepth 100000 in
set_option maxHeartbeats 4000000 in
theorem gran_Behind_fn {f : Form} {i : Int} {r : Int × Bool} (h : gran_Behind f i = some r) : Fn CX 14 [(.agg (vs (Form.cs f))), (.v (.int .i64 i))] (.tup [(.v (.int .i64 r.1)), (.v (.bool r.2))]) := by
  refine Fn.ends Try.func14 rfl rfl rfl rfl rfl rfl ?_
  have H : Hs (⟨0, fun _ => .none⟩ : Heap) [] := Has.nil (Nat.le_refl _)
  generalize (⟨0, fun _ => .none⟩ : Heap) = σ at H ⊢
  unfold gran_Behind at h
  apply Runs.then
  refine Runs.regionH 3 rfl H ?_; intro b1 σ H
  refine Ops.boxH (v := (.agg [(.v (.int .i64 f.Period)), (.v (.int .i64 f.Count)), (.v (.sl (f.Core.map (cL Span.cs)))), (.v (.sl (f.Odd.map Granule.cs)))])) (cs := [(.v (.int .i64 f.Period)), (.v (.int .i64 f.Count)), (.v (.sl (f.Core.map (cL Span.cs)))), (.v (.sl (f.Odd.map Granule.cs)))]) H (by omega) (by omega) rfl rfl rfl ?_; intro σ H
  refine Ops.assign (v := (.v (.int .i64 0))) rfl rfl ?_
  refine Ops.assign (v := (.v (.bool false))) rfl rfl ?_
  apply Ops.nil
  replace H := H.all
  apply Runs.then
  apply Runs.then
  refine Runs.regionH 2 rfl H ?_; intro b2 σ H
  refine Ops.move (v := (.v (.int .i64 i))) rfl rfl ?_
  refine Ops.int (m := i) (m' := 1099511627776) (r := .bool (decide (i ≥ 1099511627776))) rfl rfl rfl rfl rfl ?_
  apply Ops.nil
  replace H := H.all
  refine Runs.whether (v := (decide (i ≥ 1099511627776))) rfl ?_ ?_ <;> intro hc1
  · replace h := cond_T hc1 h
    apply Runs.then
    refine Runs.regionH 2 rfl H ?_; intro b3 σ H
    refine Ops.assign (v := (.v (.int .i64 0))) rfl rfl ?_
    refine Ops.assign (v := (.v (.bool false))) rfl rfl ?_
    apply Ops.nil
    replace H := H.all
    apply Runs.ret
    replace h := Option.some.inj h; subst h
    exact (Ends.H (xs := [(.v (.int .i64 0)), (.v (.bool false))]) (.inr rfl) H (.tmp (v := (.v (.int .i64 0))) rfl (.tmp (v := (.v (.bool false))) rfl .nil)) (.two (.cons (.c (.v _)) (.cons (.c (.v _)) .nil))))
  · replace h := cond_F hc1 h
    apply Runs.skip
    apply Runs.then
    refine Runs.regionH 9 rfl H ?_; intro b4 σ H
    refine Ops.loadHA (off := 0) (cs := [(.v (.int .i64 f.Period)), (.v (.int .i64 f.Count)), (.v (.sl (f.Core.map (cL Span.cs)))), (.v (.sl (f.Odd.map Granule.cs)))]) H 0 rfl rfl rfl rfl rfl rfl rfl nofun rfl ?_
    refine Ops.move (v := (.v (.int .i64 i))) rfl rfl ?_
    refine Ops.int (m := i) (m' := 1) (r := .int .i64 (w64 (i + 1))) rfl rfl rfl rfl rfl ?_
    refine Ops.max2 rfl rfl rfl ?_
    obtain ⟨x1, q1, h⟩ := bind_some h
    refine Ops.call (ys := [(.agg [(.v (.int .i64 f.Period)), (.v (.int .i64 f.Count)), (.v (.sl (f.Core.map (cL Span.cs)))), (.v (.sl (f.Odd.map Granule.cs)))]), (.v (.int .i64 (iMax (w64 (i + 1)) (-1099511627776)))), (.v (.int .i64 1))]) (r := (.tup [(.v (.int .i64 x1.1)), (.v (.bool x1.2))])) rfl (gran_step_fn q1) rfl ?_
    refine Ops.extract (v := (.v (.int .i64 x1.1))) rfl rfl rfl ?_
    refine Ops.extract (v := (.v (.bool x1.2))) rfl rfl rfl ?_
    refine Ops.assign (v := (.v (.int .i64 x1.1))) rfl rfl ?_
    refine Ops.assign (v := (.v (.bool x1.2))) rfl rfl ?_
    apply Ops.nil
    replace H := H.all
    apply Runs.ret
    replace h := Option.some.inj h; subst h
    exact (Ends.H (xs := [(.v (.int .i64 x1.1)), (.v (.bool x1.2))]) (.inr rfl) H (.tmp (v := (.v (.int .i64 x1.1))) rfl (.tmp (v := (.v (.bool x1.2))) rfl .nil)) (.two (.cons (.c (.v _)) (.cons (.c (.v _)) .nil))))

set_option maxRecDepth 100000 in
set_option maxHeartbeats 4000000 in
theorem spans_Ahead_fn {a : (List Span)} {b : (List Span)} {r : Bool} (h : spans_Ahead a b = some r) : Fn CX 19 [(.v (.sl (a.map Span.cs))), (.v (.sl (b.map Span.cs)))] (.v (.bool r)) := by
  refine Fn.ends Try.func19 rfl rfl rfl rfl rfl rfl ?_
  have H : Hs (⟨0, fun _ => .none⟩ : Heap) [] := Has.nil (Nat.le_refl _)
  generalize (⟨0, fun _ => .none⟩ : Heap) = σ at H ⊢
  unfold spans_Ahead at h
  apply Runs.then
  refine Runs.regionH 1 rfl H ?_; intro b1 σ H
  refine Ops.assign (v := (.v (.bool false))) rfl rfl ?_
  apply Ops.nil
  replace H := H.all
  apply Runs.then
  refine Runs.drawnH 23 rfl (by kernel_rfl) H ?_; intro b2 σ H B2
  refine Ops.move (v := (.v (.sl (a.map Span.cs)))) rfl rfl ?_
  refine Ops.lenPt (c := Span.cs) (xs := a) rfl rfl rfl ?_
  refine Ops.int (m := (a.length : Int)) (m' := 0) (r := .bool ((a.length : Int) == 0)) rfl rfl rfl rfl rfl ?_
  refine Ops.move (v := (.v (.bool ((a.length : Int) == 0)))) rfl rfl ?_
  refine Ops.mid 4 (K1 := fun e σ => EnvHas e [(12, (.v (.bool (((a.length : Int) == 0) || ((b.length : Int) == 0))))), (0, (.v (.sl (a.map Span.cs)))), (1, (.v (.sl (b.map Span.cs))))] ∧ Has σ (b2 + 8) (b2 + 23) []) rfl ?_ ?_
  · refine Ops.split rfl rfl ?_ ?_ <;> intro hc1
    · skip
      refine Ops.pass rfl rfl rfl ?_
      refine Ops.pass rfl rfl rfl ?_
      refine Ops.pass rfl rfl rfl ?_
      refine Ops.pickT (v := (.v (.bool true))) rfl rfl rfl ?_
      apply Ops.nil
      exact ⟨⟨or_T hc1, rfl, rfl, trivial⟩, H.weak (by omega) (Nat.le_refl _)⟩
    · skip
      refine Ops.wanted rfl rfl ?_
      refine Ops.move (v := (.v (.sl (b.map Span.cs)))) rfl rfl ?_
      refine Ops.wanted rfl rfl ?_
      refine Ops.lenPt (c := Span.cs) (xs := b) rfl rfl rfl ?_
      refine Ops.wanted rfl rfl ?_
      refine Ops.int (m := (b.length : Int)) (m' := 0) (r := .bool ((b.length : Int) == 0)) rfl rfl rfl rfl rfl ?_
      refine Ops.pickF (v := (.v (.bool ((b.length : Int) == 0)))) rfl rfl rfl ?_
      apply Ops.nil
      exact ⟨⟨or_F hc1, rfl, rfl, trivial⟩, H.weak (by omega) (Nat.le_refl _)⟩
  · rintro e σ ⟨he, H⟩
    obtain ⟨e, rfl⟩ := he.ex
    refine Ops.move (v := (.v (.bool (((a.length : Int) == 0) || ((b.length : Int) == 0))))) rfl rfl ?_
    obtain ⟨y1, hj1, h⟩ := bind_some h
    refine Ops.mid 13 (K1 := fun e σ => EnvHas e [(26, (.v (.bool y1)))] ∧ Has σ (b2 + 22) (b2 + 23) []) rfl ?_ ?_
    · refine Ops.split rfl rfl ?_ ?_ <;> intro hc2
      · replace h := cond_T hc2 hj1
        refine Ops.pass rfl rfl rfl ?_
        refine Ops.pass rfl rfl rfl ?_
        refine Ops.pass rfl rfl rfl ?_
        refine Ops.pass rfl rfl rfl ?_
        refine Ops.pass rfl rfl rfl ?_
        refine Ops.pass rfl rfl rfl ?_
        refine Ops.pass rfl rfl rfl ?_
        refine Ops.pass rfl rfl rfl ?_
        refine Ops.pass rfl rfl rfl ?_
        refine Ops.pass rfl rfl rfl ?_
        refine Ops.pass rfl rfl rfl ?_
        refine Ops.pass rfl rfl rfl ?_
        refine Ops.pickT (v := (.v (.bool true))) rfl rfl rfl ?_
        apply Ops.nil
        replace h := Option.some.inj h; subst h
        exact ⟨⟨rfl, trivial⟩, H.weak (by omega) (Nat.le_refl _)⟩
      · replace h := cond_F hc2 hj1
        refine Ops.wanted rfl rfl ?_
        refine Ops.move (v := (.v (.sl (a.map Span.cs)))) rfl rfl ?_
        refine Ops.wanted rfl rfl ?_
        refine Ops.move (v := (.v (.sl (a.map Span.cs)))) rfl rfl ?_
        refine Ops.wanted rfl rfl ?_
        refine Ops.lenPt (c := Span.cs) (xs := a) rfl rfl rfl ?_
        refine Ops.wanted rfl rfl ?_
        refine Ops.int (m := (a.length : Int)) (m' := 1) (r := .int .i64 (w64 ((a.length : Int) - 1))) rfl rfl rfl rfl rfl ?_
        refine Ops.wanted rfl rfl ?_
        obtain ⟨x1, q1, h⟩ := bind_some h
        refine Ops.indexP (c := Span.cs) (u := x1) rfl rfl q1 rfl rfl rfl rfl ?_
        refine Ops.wanted rfl rfl ?_
        refine Ops.fieldAddrP rfl rfl rfl rfl ?_
        refine Ops.wanted rfl rfl ?_
        refine Ops.loadP (u := (.int .i64 x1.To)) rfl rfl rfl rfl ?_
        refine Ops.wanted rfl rfl ?_
        refine Ops.move (v := (.v (.sl (b.map Span.cs)))) rfl rfl ?_
        refine Ops.wanted rfl rfl ?_
        obtain ⟨x2, q2, h⟩ := bind_some h
        refine Ops.indexP (c := Span.cs) (u := x2) rfl rfl q2 rfl rfl rfl rfl ?_
        refine Ops.wanted rfl rfl ?_
        refine Ops.fieldAddrP rfl rfl rfl rfl ?_
        refine Ops.wanted rfl rfl ?_
        refine Ops.loadP (u := (.int .i64 x2.From)) rfl rfl rfl rfl ?_
        refine Ops.wanted rfl rfl ?_
        refine Ops.int (m := x1.To) (m' := x2.From) (r := .bool (decide (x1.To < x2.From))) rfl rfl rfl rfl rfl ?_
        refine Ops.pickF (v := (.v (.bool (decide (x1.To < x2.From))))) rfl rfl rfl ?_
        apply Ops.nil
        replace h := Option.some.inj h; subst h
        exact ⟨⟨rfl, trivial⟩, H.weak (by omega) (Nat.le_refl _)⟩
    · rintro e σ ⟨he, H⟩
      obtain ⟨e, rfl⟩ := he.ex
      refine Ops.assign (v := (.v (.bool y1))) rfl rfl ?_
      apply Ops.nil
      replace H := H.all
      apply Runs.ret
      replace h := Option.some.inj h; subst h
      exact (Ends.H (xs := [(.v (.bool y1))]) (.inr rfl) H (.tmp (v := (.v (.bool y1))) rfl .nil) (.one (.c (.v _))))

set_option maxRecDepth 100000 in
set_option maxHeartbeats 4000000 in
theorem gran_beside_fn {f : Form} {i : Int} {r : Bool} (h : gran_beside f i = some r) : Fn CX 58 [(.agg (vs (Form.cs f))), (.v (.int .i64 i))] (.v (.bool r)) := by
  refine Fn.ends Try.func58 rfl rfl rfl rfl rfl rfl ?_
  have H : Hs (⟨0, fun _ => .none⟩ : Heap) [] := Has.nil (Nat.le_refl _)
  generalize (⟨0, fun _ => .none⟩ : Heap) = σ at H ⊢
  unfold gran_beside at h
  apply Runs.then
  refine Runs.regionH 2 rfl H ?_; intro b1 σ H
  refine Ops.boxH (v := (.agg [(.v (.int .i64 f.Period)), (.v (.int .i64 f.Count)), (.v (.sl (f.Core.map (cL Span.cs)))), (.v (.sl (f.Odd.map Granule.cs)))])) (cs := [(.v (.int .i64 f.Period)), (.v (.int .i64 f.Count)), (.v (.sl (f.Core.map (cL Span.cs)))), (.v (.sl (f.Odd.map Granule.cs)))]) H (by omega) (by omega) rfl rfl rfl ?_; intro σ H
  refine Ops.assign (v := (.v (.bool false))) rfl rfl ?_
  apply Ops.nil
  replace H := H.all
  apply Runs.then
  refine Runs.regionH 8 rfl H ?_; intro b2 σ H
  refine Ops.loadHA (off := 0) (cs := [(.v (.int .i64 f.Period)), (.v (.int .i64 f.Count)), (.v (.sl (f.Core.map (cL Span.cs)))), (.v (.sl (f.Odd.map Granule.cs)))]) H 0 rfl rfl rfl rfl rfl rfl rfl nofun rfl ?_
  refine Ops.move (v := (.v (.int .i64 i))) rfl rfl ?_
  obtain ⟨x1, q1, h⟩ := bind_some h
  refine Ops.call (ys := [(.agg [(.v (.int .i64 f.Period)), (.v (.int .i64 f.Count)), (.v (.sl (f.Core.map (cL Span.cs)))), (.v (.sl (f.Odd.map Granule.cs)))]), (.v (.int .i64 i))]) (r := (.tup [(.v (.sl (x1.1.map Span.cs))), (.v (.int .i64 x1.2))])) rfl (gran_Get_fn q1) rfl ?_
  refine Ops.move (v := (.tup [(.v (.sl (x1.1.map Span.cs))), (.v (.int .i64 x1.2))])) rfl rfl ?_
  refine Ops.extract (v := (.v (.sl (x1.1.map Span.cs)))) rfl rfl rfl ?_
  refine Ops.extract (v := (.v (.int .i64 x1.2))) rfl rfl rfl ?_
  refine Ops.assign (v := (.v (.sl (x1.1.map Span.cs)))) rfl rfl ?_
  refine Ops.assign (v := (.v (.int .i64 x1.2))) rfl rfl ?_
  apply Ops.nil
  replace H := H.all
  apply Runs.then
  apply Runs.then
  refine Runs.regionH 2 rfl H ?_; intro b3 σ H
  refine Ops.move (v := (.v (.int .i64 x1.2))) rfl rfl ?_
  refine Ops.int (m := x1.2) (m' := 0) (r := .bool (x1.2 != 0)) rfl rfl rfl rfl rfl ?_
  apply Ops.nil
  replace H := H.all
  refine Runs.whether (v := (x1.2 != 0)) rfl ?_ ?_ <;> intro hc1
  · replace h := cond_T hc1 h
    apply Runs.then
    refine Runs.regionH 1 rfl H ?_; intro b4 σ H
    refine Ops.assign (v := (.v (.bool false))) rfl rfl ?_
    apply Ops.nil
    replace H := H.all
    apply Runs.ret
    replace h := Option.some.inj h; subst h
    exact (Ends.H (xs := [(.v (.bool false))]) (.inr rfl) H (.tmp (v := (.v (.bool false))) rfl .nil) (.one (.c (.v _))))
  · replace h := cond_F hc1 h
    apply Runs.skip
    apply Runs.then
    refine Runs.regionH 8 rfl H ?_; intro b5 σ H
    refine Ops.loadHA (off := 0) (cs := [(.v (.int .i64 f.Period)), (.v (.int .i64 f.Count)), (.v (.sl (f.Core.map (cL Span.cs)))), (.v (.sl (f.Odd.map Granule.cs)))]) H 0 rfl rfl rfl rfl rfl rfl rfl nofun rfl ?_
    refine Ops.move (v := (.v (.int .i64 i))) rfl rfl ?_
    obtain ⟨x2, q2, h⟩ := bind_some h
    refine Ops.call (ys := [(.agg [(.v (.int .i64 f.Period)), (.v (.int .i64 f.Count)), (.v (.sl (f.Core.map (cL Span.cs)))), (.v (.sl (f.Odd.map Granule.cs)))]), (.v (.int .i64 i))]) (r := (.tup [(.v (.int .i64 x2.1)), (.v (.bool x2.2))])) rfl (gran_Before_fn q2) rfl ?_
    refine Ops.move (v := (.tup [(.v (.int .i64 x2.1)), (.v (.bool x2.2))])) rfl rfl ?_
    refine Ops.extract (v := (.v (.int .i64 x2.1))) rfl rfl rfl ?_
    refine Ops.extract (v := (.v (.bool x2.2))) rfl rfl rfl ?_
    refine Ops.assign (v := (.v (.int .i64 x2.1))) rfl rfl ?_
    refine Ops.assign (v := (.v (.bool x2.2))) rfl rfl ?_
    apply Ops.nil
    replace H := H.all
    apply Runs.then
    refine Runs.regionH 8 rfl H ?_; intro b6 σ H
    refine Ops.loadHA (off := 0) (cs := [(.v (.int .i64 f.Period)), (.v (.int .i64 f.Count)), (.v (.sl (f.Core.map (cL Span.cs)))), (.v (.sl (f.Odd.map Granule.cs)))]) H 0 rfl rfl rfl rfl rfl rfl rfl nofun rfl ?_
    refine Ops.move (v := (.v (.int .i64 i))) rfl rfl ?_
    obtain ⟨x3, q3, h⟩ := bind_some h
    refine Ops.call (ys := [(.agg [(.v (.int .i64 f.Period)), (.v (.int .i64 f.Count)), (.v (.sl (f.Core.map (cL Span.cs)))), (.v (.sl (f.Odd.map Granule.cs)))]), (.v (.int .i64 i))]) (r := (.tup [(.v (.int .i64 x3.1)), (.v (.bool x3.2))])) rfl (gran_Behind_fn q3) rfl ?_
    refine Ops.move (v := (.tup [(.v (.int .i64 x3.1)), (.v (.bool x3.2))])) rfl rfl ?_
    refine Ops.extract (v := (.v (.int .i64 x3.1))) rfl rfl rfl ?_
    refine Ops.extract (v := (.v (.bool x3.2))) rfl rfl rfl ?_
    refine Ops.assign (v := (.v (.int .i64 x3.1))) rfl rfl ?_
    refine Ops.assign (v := (.v (.bool x3.2))) rfl rfl ?_
    apply Ops.nil
    replace H := H.all
    apply Runs.then
    refine Runs.regionH 2 rfl H ?_; intro b7 σ H
    refine Ops.assign (v := .nils) rfl rfl ?_
    refine Ops.assign (v := .nils) rfl rfl ?_
    apply Ops.nil
    replace H := H.all
    apply Runs.then
    obtain ⟨y1, hj1, h⟩ := bind_some h
    refine Runs.mono (Q := fun x e σ => (∃ a1, ∃ (w1 : PV), RO w1 (a1.map Span.cs) ∧ y1 = (.go a1) ∧ x = .normal ∧ EnvHas e [(2, (.ptr (b1 + 0) 4 0)), (5, (.v (.sl (x1.1.map Span.cs)))), (9, (.v (.int .i64 x3.1))), (10, (.v (.bool x3.2))), (11, w1), (12, .nils)] ∧ Hs σ [.blk (b1 + 0) 25 [(.v (.int .i64 f.Period)), (.v (.int .i64 f.Count)), (.v (.sl (f.Core.map (cL Span.cs)))), (.v (.sl (f.Odd.map Granule.cs)))]]) ∨ (∃ r', y1 = (.ret r') ∧ x = .ret ∧ Ends CX Try.f58.results.toList (.v (.bool r')) x e σ)) ?_ ?_
    · replace h := hj1
      apply Runs.then
      refine Runs.regionH 1 rfl H ?_; intro b8 σ H
      refine Ops.move (v := (.v (.bool x2.2))) rfl rfl ?_
      apply Ops.nil
      replace H := H.all
      refine Runs.whether (v := x2.2) rfl ?_ ?_ <;> intro hc2
      · replace h := cond_T hc2 h
        apply Runs.then
        refine Runs.regionH 8 rfl H ?_; intro b9 σ H
        refine Ops.loadHA (off := 0) (cs := [(.v (.int .i64 f.Period)), (.v (.int .i64 f.Count)), (.v (.sl (f.Core.map (cL Span.cs)))), (.v (.sl (f.Odd.map Granule.cs)))]) H 0 rfl rfl rfl rfl rfl rfl rfl nofun rfl ?_
        refine Ops.move (v := (.v (.int .i64 x2.1))) rfl rfl ?_
        obtain ⟨x4, q4, h⟩ := bind_some h
        refine Ops.call (ys := [(.agg [(.v (.int .i64 f.Period)), (.v (.int .i64 f.Count)), (.v (.sl (f.Core.map (cL Span.cs)))), (.v (.sl (f.Odd.map Granule.cs)))]), (.v (.int .i64 x2.1))]) (r := (.tup [(.v (.sl (x4.1.map Span.cs))), (.v (.int .i64 x4.2))])) rfl (gran_Get_fn q4) rfl ?_
        refine Ops.move (v := (.tup [(.v (.sl (x4.1.map Span.cs))), (.v (.int .i64 x4.2))])) rfl rfl ?_
        refine Ops.extract (v := (.v (.sl (x4.1.map Span.cs)))) rfl rfl rfl ?_
        refine Ops.extract (v := (.v (.int .i64 x4.2))) rfl rfl rfl ?_
        refine Ops.assign (v := (.v (.sl (x4.1.map Span.cs)))) rfl rfl ?_
        refine Ops.assign (v := (.v (.int .i64 x4.2))) rfl rfl ?_
        apply Ops.nil
        replace H := H.all
        apply Runs.then
        refine Runs.regionH 2 rfl H ?_; intro b10 σ H
        refine Ops.move (v := (.v (.int .i64 x4.2))) rfl rfl ?_
        refine Ops.int (m := x4.2) (m' := 0) (r := .bool (x4.2 != 0)) rfl rfl rfl rfl rfl ?_
        apply Ops.nil
        replace H := H.all
        refine Runs.whether (v := (x4.2 != 0)) rfl ?_ ?_ <;> intro hc3
        · replace h := cond_T hc3 h
          apply Runs.then
          refine Runs.regionH 1 rfl H ?_; intro b11 σ H
          refine Ops.assign (v := (.v (.bool false))) rfl rfl ?_
          apply Ops.nil
          replace H := H.all
          apply Runs.ret
          replace h := Option.some.inj h; subst h
          exact (.inr ⟨_, rfl, rfl, (Ends.H (xs := [(.v (.bool false))]) (.inr rfl) H (.tmp (v := (.v (.bool false))) rfl .nil) (.one (.c (.v _))))⟩)
        · replace h := cond_F hc3 h
          apply Runs.skip
          replace h := Option.some.inj h; subst h
          exact (.inl ⟨_, (.v (.sl (x4.1.map Span.cs))), .inr rfl, rfl, rfl, ⟨rfl, rfl, rfl, rfl, rfl, rfl, trivial⟩, H⟩)
      · replace h := cond_F hc2 h
        apply Runs.skip
        replace h := Option.some.inj h; subst h
        exact (.inl ⟨_, .nils, .inl ⟨rfl, rfl⟩, rfl, rfl, ⟨rfl, rfl, rfl, rfl, rfl, rfl, trivial⟩, H⟩)
    · rintro x e σ (⟨a2, w2, hw2, rfl, rfl, he, H⟩ | ⟨r', rfl, rfl, hE⟩)
      · skip
        replace h := jgo h
        obtain ⟨e, rfl⟩ := he.ex
        apply Runs.then
        obtain ⟨y2, hj2, h⟩ := bind_some h
        refine Runs.mono (Q := fun x e σ => (∃ a3, ∃ (w3 : PV), RO w3 (a3.map Span.cs) ∧ y2 = (.go a3) ∧ x = .normal ∧ EnvHas e [(5, (.v (.sl (x1.1.map Span.cs)))), (11, w2), (12, w3)] ∧ Hs σ []) ∨ (∃ r', y2 = (.ret r') ∧ x = .ret ∧ Ends CX Try.f58.results.toList (.v (.bool r')) x e σ)) ?_ ?_
        · replace h := hj2
          apply Runs.then
          refine Runs.regionH 1 rfl H ?_; intro b12 σ H
          refine Ops.move (v := (.v (.bool x3.2))) rfl rfl ?_
          apply Ops.nil
          replace H := H.all
          refine Runs.whether (v := x3.2) rfl ?_ ?_ <;> intro hc4
          · replace h := cond_T hc4 h
            apply Runs.then
            refine Runs.regionH 8 rfl H ?_; intro b13 σ H
            refine Ops.loadHA (off := 0) (cs := [(.v (.int .i64 f.Period)), (.v (.int .i64 f.Count)), (.v (.sl (f.Core.map (cL Span.cs)))), (.v (.sl (f.Odd.map Granule.cs)))]) H 0 rfl rfl rfl rfl rfl rfl rfl nofun rfl ?_
            refine Ops.move (v := (.v (.int .i64 x3.1))) rfl rfl ?_
            obtain ⟨x5, q5, h⟩ := bind_some h
            refine Ops.call (ys := [(.agg [(.v (.int .i64 f.Period)), (.v (.int .i64 f.Count)), (.v (.sl (f.Core.map (cL Span.cs)))), (.v (.sl (f.Odd.map Granule.cs)))]), (.v (.int .i64 x3.1))]) (r := (.tup [(.v (.sl (x5.1.map Span.cs))), (.v (.int .i64 x5.2))])) rfl (gran_Get_fn q5) rfl ?_
            refine Ops.move (v := (.tup [(.v (.sl (x5.1.map Span.cs))), (.v (.int .i64 x5.2))])) rfl rfl ?_
            refine Ops.extract (v := (.v (.sl (x5.1.map Span.cs)))) rfl rfl rfl ?_
            refine Ops.extract (v := (.v (.int .i64 x5.2))) rfl rfl rfl ?_
            refine Ops.assign (v := (.v (.sl (x5.1.map Span.cs)))) rfl rfl ?_
            refine Ops.assign (v := (.v (.int .i64 x5.2))) rfl rfl ?_
            apply Ops.nil
            replace H := H.all
            apply Runs.then
            refine Runs.regionH 2 rfl H ?_; intro b14 σ H
            refine Ops.move (v := (.v (.int .i64 x5.2))) rfl rfl ?_
            refine Ops.int (m := x5.2) (m' := 0) (r := .bool (x5.2 != 0)) rfl rfl rfl rfl rfl ?_
            apply Ops.nil
            replace H := H.all
            refine Runs.whether (v := (x5.2 != 0)) rfl ?_ ?_ <;> intro hc5
            · replace h := cond_T hc5 h
              apply Runs.then
              refine Runs.regionH 1 rfl H ?_; intro b15 σ H
              refine Ops.assign (v := (.v (.bool false))) rfl rfl ?_
              apply Ops.nil
              replace H := H.all
              apply Runs.ret
              replace h := Option.some.inj h; subst h
              exact (.inr ⟨_, rfl, rfl, (Ends.H (xs := [(.v (.bool false))]) (.inr rfl) H (.tmp (v := (.v (.bool false))) rfl .nil) (.one (.c (.v _))))⟩)
            · replace h := cond_F hc5 h
              apply Runs.skip
              replace h := Option.some.inj h; subst h
              exact (.inl ⟨_, (.v (.sl (x5.1.map Span.cs))), .inr rfl, rfl, rfl, ⟨rfl, rfl, rfl, trivial⟩, (H.erase 0)⟩)
          · replace h := cond_F hc4 h
            apply Runs.skip
            replace h := Option.some.inj h; subst h
            exact (.inl ⟨_, .nils, .inl ⟨rfl, rfl⟩, rfl, rfl, ⟨rfl, rfl, rfl, trivial⟩, (H.erase 0)⟩)
        · rintro x e σ (⟨a4, w4, hw4, rfl, rfl, he, H⟩ | ⟨r', rfl, rfl, hE⟩)
          · skip
            replace h := jgo h
            obtain ⟨e, rfl⟩ := he.ex
            apply Runs.then
            refine Runs.regionH 14 rfl H ?_; intro b16 σ H
            refine Ops.move (v := w2) rfl rfl ?_
            refine Ops.move (v := (.v (.sl (x1.1.map Span.cs)))) rfl rfl ?_
            obtain ⟨x6, q6, h⟩ := bind_some h
            refine Ops.callX (xs := [w2, (.v (.sl (x1.1.map Span.cs)))]) (ys := [(.v (.sl (a2.map Span.cs))), (.v (.sl (x1.1.map Span.cs)))]) H rfl (.cons (.c (.ro hw2)) (.cons (.c (.v _)) .nil)) (spans_Ahead_fn q6) rfl rfl rfl rfl ?_; intro σ H
            refine Ops.move (v := (.v (.bool x6))) rfl rfl ?_
            obtain ⟨y3, hj3, h⟩ := bind_some h
            refine Ops.mid 4 (K1 := fun e σ => EnvHas e [(58, (.v (.bool y3))), (11, w2), (12, w4)] ∧ Has σ (b16 + 8) (b16 + 14) []) rfl ?_ ?_
            · refine Ops.split rfl rfl ?_ ?_ <;> intro hc6
              · replace h := cond_T hc6 hj3
                refine Ops.wanted rfl rfl ?_
                refine Ops.move (v := (.v (.sl (x1.1.map Span.cs)))) rfl rfl ?_
                refine Ops.wanted rfl rfl ?_
                refine Ops.move (v := w4) rfl rfl ?_
                refine Ops.wanted rfl rfl ?_
                obtain ⟨x7, q7, h⟩ := bind_some h
                refine Ops.callX (xs := [(.v (.sl (x1.1.map Span.cs))), w4]) (ys := [(.v (.sl (x1.1.map Span.cs))), (.v (.sl (a4.map Span.cs)))]) H rfl (.cons (.c (.v _)) (.cons (.c (.ro hw4)) .nil)) (spans_Ahead_fn q7) rfl rfl rfl rfl ?_; intro σ H
                refine Ops.pickT (v := (.v (.bool x7))) rfl rfl rfl ?_
                apply Ops.nil
                replace h := Option.some.inj h; subst h
                exact ⟨⟨rfl, rfl, rfl, trivial⟩, H.weak (by omega) (Nat.le_refl _)⟩
              · replace h := cond_F hc6 hj3
                refine Ops.pass rfl rfl rfl ?_
                refine Ops.pass rfl rfl rfl ?_
                refine Ops.pass rfl rfl rfl ?_
                refine Ops.pickF (v := (.v (.bool false))) rfl rfl rfl ?_
                apply Ops.nil
                replace h := Option.some.inj h; subst h
                exact ⟨⟨rfl, rfl, rfl, trivial⟩, H.weak (by omega) (Nat.le_refl _)⟩
            · rintro e σ ⟨he, H⟩
              obtain ⟨e, rfl⟩ := he.ex
              refine Ops.move (v := (.v (.bool y3))) rfl rfl ?_
              obtain ⟨y4, hj4, h⟩ := bind_some h
              refine Ops.mid 4 (K1 := fun e σ => EnvHas e [(63, (.v (.bool y4)))] ∧ Has σ (b16 + 13) (b16 + 14) []) rfl ?_ ?_
              · refine Ops.split rfl rfl ?_ ?_ <;> intro hc7
                · replace h := cond_T hc7 hj4
                  refine Ops.wanted rfl rfl ?_
                  refine Ops.move (v := w2) rfl rfl ?_
                  refine Ops.wanted rfl rfl ?_
                  refine Ops.move (v := w4) rfl rfl ?_
                  refine Ops.wanted rfl rfl ?_
                  obtain ⟨x8, q8, h⟩ := bind_some h
                  refine Ops.callX (xs := [w2, w4]) (ys := [(.v (.sl (a2.map Span.cs))), (.v (.sl (a4.map Span.cs)))]) H rfl (.cons (.c (.ro hw2)) (.cons (.c (.ro hw4)) .nil)) (spans_Ahead_fn q8) rfl rfl rfl rfl ?_; intro σ H
                  refine Ops.pickT (v := (.v (.bool x8))) rfl rfl rfl ?_
                  apply Ops.nil
                  replace h := Option.some.inj h; subst h
                  exact ⟨⟨rfl, trivial⟩, H.weak (by omega) (Nat.le_refl _)⟩
                · replace h := cond_F hc7 hj4
                  refine Ops.pass rfl rfl rfl ?_
                  refine Ops.pass rfl rfl rfl ?_
                  refine Ops.pass rfl rfl rfl ?_
                  refine Ops.pickF (v := (.v (.bool false))) rfl rfl rfl ?_
                  apply Ops.nil
                  replace h := Option.some.inj h; subst h
                  exact ⟨⟨rfl, trivial⟩, H.weak (by omega) (Nat.le_refl _)⟩
              · rintro e σ ⟨he, H⟩
                obtain ⟨e, rfl⟩ := he.ex
                refine Ops.assign (v := (.v (.bool y4))) rfl rfl ?_
                apply Ops.nil
                replace H := H.all
                apply Runs.ret
                replace h := Option.some.inj h; subst h
                exact (Ends.H (xs := [(.v (.bool y4))]) (.inr rfl) H (.tmp (v := (.v (.bool y4))) rfl .nil) (.one (.c (.v _))))
          · skip
            replace h := jret h
            replace h := Option.some.inj h; subst h
            exact hE
      · skip
        replace h := jret h
        replace h := Option.some.inj h; subst h
        exact hE

set_option maxRecDepth 100000 in
set_option maxHeartbeats 4000000 in
theorem gran_Right_fn {f : Form} {r : Int} (h : gran_Right f = some r) : Fn CX 32 [(.agg (vs (Form.cs f)))] (.v (.int .i64 r)) := by
  refine Fn.ends Try.func32 rfl rfl rfl rfl rfl rfl ?_
  have H : Hs (⟨0, fun _ => .none⟩ : Heap) [] := Has.nil (Nat.le_refl _)
  generalize (⟨0, fun _ => .none⟩ : Heap) = σ at H ⊢
  unfold gran_Right at h
  apply Runs.then
  refine Runs.regionH 2 rfl H ?_; intro b1 σ H
  refine Ops.boxH (v := (.agg [(.v (.int .i64 f.Period)), (.v (.int .i64 f.Count)), (.v (.sl (f.Core.map (cL Span.cs)))), (.v (.sl (f.Odd.map Granule.cs)))])) (cs := [(.v (.int .i64 f.Period)), (.v (.int .i64 f.Count)), (.v (.sl (f.Core.map (cL Span.cs)))), (.v (.sl (f.Odd.map Granule.cs)))]) H (by omega) (by omega) rfl rfl rfl ?_; intro σ H
  refine Ops.assign (v := (.v (.int .i64 0))) rfl rfl ?_
  apply Ops.nil
  replace H := H.all
  apply Runs.then
  apply Runs.then
  refine Runs.regionH 15 rfl H ?_; intro b2 σ H
  refine Ops.fieldAddrH (off := 0) (fo := 2) H 0 rfl rfl rfl rfl rfl nofun rfl ?_
  refine Ops.loadH (off := 2) (v := (.v (.sl (f.Core.map (cL Span.cs))))) H 0 rfl rfl rfl rfl rfl nofun rfl ?_
  refine Ops.lenPt (c := (cL Span.cs)) (xs := f.Core) rfl rfl rfl ?_
  refine Ops.int (m := (f.Core.length : Int)) (m' := 6000) (r := .bool (decide ((f.Core.length : Int) > 6000))) rfl rfl rfl rfl rfl ?_
  refine Ops.move (v := (.v (.bool (decide ((f.Core.length : Int) > 6000))))) rfl rfl ?_
  refine Ops.mid 5 (K1 := fun e σ => EnvHas e [(14, (.v (.bool ((decide ((f.Core.length : Int) > 6000)) || (decide ((f.Odd.length : Int) > 6000)))))), (1, (.ptr (b1 + 0) 4 0))] ∧ Has σ (b2 + 10) (b2 + 15) [.blk (b1 + 0) 25 [(.v (.int .i64 f.Period)), (.v (.int .i64 f.Count)), (.v (.sl (f.Core.map (cL Span.cs)))), (.v (.sl (f.Odd.map Granule.cs)))]]) rfl ?_ ?_
  · refine Ops.split rfl rfl ?_ ?_ <;> intro hc1
    · skip
      refine Ops.pass rfl rfl rfl ?_
      refine Ops.pass rfl rfl rfl ?_
      refine Ops.pass rfl rfl rfl ?_
      refine Ops.pass rfl rfl rfl ?_
      refine Ops.pickT (v := (.v (.bool true))) rfl rfl rfl ?_
      apply Ops.nil
      exact ⟨⟨or_T hc1, rfl, trivial⟩, H.weak (by omega) (Nat.le_refl _)⟩
    · skip
      refine Ops.wanted rfl rfl ?_
      refine Ops.fieldAddrH (off := 0) (fo := 3) H 0 rfl rfl rfl rfl rfl nofun rfl ?_
      refine Ops.wanted rfl rfl ?_
      refine Ops.loadH (off := 3) (v := (.v (.sl (f.Odd.map Granule.cs)))) H 0 rfl rfl rfl rfl rfl nofun rfl ?_
      refine Ops.wanted rfl rfl ?_
      refine Ops.lenPt (c := Granule.cs) (xs := f.Odd) rfl rfl rfl ?_
      refine Ops.wanted rfl rfl ?_
      refine Ops.int (m := (f.Odd.length : Int)) (m' := 6000) (r := .bool (decide ((f.Odd.length : Int) > 6000))) rfl rfl rfl rfl rfl ?_
      refine Ops.pickF (v := (.v (.bool (decide ((f.Odd.length : Int) > 6000))))) rfl rfl rfl ?_
      apply Ops.nil
      exact ⟨⟨or_F hc1, rfl, trivial⟩, H.weak (by omega) (Nat.le_refl _)⟩
  · rintro e σ ⟨he, H⟩
    obtain ⟨e, rfl⟩ := he.ex
    refine Ops.move (v := (.v (.bool ((decide ((f.Core.length : Int) > 6000)) || (decide ((f.Odd.length : Int) > 6000)))))) rfl rfl ?_
    obtain ⟨y1, hj1, h⟩ := bind_some h
    refine Ops.mid 4 (K1 := fun e σ => EnvHas e [(19, (.v (.bool y1))), (1, (.ptr (b1 + 0) 4 0))] ∧ Has σ (b2 + 15) (b2 + 15) [.blk (b1 + 0) 25 [(.v (.int .i64 f.Period)), (.v (.int .i64 f.Count)), (.v (.sl (f.Core.map (cL Span.cs)))), (.v (.sl (f.Odd.map Granule.cs)))]]) rfl ?_ ?_
    · refine Ops.split rfl rfl ?_ ?_ <;> intro hc2
      · replace h := cond_T hc2 hj1
        refine Ops.pass rfl rfl rfl ?_
        refine Ops.pass rfl rfl rfl ?_
        refine Ops.pass rfl rfl rfl ?_
        refine Ops.pickT (v := (.v (.bool true))) rfl rfl rfl ?_
        apply Ops.nil
        replace h := Option.some.inj h; subst h
        exact ⟨⟨rfl, rfl, trivial⟩, H.weak (by omega) (Nat.le_refl _)⟩
      · replace h := cond_F hc2 hj1
        refine Ops.wanted rfl rfl ?_
        refine Ops.loadHA (off := 0) (cs := [(.v (.int .i64 f.Period)), (.v (.int .i64 f.Count)), (.v (.sl (f.Core.map (cL Span.cs)))), (.v (.sl (f.Odd.map Granule.cs)))]) H 0 rfl rfl rfl rfl rfl rfl rfl nofun rfl ?_
        refine Ops.wanted rfl rfl ?_
        obtain ⟨x1, q1, h⟩ := bind_some h
        refine Ops.call (ys := [(.agg [(.v (.int .i64 f.Period)), (.v (.int .i64 f.Count)), (.v (.sl (f.Core.map (cL Span.cs)))), (.v (.sl (f.Odd.map Granule.cs)))])]) (r := (.v (.int .i64 x1))) rfl (gran_Size_fn q1) rfl ?_
        refine Ops.wanted rfl rfl ?_
        refine Ops.int (m := x1) (m' := 60000) (r := .bool (decide (x1 > 60000))) rfl rfl rfl rfl rfl ?_
        refine Ops.pickF (v := (.v (.bool (decide (x1 > 60000))))) rfl rfl rfl ?_
        apply Ops.nil
        replace h := Option.some.inj h; subst h
        exact ⟨⟨rfl, rfl, trivial⟩, H.weak (by omega) (Nat.le_refl _)⟩
    · rintro e σ ⟨he, H⟩
      obtain ⟨e, rfl⟩ := he.ex
      apply Ops.nil
      replace H := H.all
      refine Runs.whether (v := y1) rfl ?_ ?_ <;> intro hc3
      · replace h := cond_T hc3 h
        apply Runs.then
        refine Runs.regionH 1 rfl H ?_; intro b3 σ H
        refine Ops.assign (v := (.v (.int .i64 3))) rfl rfl ?_
        apply Ops.nil
        replace H := H.all
        apply Runs.ret
        replace h := Option.some.inj h; subst h
        exact (Ends.H (xs := [(.v (.int .i64 3))]) (.inr rfl) H (.tmp (v := (.v (.int .i64 3))) rfl .nil) (.one (.c (.v _))))
      · replace h := cond_F hc3 h
        apply Runs.skip
        apply Runs.then
        apply Runs.then
        refine Runs.regionH 8 rfl H ?_; intro b4 σ H
        refine Ops.loadHA (off := 0) (cs := [(.v (.int .i64 f.Period)), (.v (.int .i64 f.Count)), (.v (.sl (f.Core.map (cL Span.cs)))), (.v (.sl (f.Odd.map Granule.cs)))]) H 0 rfl rfl rfl rfl rfl rfl rfl nofun rfl ?_
        obtain ⟨x2, q2, h⟩ := bind_some h
        refine Ops.call (ys := [(.agg [(.v (.int .i64 f.Period)), (.v (.int .i64 f.Count)), (.v (.sl (f.Core.map (cL Span.cs)))), (.v (.sl (f.Odd.map Granule.cs)))])]) (r := (.v (.bool x2))) rfl (gran_shape_fn q2) rfl ?_
        refine Ops.not (b := x2) rfl rfl ?_
        refine Ops.move (v := (.v (.bool (!x2)))) rfl rfl ?_
        obtain ⟨y2, hj2, h⟩ := bind_some h
        refine Ops.mid 4 (K1 := fun e σ => EnvHas e [(27, (.v (.bool y2))), (1, (.ptr (b1 + 0) 4 0))] ∧ Has σ (b4 + 8) (b4 + 8) [.blk (b1 + 0) 25 [(.v (.int .i64 f.Period)), (.v (.int .i64 f.Count)), (.v (.sl (f.Core.map (cL Span.cs)))), (.v (.sl (f.Odd.map Granule.cs)))]]) rfl ?_ ?_
        · refine Ops.split rfl rfl ?_ ?_ <;> intro hc4
          · replace h := cond_T hc4 hj2
            refine Ops.pass rfl rfl rfl ?_
            refine Ops.pass rfl rfl rfl ?_
            refine Ops.pass rfl rfl rfl ?_
            refine Ops.pickT (v := (.v (.bool true))) rfl rfl rfl ?_
            apply Ops.nil
            replace h := Option.some.inj h; subst h
            exact ⟨⟨rfl, rfl, trivial⟩, H.weak (by omega) (Nat.le_refl _)⟩
          · replace h := cond_F hc4 hj2
            refine Ops.wanted rfl rfl ?_
            refine Ops.loadHA (off := 0) (cs := [(.v (.int .i64 f.Period)), (.v (.int .i64 f.Count)), (.v (.sl (f.Core.map (cL Span.cs)))), (.v (.sl (f.Odd.map Granule.cs)))]) H 0 rfl rfl rfl rfl rfl rfl rfl nofun rfl ?_
            refine Ops.wanted rfl rfl ?_
            obtain ⟨x3, q3, h⟩ := bind_some h
            refine Ops.call (ys := [(.agg [(.v (.int .i64 f.Period)), (.v (.int .i64 f.Count)), (.v (.sl (f.Core.map (cL Span.cs)))), (.v (.sl (f.Odd.map Granule.cs)))])]) (r := (.v (.bool x3))) rfl (gran_turns_fn q3) rfl ?_
            refine Ops.wanted rfl rfl ?_
            refine Ops.not (b := x3) rfl rfl ?_
            refine Ops.pickF (v := (.v (.bool (!x3)))) rfl rfl rfl ?_
            apply Ops.nil
            replace h := Option.some.inj h; subst h
            exact ⟨⟨rfl, rfl, trivial⟩, H.weak (by omega) (Nat.le_refl _)⟩
        · rintro e σ ⟨he, H⟩
          obtain ⟨e, rfl⟩ := he.ex
          apply Ops.nil
          replace H := H.all
          refine Runs.whether (v := y2) rfl ?_ ?_ <;> intro hc5
          · replace h := cond_T hc5 h
            apply Runs.then
            refine Runs.regionH 1 rfl H ?_; intro b5 σ H
            refine Ops.assign (v := (.v (.int .i64 50))) rfl rfl ?_
            apply Ops.nil
            replace H := H.all
            apply Runs.ret
            replace h := Option.some.inj h; subst h
            exact (Ends.H (xs := [(.v (.int .i64 50))]) (.inr rfl) H (.tmp (v := (.v (.int .i64 50))) rfl .nil) (.one (.c (.v _))))
          · replace h := cond_F hc5 h
            apply Runs.skip
            apply Runs.then
            apply Runs.then
            refine Runs.regionH 4 rfl H ?_; intro b6 σ H
            refine Ops.fieldAddrH (off := 0) (fo := 3) H 0 rfl rfl rfl rfl rfl nofun rfl ?_
            refine Ops.loadH (off := 3) (v := (.v (.sl (f.Odd.map Granule.cs)))) H 0 rfl rfl rfl rfl rfl nofun rfl ?_
            refine Ops.lenPt (c := Granule.cs) (xs := f.Odd) rfl rfl rfl ?_
            refine Ops.move (v := (.v (.int .i64 0))) rfl rfl ?_
            apply Ops.nil
            replace H := H.all
            apply Runs.inBlock
            obtain ⟨y3, hj3, h⟩ := bind_some h
            obtain ⟨n1, hj3⟩ := loopO_iff.1 hj3
            refine Runs.mono (Runs.loopO hj3 (fun s1 e σ => EnvHas e [(1, (.ptr (b1 + 0) 4 0)), (29, (.v (.sl (f.Odd.map Granule.cs)))), (30, (.v (.int .i64 (f.Odd.length : Int)))), (31, (.v (.int .i64 s1)))] ∧ Hs σ [.blk (b1 + 0) 25 [(.v (.int .i64 f.Period)), (.v (.int .i64 f.Count)), (.v (.sl (f.Core.map (cL Span.cs)))), (.v (.sl (f.Odd.map Granule.cs)))]]) (fun y3 x e σ => (∃ a1, y3 = (.go a1) ∧ x = .exit 0 ∧ EnvHas e [] ∧ Hs σ []) ∨ (∃ r', y3 = (.ret r') ∧ x = .ret ∧ Ends CX Try.f32.results.toList (.v (.int .i64 r')) x e σ)) ⟨⟨rfl, rfl, rfl, rfl, trivial⟩, H⟩ ?_) ?_
            · intro s1 e σ hI z h
              obtain ⟨he, H⟩ := hI
              obtain ⟨e, rfl⟩ := he.ex
              unfold gran_Right.s0 at h
              apply Runs.then
              refine Runs.regionH 1 rfl H ?_; intro b7 σ H
              refine Ops.int (m := s1) (m' := (f.Odd.length : Int)) (r := .bool (decide (s1 < (f.Odd.length : Int)))) rfl rfl rfl rfl rfl ?_
              apply Ops.nil
              replace H := H.all
              apply Runs.then
              refine Runs.whether (v := (decide (s1 < (f.Odd.length : Int)))) rfl ?_ ?_ <;> intro hc6
              · replace h := cond_T hc6 h
                apply Runs.skip
                apply Runs.then
                apply Runs.inBlock
                apply Runs.then
                refine Runs.regionH 4 rfl H ?_; intro b8 σ H
                obtain ⟨x4, q4, h⟩ := bind_some h
                refine Ops.indexP (c := Granule.cs) (u := x4) rfl rfl q4 rfl rfl rfl rfl ?_
                refine Ops.loadPA (cs := [(.int .i64 x4.Index), (.sl (x4.Ticks.map Span.cs))]) rfl rfl rfl rfl rfl rfl ?_
                refine Ops.allocH (cs := [(.v (.int .i64 0)), .nils]) H (by omega) (by omega) rfl rfl ?_; intro σ H
                refine Ops.storeH (off := 0) (v := (.agg [(.v (.int .i64 x4.Index)), (.v (.sl (x4.Ticks.map Span.cs)))])) (ys := [(.v (.int .i64 x4.Index)), (.v (.sl (x4.Ticks.map Span.cs)))]) (cells' := [(.v (.int .i64 x4.Index)), (.v (.sl (x4.Ticks.map Span.cs)))]) H 0 rfl rfl rfl rfl rfl rfl rfl rfl rfl nofun ?_; intro σ H
                apply Ops.nil
                replace H := H.all
                apply Runs.then
                refine Runs.regionH 5 rfl H ?_; intro b9 σ H
                refine Ops.loadHA (off := 0) (cs := [(.v (.int .i64 f.Period)), (.v (.int .i64 f.Count)), (.v (.sl (f.Core.map (cL Span.cs)))), (.v (.sl (f.Odd.map Granule.cs)))]) H 1 rfl rfl rfl rfl rfl rfl rfl nofun rfl ?_
                refine Ops.fieldAddrH (off := 0) (fo := 0) H 0 rfl rfl rfl rfl rfl nofun rfl ?_
                refine Ops.loadH (off := 0) (v := (.v (.int .i64 x4.Index))) H 0 rfl rfl rfl rfl rfl nofun rfl ?_
                obtain ⟨x5, q5, h⟩ := bind_some h
                refine Ops.call (ys := [(.agg [(.v (.int .i64 f.Period)), (.v (.int .i64 f.Count)), (.v (.sl (f.Core.map (cL Span.cs)))), (.v (.sl (f.Odd.map Granule.cs)))]), (.v (.int .i64 x4.Index))]) (r := (.v (.bool x5))) rfl (gran_beside_fn q5) rfl ?_
                refine Ops.not (b := x5) rfl rfl ?_
                apply Ops.nil
                replace H := H.all
                refine Runs.whether (v := (!x5)) rfl ?_ ?_ <;> intro hc7
                · replace h := cond_T hc7 h
                  apply Runs.then
                  refine Runs.regionH 1 rfl H ?_; intro b10 σ H
                  refine Ops.assign (v := (.v (.int .i64 50))) rfl rfl ?_
                  apply Ops.nil
                  replace H := H.all
                  apply Runs.ret
                  replace h := Option.some.inj h; subst h
                  exact ⟨nofun, (.inr ⟨_, rfl, rfl, (Ends.H (xs := [(.v (.int .i64 50))]) (.inr rfl) H (.tmp (v := (.v (.int .i64 50))) rfl .nil) (.one (.c (.v _))))⟩)⟩
                · replace h := cond_F hc7 h
                  apply Runs.skip
                  refine Runs.regionH 2 rfl H ?_; intro b11 σ H
                  refine Ops.int (m := s1) (m' := 1) (r := .int .i64 (w64 (s1 + 1))) rfl rfl rfl rfl rfl ?_
                  refine Ops.move (v := (.v (.int .i64 (w64 (s1 + 1))))) rfl rfl ?_
                  apply Ops.nil
                  replace H := H.all
                  replace h := Option.some.inj h; subst h
                  exact ⟨rfl, ⟨rfl, rfl, rfl, rfl, trivial⟩, (H.erase 0)⟩
              · replace h := cond_F hc6 h
                apply Runs.exit
                replace h := Option.some.inj h; subst h
                exact ⟨nofun, (.inl ⟨_, rfl, rfl, trivial, (H.erase 0)⟩)⟩
            · rintro x e σ (⟨a2, rfl, rfl, he, H⟩ | ⟨r', rfl, rfl, hE⟩)
              · skip
                replace h := jgo h
                obtain ⟨e, rfl⟩ := he.ex
                apply Runs.then
                refine Runs.regionH 1 rfl H ?_; intro b12 σ H
                refine Ops.assign (v := (.v (.int .i64 0))) rfl rfl ?_
                apply Ops.nil
                replace H := H.all
                apply Runs.ret
                replace h := Option.some.inj h; subst h
                exact (Ends.H (xs := [(.v (.int .i64 0))]) (.inr rfl) H (.tmp (v := (.v (.int .i64 0))) rfl .nil) (.one (.c (.v _))))
              · skip
                replace h := jret h
                replace h := Option.some.inj h; subst h
                exact hE

set_option maxRecDepth 100000 in
set_option maxHeartbeats 4000000 in
theorem epactlaw05_right_fn {f : Form} {r : Bool} (h : epactlaw05_right f = some r) : Fn CX 12 [(.agg (vs (Form.cs f)))] (.v (.bool r)) := by
  refine Fn.ends Try.func12 rfl rfl rfl rfl rfl rfl ?_
  have H : Hs (⟨0, fun _ => .none⟩ : Heap) [] := Has.nil (Nat.le_refl _)
  generalize (⟨0, fun _ => .none⟩ : Heap) = σ at H ⊢
  unfold epactlaw05_right at h
  apply Runs.then
  refine Runs.regionH 2 rfl H ?_; intro b1 σ H
  refine Ops.boxH (v := (.agg [(.v (.int .i64 f.Period)), (.v (.int .i64 f.Count)), (.v (.sl (f.Core.map (cL Span.cs)))), (.v (.sl (f.Odd.map Granule.cs)))])) (cs := [(.v (.int .i64 f.Period)), (.v (.int .i64 f.Count)), (.v (.sl (f.Core.map (cL Span.cs)))), (.v (.sl (f.Odd.map Granule.cs)))]) H (by omega) (by omega) rfl rfl rfl ?_; intro σ H
  refine Ops.assign (v := (.v (.bool false))) rfl rfl ?_
  apply Ops.nil
  replace H := H.all
  apply Runs.then
  refine Runs.regionH 8 rfl H ?_; intro b2 σ H
  refine Ops.loadHA (off := 0) (cs := [(.v (.int .i64 f.Period)), (.v (.int .i64 f.Count)), (.v (.sl (f.Core.map (cL Span.cs)))), (.v (.sl (f.Odd.map Granule.cs)))]) H 0 rfl rfl rfl rfl rfl rfl rfl nofun rfl ?_
  obtain ⟨x1, q1, h⟩ := bind_some h
  refine Ops.call (ys := [(.agg [(.v (.int .i64 f.Period)), (.v (.int .i64 f.Count)), (.v (.sl (f.Core.map (cL Span.cs)))), (.v (.sl (f.Odd.map Granule.cs)))])]) (r := (.v (.bool x1))) rfl (epactlaw05_Small_fn q1) rfl ?_
  refine Ops.move (v := (.v (.bool x1))) rfl rfl ?_
  obtain ⟨y1, hj1, h⟩ := bind_some h
  refine Ops.mid 4 (K1 := fun e σ => EnvHas e [(9, (.v (.bool y1)))] ∧ Has σ (b2 + 7) (b2 + 8) []) rfl ?_ ?_
  · refine Ops.split rfl rfl ?_ ?_ <;> intro hc1
    · replace h := cond_T hc1 hj1
      refine Ops.wanted rfl rfl ?_
      refine Ops.loadHA (off := 0) (cs := [(.v (.int .i64 f.Period)), (.v (.int .i64 f.Count)), (.v (.sl (f.Core.map (cL Span.cs)))), (.v (.sl (f.Odd.map Granule.cs)))]) H 0 rfl rfl rfl rfl rfl rfl rfl nofun rfl ?_
      refine Ops.wanted rfl rfl ?_
      obtain ⟨x2, q2, h⟩ := bind_some h
      refine Ops.call (ys := [(.agg [(.v (.int .i64 f.Period)), (.v (.int .i64 f.Count)), (.v (.sl (f.Core.map (cL Span.cs)))), (.v (.sl (f.Odd.map Granule.cs)))])]) (r := (.v (.int .i64 x2))) rfl (gran_Right_fn q2) rfl ?_
      refine Ops.wanted rfl rfl ?_
      refine Ops.int (m := x2) (m' := 0) (r := .bool (x2 == 0)) rfl rfl rfl rfl rfl ?_
      refine Ops.pickT (v := (.v (.bool (x2 == 0)))) rfl rfl rfl ?_
      apply Ops.nil
      replace h := Option.some.inj h; subst h
      exact ⟨⟨rfl, trivial⟩, (H.erase 0).weak (by omega) (Nat.le_refl _)⟩
    · replace h := cond_F hc1 hj1
      refine Ops.pass rfl rfl rfl ?_
      refine Ops.pass rfl rfl rfl ?_
      refine Ops.pass rfl rfl rfl ?_
      refine Ops.pickF (v := (.v (.bool false))) rfl rfl rfl ?_
      apply Ops.nil
      replace h := Option.some.inj h; subst h
      exact ⟨⟨rfl, trivial⟩, (H.erase 0).weak (by omega) (Nat.le_refl _)⟩
  · rintro e σ ⟨he, H⟩
    obtain ⟨e, rfl⟩ := he.ex
    refine Ops.assign (v := (.v (.bool y1))) rfl rfl ?_
    apply Ops.nil
    replace H := H.all
    apply Runs.ret
    replace h := Option.some.inj h; subst h
    exact (Ends.H (xs := [(.v (.bool y1))]) (.inr rfl) H (.tmp (v := (.v (.bool y1))) rfl .nil) (.one (.c (.v _))))

set_option maxRecDepth 100000 in
theorem epactlaw05_awake_fn {r : Bool} (h : epactlaw05_awake = r) : Fn CX 13 [] (.v (.bool r)) := by
  subst h
  exact Fn.run 60 (fun σ => by kernel_rfl) rfl rfl rfl

set_option maxRecDepth 100000 in
set_option maxHeartbeats 4000000 in
theorem slices_Equal_SSpan_Span_fn {s1' : (List Span)} {s2' : (List Span)} {r : Bool} (h : slices_Equal_SSpan_Span s1' s2' = some r) : Fn CX 42 [(.v (.sl (s1'.map Span.cs))), (.v (.sl (s2'.map Span.cs)))] (.v (.bool r)) := by
  refine Fn.ends Try.func42 rfl rfl rfl rfl rfl rfl ?_
  have H : Hs (⟨0, fun _ => .none⟩ : Heap) [] := Has.nil (Nat.le_refl _)
  generalize (⟨0, fun _ => .none⟩ : Heap) = σ at H ⊢
  unfold slices_Equal_SSpan_Span at h
  apply Runs.then
  refine Runs.regionH 1 rfl H ?_; intro b1 σ H
  refine Ops.assign (v := (.v (.bool false))) rfl rfl ?_
  apply Ops.nil
  replace H := H.all
  apply Runs.then
  apply Runs.then
  refine Runs.regionH 5 rfl H ?_; intro b2 σ H
  refine Ops.move (v := (.v (.sl (s1'.map Span.cs)))) rfl rfl ?_
  refine Ops.lenPt (c := Span.cs) (xs := s1') rfl rfl rfl ?_
  refine Ops.move (v := (.v (.sl (s2'.map Span.cs)))) rfl rfl ?_
  refine Ops.lenPt (c := Span.cs) (xs := s2') rfl rfl rfl ?_
  refine Ops.int (m := (s1'.length : Int)) (m' := (s2'.length : Int)) (r := .bool ((s1'.length : Int) != (s2'.length : Int))) rfl rfl rfl rfl rfl ?_
  apply Ops.nil
  replace H := H.all
  refine Runs.whether (v := ((s1'.length : Int) != (s2'.length : Int))) rfl ?_ ?_ <;> intro hc1
  · replace h := cond_T hc1 h
    apply Runs.then
    refine Runs.regionH 1 rfl H ?_; intro b3 σ H
    refine Ops.assign (v := (.v (.bool false))) rfl rfl ?_
    apply Ops.nil
    replace H := H.all
    apply Runs.ret
    replace h := Option.some.inj h; subst h
    exact (Ends.H (xs := [(.v (.bool false))]) (.inr rfl) H (.tmp (v := (.v (.bool false))) rfl .nil) (.one (.c (.v _))))
  · replace h := cond_F hc1 h
    apply Runs.skip
    apply Runs.then
    apply Runs.then
    refine Runs.regionH 3 rfl H ?_; intro b4 σ H
    refine Ops.move (v := (.v (.sl (s1'.map Span.cs)))) rfl rfl ?_
    refine Ops.lenPt (c := Span.cs) (xs := s1') rfl rfl rfl ?_
    refine Ops.move (v := (.v (.int .i64 0))) rfl rfl ?_
    apply Ops.nil
    replace H := H.all
    apply Runs.inBlock
    obtain ⟨y1, hj1, h⟩ := bind_some h
    obtain ⟨n1, hj1⟩ := loopO_iff.1 hj1
    refine Runs.mono (Runs.loopO hj1 (fun s1 e σ => EnvHas e [(0, (.v (.sl (s1'.map Span.cs)))), (1, (.v (.sl (s2'.map Span.cs)))), (12, (.v (.int .i64 (s1'.length : Int)))), (13, (.v (.int .i64 s1)))] ∧ Hs σ []) (fun y1 x e σ => (∃ a1, y1 = (.go a1) ∧ x = .exit 0 ∧ EnvHas e [] ∧ Hs σ []) ∨ (∃ r', y1 = (.ret r') ∧ x = .ret ∧ Ends CX Try.f42.results.toList (.v (.bool r')) x e σ)) ⟨⟨rfl, rfl, rfl, rfl, trivial⟩, H⟩ ?_) ?_
    · intro s1 e σ hI z h
      obtain ⟨he, H⟩ := hI
      obtain ⟨e, rfl⟩ := he.ex
      unfold slices_Equal_SSpan_Span.s0 at h
      apply Runs.then
      refine Runs.regionH 1 rfl H ?_; intro b5 σ H
      refine Ops.int (m := s1) (m' := (s1'.length : Int)) (r := .bool (decide (s1 < (s1'.length : Int)))) rfl rfl rfl rfl rfl ?_
      apply Ops.nil
      replace H := H.all
      apply Runs.then
      refine Runs.whether (v := (decide (s1 < (s1'.length : Int)))) rfl ?_ ?_ <;> intro hc2
      · replace h := cond_T hc2 h
        apply Runs.skip
        apply Runs.then
        apply Runs.inBlock
        apply Runs.then
        refine Runs.regionH 2 rfl H ?_; intro b6 σ H
        refine Ops.move (v := (.v (.int .i64 s1))) rfl rfl ?_
        refine Ops.assign (v := (.v (.int .i64 s1))) rfl rfl ?_
        apply Ops.nil
        replace H := H.all
        apply Runs.then
        refine Runs.drawnH 9 rfl (by kernel_rfl) H ?_; intro b7 σ H B7
        refine Ops.move (v := (.v (.sl (s1'.map Span.cs)))) rfl rfl ?_
        refine Ops.move (v := (.v (.int .i64 s1))) rfl rfl ?_
        obtain ⟨x1, q1, h⟩ := bind_some h
        refine Ops.indexP (c := Span.cs) (u := x1) rfl rfl q1 rfl rfl rfl rfl ?_
        refine Ops.loadPA (cs := [(.int .i64 x1.From), (.int .i64 x1.To)]) rfl rfl rfl rfl rfl rfl ?_
        refine Ops.move (v := (.v (.sl (s2'.map Span.cs)))) rfl rfl ?_
        refine Ops.move (v := (.v (.int .i64 s1))) rfl rfl ?_
        obtain ⟨x2, q2, h⟩ := bind_some h
        refine Ops.indexP (c := Span.cs) (u := x2) rfl rfl q2 rfl rfl rfl rfl ?_
        refine Ops.loadPA (cs := [(.int .i64 x2.From), (.int .i64 x2.To)]) rfl rfl rfl rfl rfl rfl ?_
        refine Ops.binA (u := (.agg [(.v (.int .i64 x1.From)), (.v (.int .i64 x1.To))])) (w := (.agg [(.v (.int .i64 x2.From)), (.v (.int .i64 x2.To))])) (r := .bool (!((x1.From == x2.From) && ((x1.To == x2.To) && true)))) rfl rfl (by kernel_rfl) (fun _ => ask_eqA rfl rfl rfl rfl) rfl ?_
        apply Ops.nil
        replace H := H.all
        refine Runs.whether (v := (!((x1.From == x2.From) && ((x1.To == x2.To) && true)))) rfl ?_ ?_ <;> intro hc3
        · replace h := cond_T hc3 h
          apply Runs.then
          refine Runs.regionH 1 rfl H ?_; intro b8 σ H
          refine Ops.assign (v := (.v (.bool false))) rfl rfl ?_
          apply Ops.nil
          replace H := H.all
          apply Runs.ret
          replace h := Option.some.inj h; subst h
          exact ⟨nofun, (.inr ⟨_, rfl, rfl, (Ends.H (xs := [(.v (.bool false))]) (.inr rfl) H (.tmp (v := (.v (.bool false))) rfl .nil) (.one (.c (.v _))))⟩)⟩
        · replace h := cond_F hc3 h
          apply Runs.skip
          refine Runs.regionH 2 rfl H ?_; intro b9 σ H
          refine Ops.int (m := s1) (m' := 1) (r := .int .i64 (w64 (s1 + 1))) rfl rfl rfl rfl rfl ?_
          refine Ops.move (v := (.v (.int .i64 (w64 (s1 + 1))))) rfl rfl ?_
          apply Ops.nil
          replace H := H.all
          replace h := Option.some.inj h; subst h
          exact ⟨rfl, ⟨rfl, rfl, rfl, rfl, trivial⟩, H⟩
      · replace h := cond_F hc2 h
        apply Runs.exit
        replace h := Option.some.inj h; subst h
        exact ⟨nofun, (.inl ⟨_, rfl, rfl, trivial, H⟩)⟩
    · rintro x e σ (⟨a2, rfl, rfl, he, H⟩ | ⟨r', rfl, rfl, hE⟩)
      · skip
        replace h := jgo h
        obtain ⟨e, rfl⟩ := he.ex
        apply Runs.then
        refine Runs.regionH 1 rfl H ?_; intro b10 σ H
        refine Ops.assign (v := (.v (.bool true))) rfl rfl ?_
        apply Ops.nil
        replace H := H.all
        apply Runs.ret
        replace h := Option.some.inj h; subst h
        exact (Ends.H (xs := [(.v (.bool true))]) (.inr rfl) H (.tmp (v := (.v (.bool true))) rfl .nil) (.one (.c (.v _))))
      · skip
        replace h := jret h
        replace h := Option.some.inj h; subst h
        exact hE

set_option maxRecDepth 100000 in
set_option maxHeartbeats 4000000 in
theorem spans_Same_fn {a : (List Span)} {b : (List Span)} {r : Bool} (h : spans_Same a b = some r) : Fn CX 18 [(.v (.sl (a.map Span.cs))), (.v (.sl (b.map Span.cs)))] (.v (.bool r)) := by
  refine Fn.ends Try.func18 rfl rfl rfl rfl rfl rfl ?_
  have H : Hs (⟨0, fun _ => .none⟩ : Heap) [] := Has.nil (Nat.le_refl _)
  generalize (⟨0, fun _ => .none⟩ : Heap) = σ at H ⊢
  unfold spans_Same at h
  apply Runs.then
  refine Runs.regionH 1 rfl H ?_; intro b1 σ H
  refine Ops.assign (v := (.v (.bool false))) rfl rfl ?_
  apply Ops.nil
  replace H := H.all
  apply Runs.then
  refine Runs.regionH 4 rfl H ?_; intro b2 σ H
  refine Ops.move (v := (.v (.sl (a.map Span.cs)))) rfl rfl ?_
  refine Ops.move (v := (.v (.sl (b.map Span.cs)))) rfl rfl ?_
  obtain ⟨x1, q1, h⟩ := bind_some h
  refine Ops.call (ys := [(.v (.sl (a.map Span.cs))), (.v (.sl (b.map Span.cs)))]) (r := (.v (.bool x1))) rfl (slices_Equal_SSpan_Span_fn q1) rfl ?_
  refine Ops.assign (v := (.v (.bool x1))) rfl rfl ?_
  apply Ops.nil
  replace H := H.all
  apply Runs.ret
  replace h := Option.some.inj h; subst h
  exact (Ends.H (xs := [(.v (.bool x1))]) (.inr rfl) H (.tmp (v := (.v (.bool x1))) rfl .nil) (.one (.c (.v _))))

set_option maxRecDepth 100000 in
set_option maxHeartbeats 4000000 in
theorem epactlaw05_FormOrder_fn {f : Form} {i : Int} {k : Int} {r : Bool} (h : epactlaw05_FormOrder f i k = some r) : Fn CX 4 [(.agg (vs (Form.cs f))), (.v (.int .i64 i)), (.v (.int .i64 k))] (.v (.bool r)) := by
  refine Fn.ends Try.func4 rfl rfl rfl rfl rfl rfl ?_
  have H : Hs (⟨0, fun _ => .none⟩ : Heap) [] := Has.nil (Nat.le_refl _)
  generalize (⟨0, fun _ => .none⟩ : Heap) = σ at H ⊢
  unfold epactlaw05_FormOrder at h
  apply Runs.then
  refine Runs.regionH 2 rfl H ?_; intro b1 σ H
  refine Ops.boxH (v := (.agg [(.v (.int .i64 f.Period)), (.v (.int .i64 f.Count)), (.v (.sl (f.Core.map (cL Span.cs)))), (.v (.sl (f.Odd.map Granule.cs)))])) (cs := [(.v (.int .i64 f.Period)), (.v (.int .i64 f.Count)), (.v (.sl (f.Core.map (cL Span.cs)))), (.v (.sl (f.Odd.map Granule.cs)))]) H (by omega) (by omega) rfl rfl rfl ?_; intro σ H
  refine Ops.assign (v := (.v (.bool false))) rfl rfl ?_
  apply Ops.nil
  replace H := H.all
  apply Runs.then
  apply Runs.then
  refine Runs.regionH 3 rfl H ?_; intro b2 σ H
  refine Ops.loadHA (off := 0) (cs := [(.v (.int .i64 f.Period)), (.v (.int .i64 f.Count)), (.v (.sl (f.Core.map (cL Span.cs)))), (.v (.sl (f.Odd.map Granule.cs)))]) H 0 rfl rfl rfl rfl rfl rfl rfl nofun rfl ?_
  obtain ⟨x1, q1, h⟩ := bind_some h
  refine Ops.call (ys := [(.agg [(.v (.int .i64 f.Period)), (.v (.int .i64 f.Count)), (.v (.sl (f.Core.map (cL Span.cs)))), (.v (.sl (f.Odd.map Granule.cs)))])]) (r := (.v (.bool x1))) rfl (epactlaw05_right_fn q1) rfl ?_
  refine Ops.not (b := x1) rfl rfl ?_
  apply Ops.nil
  replace H := H.all
  refine Runs.whether (v := (!x1)) rfl ?_ ?_ <;> intro hc1
  · replace h := cond_T hc1 h
    apply Runs.then
    refine Runs.regionH 2 rfl H ?_; intro b3 σ H
    refine Ops.call (ys := []) (r := (.v (.bool epactlaw05_awake))) rfl (epactlaw05_awake_fn rfl) rfl ?_
    refine Ops.assign (v := (.v (.bool epactlaw05_awake))) rfl rfl ?_
    apply Ops.nil
    replace H := H.all
    apply Runs.ret
    replace h := Option.some.inj h; subst h
    exact (Ends.H (xs := [(.v (.bool epactlaw05_awake))]) (.inr rfl) H (.tmp (v := (.v (.bool epactlaw05_awake))) rfl .nil) (.one (.c (.v _))))
  · replace h := cond_F hc1 h
    apply Runs.skip
    apply Runs.then
    refine Runs.regionH 8 rfl H ?_; intro b4 σ H
    refine Ops.move (v := (.v (.int .i64 i))) rfl rfl ?_
    refine Ops.move (v := (.v (.int .i64 k))) rfl rfl ?_
    refine Ops.min2 rfl rfl rfl ?_
    refine Ops.move (v := (.v (.int .i64 i))) rfl rfl ?_
    refine Ops.move (v := (.v (.int .i64 k))) rfl rfl ?_
    refine Ops.max2 rfl rfl rfl ?_
    refine Ops.assign (v := (.v (.int .i64 (iMin i k)))) rfl rfl ?_
    refine Ops.assign (v := (.v (.int .i64 (iMax i k)))) rfl rfl ?_
    apply Ops.nil
    replace H := H.all
    apply Runs.then
    refine Runs.regionH 8 rfl H ?_; intro b5 σ H
    refine Ops.loadHA (off := 0) (cs := [(.v (.int .i64 f.Period)), (.v (.int .i64 f.Count)), (.v (.sl (f.Core.map (cL Span.cs)))), (.v (.sl (f.Odd.map Granule.cs)))]) H 0 rfl rfl rfl rfl rfl rfl rfl nofun rfl ?_
    refine Ops.move (v := (.v (.int .i64 (iMin i k)))) rfl rfl ?_
    obtain ⟨x2, q2, h⟩ := bind_some h
    refine Ops.call (ys := [(.agg [(.v (.int .i64 f.Period)), (.v (.int .i64 f.Count)), (.v (.sl (f.Core.map (cL Span.cs)))), (.v (.sl (f.Odd.map Granule.cs)))]), (.v (.int .i64 (iMin i k)))]) (r := (.tup [(.v (.sl (x2.1.map Span.cs))), (.v (.int .i64 x2.2))])) rfl (gran_Get_fn q2) rfl ?_
    refine Ops.move (v := (.tup [(.v (.sl (x2.1.map Span.cs))), (.v (.int .i64 x2.2))])) rfl rfl ?_
    refine Ops.extract (v := (.v (.sl (x2.1.map Span.cs)))) rfl rfl rfl ?_
    refine Ops.extract (v := (.v (.int .i64 x2.2))) rfl rfl rfl ?_
    refine Ops.assign (v := (.v (.sl (x2.1.map Span.cs)))) rfl rfl ?_
    refine Ops.assign (v := (.v (.int .i64 x2.2))) rfl rfl ?_
    apply Ops.nil
    replace H := H.all
    apply Runs.then
    refine Runs.regionH 8 rfl H ?_; intro b6 σ H
    refine Ops.loadHA (off := 0) (cs := [(.v (.int .i64 f.Period)), (.v (.int .i64 f.Count)), (.v (.sl (f.Core.map (cL Span.cs)))), (.v (.sl (f.Odd.map Granule.cs)))]) H 0 rfl rfl rfl rfl rfl rfl rfl nofun rfl ?_
    refine Ops.move (v := (.v (.int .i64 (iMax i k)))) rfl rfl ?_
    obtain ⟨x3, q3, h⟩ := bind_some h
    refine Ops.call (ys := [(.agg [(.v (.int .i64 f.Period)), (.v (.int .i64 f.Count)), (.v (.sl (f.Core.map (cL Span.cs)))), (.v (.sl (f.Odd.map Granule.cs)))]), (.v (.int .i64 (iMax i k)))]) (r := (.tup [(.v (.sl (x3.1.map Span.cs))), (.v (.int .i64 x3.2))])) rfl (gran_Get_fn q3) rfl ?_
    refine Ops.move (v := (.tup [(.v (.sl (x3.1.map Span.cs))), (.v (.int .i64 x3.2))])) rfl rfl ?_
    refine Ops.extract (v := (.v (.sl (x3.1.map Span.cs)))) rfl rfl rfl ?_
    refine Ops.extract (v := (.v (.int .i64 x3.2))) rfl rfl rfl ?_
    refine Ops.assign (v := (.v (.sl (x3.1.map Span.cs)))) rfl rfl ?_
    refine Ops.assign (v := (.v (.int .i64 x3.2))) rfl rfl ?_
    apply Ops.nil
    replace H := H.all
    apply Runs.then
    apply Runs.then
    refine Runs.regionH 6 rfl H ?_; intro b7 σ H
    refine Ops.move (v := (.v (.int .i64 x2.2))) rfl rfl ?_
    refine Ops.int (m := x2.2) (m' := 0) (r := .bool (x2.2 != 0)) rfl rfl rfl rfl rfl ?_
    refine Ops.move (v := (.v (.bool (x2.2 != 0)))) rfl rfl ?_
    refine Ops.mid 3 (K1 := fun e σ => EnvHas e [(38, (.v (.bool ((x2.2 != 0) || (x3.2 != 0))))), (1, (.v (.int .i64 (iMin i k)))), (2, (.v (.int .i64 (iMax i k)))), (7, (.v (.sl (x2.1.map Span.cs)))), (8, (.v (.int .i64 x2.2))), (9, (.v (.sl (x3.1.map Span.cs)))), (10, (.v (.int .i64 x3.2)))] ∧ Has σ (b7 + 6) (b7 + 6) []) rfl ?_ ?_
    · refine Ops.split rfl rfl ?_ ?_ <;> intro hc2
      · skip
        refine Ops.pass rfl rfl rfl ?_
        refine Ops.pass rfl rfl rfl ?_
        refine Ops.pickT (v := (.v (.bool true))) rfl rfl rfl ?_
        apply Ops.nil
        exact ⟨⟨or_T hc2, rfl, rfl, rfl, rfl, rfl, rfl, trivial⟩, (H.erase 0).weak (by omega) (Nat.le_refl _)⟩
      · skip
        refine Ops.wanted rfl rfl ?_
        refine Ops.move (v := (.v (.int .i64 x3.2))) rfl rfl ?_
        refine Ops.wanted rfl rfl ?_
        refine Ops.int (m := x3.2) (m' := 0) (r := .bool (x3.2 != 0)) rfl rfl rfl rfl rfl ?_
        refine Ops.pickF (v := (.v (.bool (x3.2 != 0)))) rfl rfl rfl ?_
        apply Ops.nil
        exact ⟨⟨or_F hc2, rfl, rfl, rfl, rfl, rfl, rfl, trivial⟩, (H.erase 0).weak (by omega) (Nat.le_refl _)⟩
    · rintro e σ ⟨he, H⟩
      obtain ⟨e, rfl⟩ := he.ex
      apply Ops.nil
      replace H := H.all
      refine Runs.whether (v := ((x2.2 != 0) || (x3.2 != 0))) rfl ?_ ?_ <;> intro hc3
      · replace h := cond_T hc3 h
        apply Runs.then
        refine Runs.regionH 28 rfl H ?_; intro b8 σ H
        refine Ops.move (v := (.v (.int .i64 x2.2))) rfl rfl ?_
        refine Ops.int (m := x2.2) (m' := 0) (r := .bool (x2.2 == 0)) rfl rfl rfl rfl rfl ?_
        refine Ops.move (v := (.v (.bool (x2.2 == 0)))) rfl rfl ?_
        refine Ops.mid 8 (K1 := fun e σ => EnvHas e [(49, (.v (.bool ((x2.2 == 0) || ((x2.2 == 20) && ((x2.1.length : Int) == 0)))))), (9, (.v (.sl (x3.1.map Span.cs)))), (10, (.v (.int .i64 x3.2)))] ∧ Has σ (b8 + 11) (b8 + 28) []) rfl ?_ ?_
        · refine Ops.split rfl rfl ?_ ?_ <;> intro hc4
          · skip
            refine Ops.pass rfl rfl rfl ?_
            refine Ops.pass rfl rfl rfl ?_
            refine Ops.pass rfl rfl rfl ?_
            refine Ops.passU rfl rfl rfl ?_
            refine Ops.passU rfl rfl rfl ?_
            refine Ops.passU rfl rfl rfl ?_
            refine Ops.pass rfl rfl rfl ?_
            refine Ops.pickT (v := (.v (.bool true))) rfl rfl rfl ?_
            apply Ops.nil
            exact ⟨⟨or_T hc4, rfl, rfl, trivial⟩, H.weak (by omega) (Nat.le_refl _)⟩
          · skip
            refine Ops.wanted rfl rfl ?_
            refine Ops.move (v := (.v (.int .i64 x2.2))) rfl rfl ?_
            refine Ops.wanted rfl rfl ?_
            refine Ops.int (m := x2.2) (m' := 20) (r := .bool (x2.2 == 20)) rfl rfl rfl rfl rfl ?_
            refine Ops.wanted rfl rfl ?_
            refine Ops.move (v := (.v (.bool (x2.2 == 20)))) rfl rfl ?_
            refine Ops.mid 4 (K1 := fun e σ => EnvHas e [(48, (.v (.bool ((x2.2 == 20) && ((x2.1.length : Int) == 0))))), (9, (.v (.sl (x3.1.map Span.cs)))), (10, (.v (.int .i64 x3.2))), (41, (.v (.bool false)))] ∧ Has σ (b8 + 10) (b8 + 28) []) rfl ?_ ?_
            · refine Ops.split rfl rfl ?_ ?_ <;> intro hc5
              · skip
                refine Ops.wanted rfl rfl ?_
                refine Ops.move (v := (.v (.sl (x2.1.map Span.cs)))) rfl rfl ?_
                refine Ops.wanted rfl rfl ?_
                refine Ops.lenPt (c := Span.cs) (xs := x2.1) rfl rfl rfl ?_
                refine Ops.wanted rfl rfl ?_
                refine Ops.int (m := (x2.1.length : Int)) (m' := 0) (r := .bool ((x2.1.length : Int) == 0)) rfl rfl rfl rfl rfl ?_
                refine Ops.wanted rfl rfl ?_
                refine Ops.pickT (v := (.v (.bool ((x2.1.length : Int) == 0)))) rfl rfl rfl ?_
                apply Ops.nil
                exact ⟨⟨and_T hc5, rfl, rfl, rfl, trivial⟩, H.weak (by omega) (Nat.le_refl _)⟩
              · skip
                refine Ops.pass rfl rfl rfl ?_
                refine Ops.pass rfl rfl rfl ?_
                refine Ops.pass rfl rfl rfl ?_
                refine Ops.wanted rfl rfl ?_
                refine Ops.pickF (v := (.v (.bool false))) rfl rfl rfl ?_
                apply Ops.nil
                exact ⟨⟨and_F hc5, rfl, rfl, rfl, trivial⟩, H.weak (by omega) (Nat.le_refl _)⟩
            · rintro e σ ⟨he, H⟩
              obtain ⟨e, rfl⟩ := he.ex
              refine Ops.pickF (v := (.v (.bool ((x2.2 == 20) && ((x2.1.length : Int) == 0))))) rfl rfl rfl ?_
              apply Ops.nil
              exact ⟨⟨or_F hc4, rfl, rfl, trivial⟩, H.weak (by omega) (Nat.le_refl _)⟩
        · rintro e σ ⟨he, H⟩
          obtain ⟨e, rfl⟩ := he.ex
          refine Ops.move (v := (.v (.bool ((x2.2 == 0) || ((x2.2 == 20) && ((x2.1.length : Int) == 0)))))) rfl rfl ?_
          refine Ops.mid 12 (K1 := fun e σ => EnvHas e [(62, (.v (.bool (((x2.2 == 0) || ((x2.2 == 20) && ((x2.1.length : Int) == 0))) && ((x3.2 == 0) || ((x3.2 == 20) && ((x3.1.length : Int) == 0)))))))] ∧ Has σ (b8 + 24) (b8 + 28) []) rfl ?_ ?_
          · refine Ops.split rfl rfl ?_ ?_ <;> intro hc6
            · skip
              refine Ops.wanted rfl rfl ?_
              refine Ops.move (v := (.v (.int .i64 x3.2))) rfl rfl ?_
              refine Ops.wanted rfl rfl ?_
              refine Ops.int (m := x3.2) (m' := 0) (r := .bool (x3.2 == 0)) rfl rfl rfl rfl rfl ?_
              refine Ops.wanted rfl rfl ?_
              refine Ops.move (v := (.v (.bool (x3.2 == 0)))) rfl rfl ?_
              refine Ops.mid 8 (K1 := fun e σ => EnvHas e [(61, (.v (.bool ((x3.2 == 0) || ((x3.2 == 20) && ((x3.1.length : Int) == 0)))))), (50, (.v (.bool true)))] ∧ Has σ (b8 + 23) (b8 + 28) []) rfl ?_ ?_
              · refine Ops.split rfl rfl ?_ ?_ <;> intro hc7
                · skip
                  refine Ops.pass rfl rfl rfl ?_
                  refine Ops.pass rfl rfl rfl ?_
                  refine Ops.pass rfl rfl rfl ?_
                  refine Ops.passU rfl rfl rfl ?_
                  refine Ops.passU rfl rfl rfl ?_
                  refine Ops.passU rfl rfl rfl ?_
                  refine Ops.pass rfl rfl rfl ?_
                  refine Ops.wanted rfl rfl ?_
                  refine Ops.pickT (v := (.v (.bool true))) rfl rfl rfl ?_
                  apply Ops.nil
                  exact ⟨⟨or_T hc7, rfl, trivial⟩, H.weak (by omega) (Nat.le_refl _)⟩
                · skip
                  refine Ops.wanted rfl rfl ?_
                  refine Ops.move (v := (.v (.int .i64 x3.2))) rfl rfl ?_
                  refine Ops.wanted rfl rfl ?_
                  refine Ops.int (m := x3.2) (m' := 20) (r := .bool (x3.2 == 20)) rfl rfl rfl rfl rfl ?_
                  refine Ops.wanted rfl rfl ?_
                  refine Ops.move (v := (.v (.bool (x3.2 == 20)))) rfl rfl ?_
                  refine Ops.mid 4 (K1 := fun e σ => EnvHas e [(60, (.v (.bool ((x3.2 == 20) && ((x3.1.length : Int) == 0))))), (50, (.v (.bool true))), (53, (.v (.bool false)))] ∧ Has σ (b8 + 22) (b8 + 28) []) rfl ?_ ?_
                  · refine Ops.split rfl rfl ?_ ?_ <;> intro hc8
                    · skip
                      refine Ops.wanted rfl rfl ?_
                      refine Ops.move (v := (.v (.sl (x3.1.map Span.cs)))) rfl rfl ?_
                      refine Ops.wanted rfl rfl ?_
                      refine Ops.lenPt (c := Span.cs) (xs := x3.1) rfl rfl rfl ?_
                      refine Ops.wanted rfl rfl ?_
                      refine Ops.int (m := (x3.1.length : Int)) (m' := 0) (r := .bool ((x3.1.length : Int) == 0)) rfl rfl rfl rfl rfl ?_
                      refine Ops.wanted rfl rfl ?_
                      refine Ops.pickT (v := (.v (.bool ((x3.1.length : Int) == 0)))) rfl rfl rfl ?_
                      apply Ops.nil
                      exact ⟨⟨and_T hc8, rfl, rfl, trivial⟩, H.weak (by omega) (Nat.le_refl _)⟩
                    · skip
                      refine Ops.pass rfl rfl rfl ?_
                      refine Ops.pass rfl rfl rfl ?_
                      refine Ops.pass rfl rfl rfl ?_
                      refine Ops.wanted rfl rfl ?_
                      refine Ops.pickF (v := (.v (.bool false))) rfl rfl rfl ?_
                      apply Ops.nil
                      exact ⟨⟨and_F hc8, rfl, rfl, trivial⟩, H.weak (by omega) (Nat.le_refl _)⟩
                  · rintro e σ ⟨he, H⟩
                    obtain ⟨e, rfl⟩ := he.ex
                    refine Ops.wanted rfl rfl ?_
                    refine Ops.pickF (v := (.v (.bool ((x3.2 == 20) && ((x3.1.length : Int) == 0))))) rfl rfl rfl ?_
                    apply Ops.nil
                    exact ⟨⟨or_F hc7, rfl, trivial⟩, H.weak (by omega) (Nat.le_refl _)⟩
              · rintro e σ ⟨he, H⟩
                obtain ⟨e, rfl⟩ := he.ex
                refine Ops.pickT (v := (.v (.bool ((x3.2 == 0) || ((x3.2 == 20) && ((x3.1.length : Int) == 0)))))) rfl rfl rfl ?_
                apply Ops.nil
                exact ⟨⟨and_T hc6, trivial⟩, H.weak (by omega) (Nat.le_refl _)⟩
            · skip
              refine Ops.pass rfl rfl rfl ?_
              refine Ops.pass rfl rfl rfl ?_
              refine Ops.pass rfl rfl rfl ?_
              refine Ops.passU rfl rfl rfl ?_
              refine Ops.passU rfl rfl rfl ?_
              refine Ops.passU rfl rfl rfl ?_
              refine Ops.passU rfl rfl rfl ?_
              refine Ops.passU rfl rfl rfl ?_
              refine Ops.passU rfl rfl rfl ?_
              refine Ops.passU rfl rfl rfl ?_
              refine Ops.pass rfl rfl rfl ?_
              refine Ops.pickF (v := (.v (.bool false))) rfl rfl rfl ?_
              apply Ops.nil
              exact ⟨⟨and_F hc6, trivial⟩, H.weak (by omega) (Nat.le_refl _)⟩
          · rintro e σ ⟨he, H⟩
            obtain ⟨e, rfl⟩ := he.ex
            refine Ops.move (v := (.v (.bool (((x2.2 == 0) || ((x2.2 == 20) && ((x2.1.length : Int) == 0))) && ((x3.2 == 0) || ((x3.2 == 20) && ((x3.1.length : Int) == 0))))))) rfl rfl ?_
            refine Ops.mid 2 (K1 := fun e σ => EnvHas e [(65, (.v (.bool ((((x2.2 == 0) || ((x2.2 == 20) && ((x2.1.length : Int) == 0))) && ((x3.2 == 0) || ((x3.2 == 20) && ((x3.1.length : Int) == 0)))) && epactlaw05_awake))))] ∧ Has σ (b8 + 27) (b8 + 28) []) rfl ?_ ?_
            · refine Ops.split rfl rfl ?_ ?_ <;> intro hc9
              · skip
                refine Ops.wanted rfl rfl ?_
                refine Ops.call (ys := []) (r := (.v (.bool epactlaw05_awake))) rfl (epactlaw05_awake_fn rfl) rfl ?_
                refine Ops.pickT (v := (.v (.bool epactlaw05_awake))) rfl rfl rfl ?_
                apply Ops.nil
                exact ⟨⟨and_T hc9, trivial⟩, H.weak (by omega) (Nat.le_refl _)⟩
              · skip
                refine Ops.pass rfl rfl rfl ?_
                refine Ops.pickF (v := (.v (.bool false))) rfl rfl rfl ?_
                apply Ops.nil
                exact ⟨⟨and_F hc9, trivial⟩, H.weak (by omega) (Nat.le_refl _)⟩
            · rintro e σ ⟨he, H⟩
              obtain ⟨e, rfl⟩ := he.ex
              refine Ops.assign (v := (.v (.bool ((((x2.2 == 0) || ((x2.2 == 20) && ((x2.1.length : Int) == 0))) && ((x3.2 == 0) || ((x3.2 == 20) && ((x3.1.length : Int) == 0)))) && epactlaw05_awake)))) rfl rfl ?_
              apply Ops.nil
              replace H := H.all
              apply Runs.ret
              replace h := Option.some.inj h; subst h
              exact (Ends.H (xs := [(.v (.bool ((((x2.2 == 0) || ((x2.2 == 20) && ((x2.1.length : Int) == 0))) && ((x3.2 == 0) || ((x3.2 == 20) && ((x3.1.length : Int) == 0)))) && epactlaw05_awake)))]) (.inr rfl) H (.tmp (v := (.v (.bool ((((x2.2 == 0) || ((x2.2 == 20) && ((x2.1.length : Int) == 0))) && ((x3.2 == 0) || ((x3.2 == 20) && ((x3.1.length : Int) == 0)))) && epactlaw05_awake)))) rfl .nil) (.one (.c (.v _))))
      · replace h := cond_F hc3 h
        apply Runs.skip
        apply Runs.then
        refine Runs.regionH 30 rfl H ?_; intro b9 σ H
        refine Ops.move (v := (.v (.sl (x2.1.map Span.cs)))) rfl rfl ?_
        obtain ⟨x4, q4, h⟩ := bind_some h
        refine Ops.call (ys := [(.v (.sl (x2.1.map Span.cs)))]) (r := (.v (.bool x4))) rfl (spans_Right_fn q4) rfl ?_
        refine Ops.move (v := (.v (.bool x4))) rfl rfl ?_
        obtain ⟨y1, hj1, h⟩ := bind_some h
        refine Ops.mid 3 (K1 := fun e σ => EnvHas e [(71, (.v (.bool y1))), (1, (.v (.int .i64 (iMin i k)))), (2, (.v (.int .i64 (iMax i k)))), (7, (.v (.sl (x2.1.map Span.cs)))), (9, (.v (.sl (x3.1.map Span.cs))))] ∧ Has σ (b9 + 6) (b9 + 30) []) rfl ?_ ?_
        · refine Ops.split rfl rfl ?_ ?_ <;> intro hc10
          · replace h := cond_T hc10 hj1
            refine Ops.wanted rfl rfl ?_
            refine Ops.move (v := (.v (.sl (x3.1.map Span.cs)))) rfl rfl ?_
            refine Ops.wanted rfl rfl ?_
            obtain ⟨x5, q5, h⟩ := bind_some h
            refine Ops.call (ys := [(.v (.sl (x3.1.map Span.cs)))]) (r := (.v (.bool x5))) rfl (spans_Right_fn q5) rfl ?_
            refine Ops.pickT (v := (.v (.bool x5))) rfl rfl rfl ?_
            apply Ops.nil
            replace h := Option.some.inj h; subst h
            exact ⟨⟨rfl, rfl, rfl, rfl, rfl, trivial⟩, H.weak (by omega) (Nat.le_refl _)⟩
          · replace h := cond_F hc10 hj1
            refine Ops.pass rfl rfl rfl ?_
            refine Ops.pass rfl rfl rfl ?_
            refine Ops.pickF (v := (.v (.bool false))) rfl rfl rfl ?_
            apply Ops.nil
            replace h := Option.some.inj h; subst h
            exact ⟨⟨rfl, rfl, rfl, rfl, rfl, trivial⟩, H.weak (by omega) (Nat.le_refl _)⟩
        · rintro e σ ⟨he, H⟩
          obtain ⟨e, rfl⟩ := he.ex
          refine Ops.move (v := (.v (.bool y1))) rfl rfl ?_
          obtain ⟨y2, hj2, h⟩ := bind_some h
          refine Ops.mid 19 (K1 := fun e σ => EnvHas e [(91, (.v (.bool y2)))] ∧ Has σ (b9 + 26) (b9 + 30) []) rfl ?_ ?_
          · refine Ops.split rfl rfl ?_ ?_ <;> intro hc11
            · replace h := cond_T hc11 hj2
              refine Ops.wanted rfl rfl ?_
              refine Ops.move (v := (.v (.int .i64 (iMin i k)))) rfl rfl ?_
              refine Ops.wanted rfl rfl ?_
              refine Ops.move (v := (.v (.int .i64 (iMax i k)))) rfl rfl ?_
              refine Ops.wanted rfl rfl ?_
              refine Ops.int (m := (iMin i k)) (m' := (iMax i k)) (r := .bool ((iMin i k) == (iMax i k))) rfl rfl rfl rfl rfl ?_
              refine Ops.wanted rfl rfl ?_
              refine Ops.move (v := (.v (.bool ((iMin i k) == (iMax i k))))) rfl rfl ?_
              obtain ⟨y3, hj3, h⟩ := bind_some h
              refine Ops.mid 4 (K1 := fun e σ => EnvHas e [(80, (.v (.bool y3))), (1, (.v (.int .i64 (iMin i k)))), (2, (.v (.int .i64 (iMax i k)))), (7, (.v (.sl (x2.1.map Span.cs)))), (9, (.v (.sl (x3.1.map Span.cs)))), (72, (.v (.bool true)))] ∧ Has σ (b9 + 15) (b9 + 30) []) rfl ?_ ?_
              · refine Ops.split rfl rfl ?_ ?_ <;> intro hc12
                · replace h := cond_T hc12 hj3
                  refine Ops.wanted rfl rfl ?_
                  refine Ops.move (v := (.v (.sl (x2.1.map Span.cs)))) rfl rfl ?_
                  refine Ops.wanted rfl rfl ?_
                  refine Ops.move (v := (.v (.sl (x3.1.map Span.cs)))) rfl rfl ?_
                  refine Ops.wanted rfl rfl ?_
                  obtain ⟨x6, q6, h⟩ := bind_some h
                  refine Ops.call (ys := [(.v (.sl (x2.1.map Span.cs))), (.v (.sl (x3.1.map Span.cs)))]) (r := (.v (.bool x6))) rfl (spans_Same_fn q6) rfl ?_
                  refine Ops.wanted rfl rfl ?_
                  refine Ops.pickT (v := (.v (.bool x6))) rfl rfl rfl ?_
                  apply Ops.nil
                  replace h := Option.some.inj h; subst h
                  exact ⟨⟨rfl, rfl, rfl, rfl, rfl, rfl, trivial⟩, H.weak (by omega) (Nat.le_refl _)⟩
                · replace h := cond_F hc12 hj3
                  refine Ops.pass rfl rfl rfl ?_
                  refine Ops.pass rfl rfl rfl ?_
                  refine Ops.pass rfl rfl rfl ?_
                  refine Ops.wanted rfl rfl ?_
                  refine Ops.pickF (v := (.v (.bool false))) rfl rfl rfl ?_
                  apply Ops.nil
                  replace h := Option.some.inj h; subst h
                  exact ⟨⟨rfl, rfl, rfl, rfl, rfl, rfl, trivial⟩, H.weak (by omega) (Nat.le_refl _)⟩
              · rintro e σ ⟨he, H⟩
                obtain ⟨e, rfl⟩ := he.ex
                refine Ops.wanted rfl rfl ?_
                refine Ops.move (v := (.v (.bool y3))) rfl rfl ?_
                obtain ⟨y4, hj4, h⟩ := bind_some h
                refine Ops.mid 9 (K1 := fun e σ => EnvHas e [(90, (.v (.bool y4))), (72, (.v (.bool true)))] ∧ Has σ (b9 + 25) (b9 + 30) []) rfl ?_ ?_
                · refine Ops.split rfl rfl ?_ ?_ <;> intro hc13
                  · replace h := cond_T hc13 hj4
                    refine Ops.pass rfl rfl rfl ?_
                    refine Ops.pass rfl rfl rfl ?_
                    refine Ops.pass rfl rfl rfl ?_
                    refine Ops.pass rfl rfl rfl ?_
                    refine Ops.passU rfl rfl rfl ?_
                    refine Ops.passU rfl rfl rfl ?_
                    refine Ops.passU rfl rfl rfl ?_
                    refine Ops.pass rfl rfl rfl ?_
                    refine Ops.wanted rfl rfl ?_
                    refine Ops.pickT (v := (.v (.bool true))) rfl rfl rfl ?_
                    apply Ops.nil
                    replace h := Option.some.inj h; subst h
                    exact ⟨⟨rfl, rfl, trivial⟩, H.weak (by omega) (Nat.le_refl _)⟩
                  · replace h := cond_F hc13 hj4
                    refine Ops.wanted rfl rfl ?_
                    refine Ops.move (v := (.v (.int .i64 (iMin i k)))) rfl rfl ?_
                    refine Ops.wanted rfl rfl ?_
                    refine Ops.move (v := (.v (.int .i64 (iMax i k)))) rfl rfl ?_
                    refine Ops.wanted rfl rfl ?_
                    refine Ops.int (m := (iMin i k)) (m' := (iMax i k)) (r := .bool (decide ((iMin i k) < (iMax i k)))) rfl rfl rfl rfl rfl ?_
                    refine Ops.wanted rfl rfl ?_
                    refine Ops.move (v := (.v (.bool (decide ((iMin i k) < (iMax i k)))))) rfl rfl ?_
                    obtain ⟨y5, hj5, h⟩ := bind_some h
                    refine Ops.mid 4 (K1 := fun e σ => EnvHas e [(89, (.v (.bool y5))), (72, (.v (.bool true))), (81, (.v (.bool false)))] ∧ Has σ (b9 + 24) (b9 + 30) []) rfl ?_ ?_
                    · refine Ops.split rfl rfl ?_ ?_ <;> intro hc14
                      · replace h := cond_T hc14 hj5
                        refine Ops.wanted rfl rfl ?_
                        refine Ops.move (v := (.v (.sl (x2.1.map Span.cs)))) rfl rfl ?_
                        refine Ops.wanted rfl rfl ?_
                        refine Ops.move (v := (.v (.sl (x3.1.map Span.cs)))) rfl rfl ?_
                        refine Ops.wanted rfl rfl ?_
                        obtain ⟨x7, q7, h⟩ := bind_some h
                        refine Ops.call (ys := [(.v (.sl (x2.1.map Span.cs))), (.v (.sl (x3.1.map Span.cs)))]) (r := (.v (.bool x7))) rfl (spans_Ahead_fn q7) rfl ?_
                        refine Ops.wanted rfl rfl ?_
                        refine Ops.pickT (v := (.v (.bool x7))) rfl rfl rfl ?_
                        apply Ops.nil
                        replace h := Option.some.inj h; subst h
                        exact ⟨⟨rfl, rfl, rfl, trivial⟩, H.weak (by omega) (Nat.le_refl _)⟩
                      · replace h := cond_F hc14 hj5
                        refine Ops.pass rfl rfl rfl ?_
                        refine Ops.pass rfl rfl rfl ?_
                        refine Ops.pass rfl rfl rfl ?_
                        refine Ops.wanted rfl rfl ?_
                        refine Ops.pickF (v := (.v (.bool false))) rfl rfl rfl ?_
                        apply Ops.nil
                        replace h := Option.some.inj h; subst h
                        exact ⟨⟨rfl, rfl, rfl, trivial⟩, H.weak (by omega) (Nat.le_refl _)⟩
                    · rintro e σ ⟨he, H⟩
                      obtain ⟨e, rfl⟩ := he.ex
                      refine Ops.wanted rfl rfl ?_
                      refine Ops.pickF (v := (.v (.bool y5))) rfl rfl rfl ?_
                      apply Ops.nil
                      replace h := Option.some.inj h; subst h
                      exact ⟨⟨rfl, rfl, trivial⟩, H.weak (by omega) (Nat.le_refl _)⟩
                · rintro e σ ⟨he, H⟩
                  obtain ⟨e, rfl⟩ := he.ex
                  refine Ops.pickT (v := (.v (.bool y4))) rfl rfl rfl ?_
                  apply Ops.nil
                  replace h := Option.some.inj h; subst h
                  exact ⟨⟨rfl, trivial⟩, H.weak (by omega) (Nat.le_refl _)⟩
            · replace h := cond_F hc11 hj2
              refine Ops.pass rfl rfl rfl ?_
              refine Ops.pass rfl rfl rfl ?_
              refine Ops.pass rfl rfl rfl ?_
              refine Ops.pass rfl rfl rfl ?_
              refine Ops.passU rfl rfl rfl ?_
              refine Ops.passU rfl rfl rfl ?_
              refine Ops.passU rfl rfl rfl ?_
              refine Ops.pass rfl rfl rfl ?_
              refine Ops.pass rfl rfl rfl ?_
              refine Ops.passU rfl rfl rfl ?_
              refine Ops.passU rfl rfl rfl ?_
              refine Ops.passU rfl rfl rfl ?_
              refine Ops.passU rfl rfl rfl ?_
              refine Ops.passU rfl rfl rfl ?_
              refine Ops.passU rfl rfl rfl ?_
              refine Ops.passU rfl rfl rfl ?_
              refine Ops.passU rfl rfl rfl ?_
              refine Ops.pass rfl rfl rfl ?_
              refine Ops.pickF (v := (.v (.bool false))) rfl rfl rfl ?_
              apply Ops.nil
              replace h := Option.some.inj h; subst h
              exact ⟨⟨rfl, trivial⟩, H.weak (by omega) (Nat.le_refl _)⟩
          · rintro e σ ⟨he, H⟩
            obtain ⟨e, rfl⟩ := he.ex
            refine Ops.move (v := (.v (.bool y2))) rfl rfl ?_
            refine Ops.mid 2 (K1 := fun e σ => EnvHas e [(94, (.v (.bool (y2 && epactlaw05_awake))))] ∧ Has σ (b9 + 29) (b9 + 30) []) rfl ?_ ?_
            · refine Ops.split rfl rfl ?_ ?_ <;> intro hc15
              · skip
                refine Ops.wanted rfl rfl ?_
                refine Ops.call (ys := []) (r := (.v (.bool epactlaw05_awake))) rfl (epactlaw05_awake_fn rfl) rfl ?_
                refine Ops.pickT (v := (.v (.bool epactlaw05_awake))) rfl rfl rfl ?_
                apply Ops.nil
                exact ⟨⟨and_T hc15, trivial⟩, H.weak (by omega) (Nat.le_refl _)⟩
              · skip
                refine Ops.pass rfl rfl rfl ?_
                refine Ops.pickF (v := (.v (.bool false))) rfl rfl rfl ?_
                apply Ops.nil
                exact ⟨⟨and_F hc15, trivial⟩, H.weak (by omega) (Nat.le_refl _)⟩
            · rintro e σ ⟨he, H⟩
              obtain ⟨e, rfl⟩ := he.ex
              refine Ops.assign (v := (.v (.bool (y2 && epactlaw05_awake)))) rfl rfl ?_
              apply Ops.nil
              replace H := H.all
              apply Runs.ret
              replace h := Option.some.inj h; subst h
              exact (Ends.H (xs := [(.v (.bool (y2 && epactlaw05_awake)))]) (.inr rfl) H (.tmp (v := (.v (.bool (y2 && epactlaw05_awake)))) rfl .nil) (.one (.c (.v _))))

set_option maxRecDepth 100000 in
set_option maxHeartbeats 4000000 in
theorem epactlaw05_odd_fn {f : Form} {i : Int} {r : Bool} (h : epactlaw05_odd f i = some r) : Fn CX 20 [(.agg (vs (Form.cs f))), (.v (.int .i64 i))] (.v (.bool r)) := by
  refine Fn.ends Try.func20 rfl rfl rfl rfl rfl rfl ?_
  have H : Hs (⟨0, fun _ => .none⟩ : Heap) [] := Has.nil (Nat.le_refl _)
  generalize (⟨0, fun _ => .none⟩ : Heap) = σ at H ⊢
  unfold epactlaw05_odd at h
  apply Runs.then
  refine Runs.regionH 2 rfl H ?_; intro b1 σ H
  refine Ops.boxH (v := (.agg [(.v (.int .i64 f.Period)), (.v (.int .i64 f.Count)), (.v (.sl (f.Core.map (cL Span.cs)))), (.v (.sl (f.Odd.map Granule.cs)))])) (cs := [(.v (.int .i64 f.Period)), (.v (.int .i64 f.Count)), (.v (.sl (f.Core.map (cL Span.cs)))), (.v (.sl (f.Odd.map Granule.cs)))]) H (by omega) (by omega) rfl rfl rfl ?_; intro σ H
  refine Ops.assign (v := (.v (.bool false))) rfl rfl ?_
  apply Ops.nil
  replace H := H.all
  apply Runs.then
  apply Runs.then
  refine Runs.regionH 4 rfl H ?_; intro b2 σ H
  refine Ops.fieldAddrH (off := 0) (fo := 3) H 0 rfl rfl rfl rfl rfl nofun rfl ?_
  refine Ops.loadH (off := 3) (v := (.v (.sl (f.Odd.map Granule.cs)))) H 0 rfl rfl rfl rfl rfl nofun rfl ?_
  refine Ops.lenPt (c := Granule.cs) (xs := f.Odd) rfl rfl rfl ?_
  refine Ops.move (v := (.v (.int .i64 0))) rfl rfl ?_
  apply Ops.nil
  replace H := H.all
  apply Runs.inBlock
  obtain ⟨y1, hj1, h⟩ := bind_some h
  obtain ⟨n1, hj1⟩ := loopO_iff.1 hj1
  refine Runs.mono (Runs.loopO hj1 (fun s1 e σ => EnvHas e [(1, (.v (.int .i64 i))), (8, (.v (.sl (f.Odd.map Granule.cs)))), (9, (.v (.int .i64 (f.Odd.length : Int)))), (10, (.v (.int .i64 s1)))] ∧ Hs σ []) (fun y1 x e σ => (∃ a1, y1 = (.go a1) ∧ x = .exit 0 ∧ EnvHas e [] ∧ Hs σ []) ∨ (∃ r', y1 = (.ret r') ∧ x = .ret ∧ Ends CX Try.f20.results.toList (.v (.bool r')) x e σ)) ⟨⟨rfl, rfl, rfl, rfl, trivial⟩, (H.erase 0)⟩ ?_) ?_
  · intro s1 e σ hI z h
    obtain ⟨he, H⟩ := hI
    obtain ⟨e, rfl⟩ := he.ex
    unfold epactlaw05_odd.s0 at h
    apply Runs.then
    refine Runs.regionH 1 rfl H ?_; intro b3 σ H
    refine Ops.int (m := s1) (m' := (f.Odd.length : Int)) (r := .bool (decide (s1 < (f.Odd.length : Int)))) rfl rfl rfl rfl rfl ?_
    apply Ops.nil
    replace H := H.all
    apply Runs.then
    refine Runs.whether (v := (decide (s1 < (f.Odd.length : Int)))) rfl ?_ ?_ <;> intro hc1
    · replace h := cond_T hc1 h
      apply Runs.skip
      apply Runs.then
      apply Runs.inBlock
      apply Runs.then
      refine Runs.regionH 4 rfl H ?_; intro b4 σ H
      obtain ⟨x1, q1, h⟩ := bind_some h
      refine Ops.indexP (c := Granule.cs) (u := x1) rfl rfl q1 rfl rfl rfl rfl ?_
      refine Ops.loadPA (cs := [(.int .i64 x1.Index), (.sl (x1.Ticks.map Span.cs))]) rfl rfl rfl rfl rfl rfl ?_
      refine Ops.allocH (cs := [(.v (.int .i64 0)), .nils]) H (by omega) (by omega) rfl rfl ?_; intro σ H
      refine Ops.storeH (off := 0) (v := (.agg [(.v (.int .i64 x1.Index)), (.v (.sl (x1.Ticks.map Span.cs)))])) (ys := [(.v (.int .i64 x1.Index)), (.v (.sl (x1.Ticks.map Span.cs)))]) (cells' := [(.v (.int .i64 x1.Index)), (.v (.sl (x1.Ticks.map Span.cs)))]) H 0 rfl rfl rfl rfl rfl rfl rfl rfl rfl nofun ?_; intro σ H
      apply Ops.nil
      replace H := H.all
      apply Runs.then
      refine Runs.regionH 4 rfl H ?_; intro b5 σ H
      refine Ops.fieldAddrH (off := 0) (fo := 0) H 0 rfl rfl rfl rfl rfl nofun rfl ?_
      refine Ops.loadH (off := 0) (v := (.v (.int .i64 x1.Index))) H 0 rfl rfl rfl rfl rfl nofun rfl ?_
      refine Ops.move (v := (.v (.int .i64 i))) rfl rfl ?_
      refine Ops.int (m := x1.Index) (m' := i) (r := .bool (x1.Index == i)) rfl rfl rfl rfl rfl ?_
      apply Ops.nil
      replace H := H.all
      refine Runs.whether (v := (x1.Index == i)) rfl ?_ ?_ <;> intro hc2
      · replace h := cond_T hc2 h
        apply Runs.then
        refine Runs.regionH 1 rfl H ?_; intro b6 σ H
        refine Ops.assign (v := (.v (.bool true))) rfl rfl ?_
        apply Ops.nil
        replace H := H.all
        apply Runs.ret
        replace h := Option.some.inj h; subst h
        exact ⟨nofun, (.inr ⟨_, rfl, rfl, (Ends.H (xs := [(.v (.bool true))]) (.inr rfl) H (.tmp (v := (.v (.bool true))) rfl .nil) (.one (.c (.v _))))⟩)⟩
      · replace h := cond_F hc2 h
        apply Runs.skip
        refine Runs.regionH 2 rfl H ?_; intro b7 σ H
        refine Ops.int (m := s1) (m' := 1) (r := .int .i64 (w64 (s1 + 1))) rfl rfl rfl rfl rfl ?_
        refine Ops.move (v := (.v (.int .i64 (w64 (s1 + 1))))) rfl rfl ?_
        apply Ops.nil
        replace H := H.all
        replace h := Option.some.inj h; subst h
        exact ⟨rfl, ⟨rfl, rfl, rfl, rfl, trivial⟩, (H.erase 0)⟩
    · replace h := cond_F hc1 h
      apply Runs.exit
      replace h := Option.some.inj h; subst h
      exact ⟨nofun, (.inl ⟨_, rfl, rfl, trivial, H⟩)⟩
  · rintro x e σ (⟨a2, rfl, rfl, he, H⟩ | ⟨r', rfl, rfl, hE⟩)
    · skip
      replace h := jgo h
      obtain ⟨e, rfl⟩ := he.ex
      apply Runs.then
      refine Runs.regionH 1 rfl H ?_; intro b8 σ H
      refine Ops.assign (v := (.v (.bool false))) rfl rfl ?_
      apply Ops.nil
      replace H := H.all
      apply Runs.ret
      replace h := Option.some.inj h; subst h
      exact (Ends.H (xs := [(.v (.bool false))]) (.inr rfl) H (.tmp (v := (.v (.bool false))) rfl .nil) (.one (.c (.v _))))
    · skip
      replace h := jret h
      replace h := Option.some.inj h; subst h
      exact hE

end Go.Dn
