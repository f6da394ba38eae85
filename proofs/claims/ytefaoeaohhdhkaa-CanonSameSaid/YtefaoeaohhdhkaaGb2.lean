/- The interpreter answers as the plain functions do: part 2. -/
import Derived.Test.YtefaoeaohhdhkaaSh
import Derived.Test.YtefaoeaohhdhkaaGb1
set_option linter.unusedVariables false
set_option linter.unusedSimpArgs false
namespace Go.Dn
open Go Go.Proofs

set_option maxRecDepth 100000 in
set_option maxHeartbeats 4000000 in
theorem canon_turn_fn {f : Form} {d : Int} {by' : Int} {r : Bool} (h : canon_turn f d by' = some r) : Fn CX 66 [(.agg (vs (Form.cs f))), (.v (.int .i64 d)), (.v (.int .i64 by'))] (.v (.bool r)) := by
  refine Fn.ends Try.func66 rfl rfl rfl rfl rfl rfl ?_
  have H : Hs (⟨0, fun _ => .none⟩ : Heap) [] := Has.nil (Nat.le_refl _)
  generalize (⟨0, fun _ => .none⟩ : Heap) = σ at H ⊢
  unfold canon_turn at h
  apply Runs.then
  refine Runs.regionH 2 rfl H ?_; intro b1 σ H
  refine Ops.boxH (v := (.agg [(.v (.int .i64 f.Period)), (.v (.int .i64 f.Count)), (.v (.sl (f.Core.map (cL Span.cs)))), (.v (.sl (f.Odd.map Granule.cs)))])) (cs := [(.v (.int .i64 f.Period)), (.v (.int .i64 f.Count)), (.v (.sl (f.Core.map (cL Span.cs)))), (.v (.sl (f.Odd.map Granule.cs)))]) H (by omega) (by omega) rfl rfl rfl ?_; intro σ H
  refine Ops.assign (v := (.v (.bool false))) rfl rfl ?_
  apply Ops.nil
  replace H := H.all
  apply Runs.then
  apply Runs.then
  refine Runs.regionH 4 rfl H ?_; intro b2 σ H
  refine Ops.fieldAddrH (off := 0) (fo := 2) H 0 rfl rfl rfl rfl rfl nofun rfl ?_
  refine Ops.loadH (off := 2) (v := (.v (.sl (f.Core.map (cL Span.cs))))) H 0 rfl rfl rfl rfl rfl nofun rfl ?_
  refine Ops.lenPt (c := (cL Span.cs)) (xs := f.Core) rfl rfl rfl ?_
  refine Ops.move (v := (.v (.int .i64 0))) rfl rfl ?_
  apply Ops.nil
  replace H := H.all
  apply Runs.inBlock
  obtain ⟨y1, hj1, h⟩ := bind_some h
  obtain ⟨n1, hj1⟩ := loopO_iff.1 hj1
  refine Runs.mono (Runs.loopO hj1 (fun s1 e σ => EnvHas e [(1, (.v (.int .i64 d))), (2, (.v (.int .i64 by'))), (3, (.ptr (b1 + 0) 4 0)), (12, (.v (.sl (f.Core.map (cL Span.cs))))), (13, (.v (.int .i64 (f.Core.length : Int)))), (14, (.v (.int .i64 s1)))] ∧ Hs σ [.blk (b1 + 0) 25 [(.v (.int .i64 f.Period)), (.v (.int .i64 f.Count)), (.v (.sl (f.Core.map (cL Span.cs)))), (.v (.sl (f.Odd.map Granule.cs)))]]) (fun y1 x e σ => (∃ a1, y1 = (.go a1) ∧ x = .exit 0 ∧ EnvHas e [] ∧ Hs σ []) ∨ (∃ r', y1 = (.ret r') ∧ x = .ret ∧ Ends CX Try.f66.results.toList (.v (.bool r')) x e σ)) ⟨⟨rfl, rfl, rfl, rfl, rfl, rfl, trivial⟩, H⟩ ?_) ?_
  · intro s1 e σ hI z h
    obtain ⟨he, H⟩ := hI
    obtain ⟨e, rfl⟩ := he.ex
    unfold canon_turn.s0 at h
    apply Runs.then
    refine Runs.regionH 1 rfl H ?_; intro b3 σ H
    refine Ops.int (m := s1) (m' := (f.Core.length : Int)) (r := .bool (decide (s1 < (f.Core.length : Int)))) rfl rfl rfl rfl rfl ?_
    apply Ops.nil
    replace H := H.all
    apply Runs.then
    refine Runs.whether (v := (decide (s1 < (f.Core.length : Int)))) rfl ?_ ?_ <;> intro hc1
    · replace h := cond_T hc1 h
      apply Runs.skip
      apply Runs.then
      obtain ⟨y2, hj2, h⟩ := bind_some h
      refine Runs.mono (Q := fun x e σ => (∃ a2, y2 = (.go a2) ∧ x = .normal ∧ EnvHas e [(1, (.v (.int .i64 d))), (2, (.v (.int .i64 by'))), (3, (.ptr (b1 + 0) 4 0)), (12, (.v (.sl (f.Core.map (cL Span.cs))))), (13, (.v (.int .i64 (f.Core.length : Int)))), (14, (.v (.int .i64 s1)))] ∧ Hs σ [.blk (b1 + 0) 25 [(.v (.int .i64 f.Period)), (.v (.int .i64 f.Count)), (.v (.sl (f.Core.map (cL Span.cs)))), (.v (.sl (f.Odd.map Granule.cs)))]]) ∨ (∃ r', y2 = (.ret r') ∧ x = .ret ∧ Ends CX Try.f66.results.toList (.v (.bool r')) x e σ)) ?_ ?_
      · replace h := hj2
        apply Runs.inBlock
        obtain ⟨y3, hj3, h⟩ := bind_some h
        refine Runs.mono (Q := fun x e σ => (∃ a3, y3 = (.go a3) ∧ x = .normal ∧ EnvHas e [(1, (.v (.int .i64 d))), (2, (.v (.int .i64 by'))), (3, (.ptr (b1 + 0) 4 0)), (12, (.v (.sl (f.Core.map (cL Span.cs))))), (13, (.v (.int .i64 (f.Core.length : Int)))), (14, (.v (.int .i64 s1)))] ∧ Hs σ [.blk (b1 + 0) 25 [(.v (.int .i64 f.Period)), (.v (.int .i64 f.Count)), (.v (.sl (f.Core.map (cL Span.cs)))), (.v (.sl (f.Odd.map Granule.cs)))]]) ∨ (∃ r', y3 = (.ret r') ∧ x = .ret ∧ Ends CX Try.f66.results.toList (.v (.bool r')) x e σ)) ?_ ?_
        · replace h := hj3
          apply Runs.then
          refine Runs.regionH 5 rfl H ?_; intro b4 σ H
          refine Ops.move (v := (.v (.int .i64 s1))) rfl rfl ?_
          obtain ⟨x1, q1, h⟩ := bind_some h
          refine Ops.indexP (c := (cL Span.cs)) (u := x1) rfl rfl q1 rfl rfl rfl rfl ?_
          refine Ops.loadP (u := (.sl (x1.map Span.cs))) rfl rfl rfl rfl ?_
          refine Ops.assign (v := (.v (.int .i64 s1))) rfl rfl ?_
          refine Ops.assign (v := (.v (.sl (x1.map Span.cs)))) rfl rfl ?_
          apply Ops.nil
          replace H := H.all
          apply Runs.then
          refine Runs.regionH 4 rfl H ?_; intro b5 σ H
          refine Ops.move (v := (.v (.int .i64 s1))) rfl rfl ?_
          refine Ops.move (v := (.v (.int .i64 d))) rfl rfl ?_
          refine Ops.int (m := s1) (m' := d) (r := .int .i64 (w64 (s1 + d))) rfl rfl rfl rfl rfl ?_
          refine Ops.assign (v := (.v (.int .i64 (w64 (s1 + d))))) rfl rfl ?_
          apply Ops.nil
          replace H := H.all
          apply Runs.then
          refine Runs.regionH 1 rfl H ?_; intro b6 σ H
          refine Ops.assign (v := (.v (.int .i64 0))) rfl rfl ?_
          apply Ops.nil
          replace H := H.all
          apply Runs.then
          obtain ⟨y4, hj4, h⟩ := bind_some h
          refine Runs.mono (Q := fun x e σ => x = .normal ∧ EnvHas e [(1, (.v (.int .i64 d))), (2, (.v (.int .i64 by'))), (3, (.ptr (b1 + 0) 4 0)), (8, (.v (.sl (x1.map Span.cs)))), (9, (.v (.int .i64 y4.1))), (10, (.v (.int .i64 y4.2))), (12, (.v (.sl (f.Core.map (cL Span.cs))))), (13, (.v (.int .i64 (f.Core.length : Int)))), (14, (.v (.int .i64 s1)))] ∧ Hs σ [.blk (b1 + 0) 25 [(.v (.int .i64 f.Period)), (.v (.int .i64 f.Count)), (.v (.sl (f.Core.map (cL Span.cs)))), (.v (.sl (f.Odd.map Granule.cs)))]]) ?_ ?_
          · replace h := hj4
            apply Runs.then
            refine Runs.regionH 4 rfl H ?_; intro b7 σ H
            refine Ops.move (v := (.v (.int .i64 (w64 (s1 + d))))) rfl rfl ?_
            refine Ops.fieldAddrH (off := 0) (fo := 1) H 0 rfl rfl rfl rfl rfl nofun rfl ?_
            refine Ops.loadH (off := 1) (v := (.v (.int .i64 f.Count))) H 0 rfl rfl rfl rfl rfl nofun rfl ?_
            refine Ops.int (m := (w64 (s1 + d))) (m' := f.Count) (r := .bool (decide ((w64 (s1 + d)) ≥ f.Count))) rfl rfl rfl rfl rfl ?_
            apply Ops.nil
            replace H := H.all
            refine Runs.whether (v := (decide ((w64 (s1 + d)) ≥ f.Count))) rfl ?_ ?_ <;> intro hc2
            · replace h := cond_T hc2 h
              refine Runs.drawnH 8 rfl (by kernel_rfl) H ?_; intro b8 σ H B8
              refine Ops.move (v := (.v (.int .i64 (w64 (s1 + d))))) rfl rfl ?_
              refine Ops.fieldAddrH (off := 0) (fo := 1) H 0 rfl rfl rfl rfl rfl (fun _ => .inl ⟨B8 0 _ rfl _ rfl, nofun⟩) rfl ?_
              refine Ops.loadH (off := 1) (v := (.v (.int .i64 f.Count))) H 0 rfl rfl rfl rfl rfl (fun _ => .inl ⟨B8 0 _ rfl _ rfl, nofun⟩) rfl ?_
              refine Ops.int (m := (w64 (s1 + d))) (m' := f.Count) (r := .int .i64 (w64 ((w64 (s1 + d)) - f.Count))) rfl rfl rfl rfl rfl ?_
              refine Ops.fieldAddrH (off := 0) (fo := 0) H 0 rfl rfl rfl rfl rfl (fun _ => .inl ⟨B8 0 _ rfl _ rfl, nofun⟩) rfl ?_
              refine Ops.loadH (off := 0) (v := (.v (.int .i64 f.Period))) H 0 rfl rfl rfl rfl rfl (fun _ => .inl ⟨B8 0 _ rfl _ rfl, nofun⟩) rfl ?_
              refine Ops.assign (v := (.v (.int .i64 (w64 ((w64 (s1 + d)) - f.Count))))) rfl rfl ?_
              refine Ops.assign (v := (.v (.int .i64 f.Period))) rfl rfl ?_
              apply Ops.nil
              replace H := H.all
              replace h := Option.some.inj h; subst h
              exact ⟨rfl, ⟨rfl, rfl, rfl, rfl, rfl, rfl, rfl, rfl, rfl, trivial⟩, H⟩
            · replace h := cond_F hc2 h
              apply Runs.skip
              replace h := Option.some.inj h; subst h
              exact ⟨rfl, ⟨rfl, rfl, rfl, rfl, rfl, rfl, rfl, rfl, rfl, trivial⟩, H⟩
          · rintro x e σ ⟨rfl, he, H⟩
            obtain ⟨e, rfl⟩ := he.ex
            apply Runs.then
            refine Runs.regionH 11 rfl H ?_; intro b9 σ H
            refine Ops.move (v := (.v (.sl (x1.map Span.cs)))) rfl rfl ?_
            refine Ops.fieldAddrH (off := 0) (fo := 2) H 0 rfl rfl rfl rfl rfl nofun rfl ?_
            refine Ops.loadH (off := 2) (v := (.v (.sl (f.Core.map (cL Span.cs))))) H 0 rfl rfl rfl rfl rfl nofun rfl ?_
            refine Ops.move (v := (.v (.int .i64 y4.1))) rfl rfl ?_
            obtain ⟨x2, q2, h⟩ := bind_some h
            refine Ops.indexP (c := (cL Span.cs)) (u := x2) rfl rfl q2 rfl rfl rfl rfl ?_
            refine Ops.loadP (u := (.sl (x2.map Span.cs))) rfl rfl rfl rfl ?_
            refine Ops.move (v := (.v (.int .i64 by'))) rfl rfl ?_
            refine Ops.move (v := (.v (.int .i64 y4.2))) rfl rfl ?_
            refine Ops.int (m := by') (m' := y4.2) (r := .int .i64 (w64 (by' - y4.2))) rfl rfl rfl rfl rfl ?_
            obtain ⟨x3, q3, h⟩ := bind_some h
            refine Ops.call (ys := [(.v (.sl (x1.map Span.cs))), (.v (.sl (x2.map Span.cs))), (.v (.int .i64 (w64 (by' - y4.2))))]) (r := (.v (.bool x3))) rfl (canon_shifted_fn q3) rfl ?_
            refine Ops.not (b := x3) rfl rfl ?_
            apply Ops.nil
            replace H := H.all
            refine Runs.whether (v := (!x3)) rfl ?_ ?_ <;> intro hc3
            · replace h := cond_T hc3 h
              apply Runs.then
              refine Runs.regionH 1 rfl H ?_; intro b10 σ H
              refine Ops.assign (v := (.v (.bool false))) rfl rfl ?_
              apply Ops.nil
              replace H := H.all
              apply Runs.ret
              replace h := Option.some.inj h; subst h
              exact (.inr ⟨_, rfl, rfl, (Ends.H (xs := [(.v (.bool false))]) (.inr rfl) H (.tmp (v := (.v (.bool false))) rfl .nil) (.one (.c (.v _))))⟩)
            · replace h := cond_F hc3 h
              apply Runs.skip
              replace h := Option.some.inj h; subst h
              exact (.inl ⟨_, rfl, rfl, ⟨rfl, rfl, rfl, rfl, rfl, rfl, trivial⟩, H⟩)
        · rintro x e σ (⟨a4, rfl, rfl, he, H⟩ | ⟨r', rfl, rfl, hE⟩)
          · skip
            replace h := jgo h
            obtain ⟨e, rfl⟩ := he.ex
            replace h := Option.some.inj h; subst h
            exact (.inl ⟨_, rfl, rfl, ⟨rfl, rfl, rfl, rfl, rfl, rfl, trivial⟩, H⟩)
          · skip
            replace h := jret h
            replace h := Option.some.inj h; subst h
            exact (.inr ⟨_, rfl, rfl, hE⟩)
      · rintro x e σ (⟨a5, rfl, rfl, he, H⟩ | ⟨r', rfl, rfl, hE⟩)
        · skip
          replace h := jgo h
          obtain ⟨e, rfl⟩ := he.ex
          refine Runs.regionH 2 rfl H ?_; intro b11 σ H
          refine Ops.int (m := s1) (m' := 1) (r := .int .i64 (w64 (s1 + 1))) rfl rfl rfl rfl rfl ?_
          refine Ops.move (v := (.v (.int .i64 (w64 (s1 + 1))))) rfl rfl ?_
          apply Ops.nil
          replace H := H.all
          replace h := Option.some.inj h; subst h
          exact ⟨rfl, ⟨rfl, rfl, rfl, rfl, rfl, rfl, trivial⟩, H⟩
        · skip
          replace h := jret h
          replace h := Option.some.inj h; subst h
          exact ⟨nofun, (.inr ⟨_, rfl, rfl, hE⟩)⟩
    · replace h := cond_F hc1 h
      apply Runs.exit
      replace h := Option.some.inj h; subst h
      exact ⟨nofun, (.inl ⟨_, rfl, rfl, trivial, (H.erase 0)⟩)⟩
  · rintro x e σ (⟨a6, rfl, rfl, he, H⟩ | ⟨r', rfl, rfl, hE⟩)
    · skip
      replace h := jgo h
      obtain ⟨e, rfl⟩ := he.ex
      apply Runs.then
      refine Runs.regionH 1 rfl H ?_; intro b12 σ H
      refine Ops.assign (v := (.v (.bool true))) rfl rfl ?_
      apply Ops.nil
      replace H := H.all
      apply Runs.ret
      replace h := Option.some.inj h; subst h
      exact (Ends.H (xs := [(.v (.bool true))]) (.inr rfl) H (.tmp (v := (.v (.bool true))) rfl .nil) (.one (.c (.v _))))
    · skip
      replace h := jret h
      replace h := Option.some.inj h; subst h
      exact hE

theorem slices_Clone_SSpan_Span_fn {l : List Span} {r : List Span} (h : clone? 16 l = some r) : Fn CX 47 [(.v (.sl (l.map Span.cs)))] (.v (.sl (r.map Span.cs))) := by
  obtain ⟨h1, rfl⟩ := clone_some h
  refine Fn.intr ?_ rfl rfl rfl
  rw [cx_intr47]
  unfold cloneV
  dsimp only
  rw [if_pos ⟨by simp [Span.cs], by simpa using h1⟩]

set_option maxRecDepth 100000 in
set_option maxHeartbeats 4000000 in
theorem canon_core_fn {f : Form} {r : Form} (h : canon_core f = some r) : Fn CX 49 [(.agg (vs (Form.cs f)))] (.agg (vs (Form.cs r))) := by
  refine Fn.ends Try.func49 rfl rfl rfl rfl rfl rfl ?_
  have H : Hs (⟨0, fun _ => .none⟩ : Heap) [] := Has.nil (Nat.le_refl _)
  generalize (⟨0, fun _ => .none⟩ : Heap) = σ at H ⊢
  unfold canon_core at h
  apply Runs.then
  refine Runs.regionH 2 rfl H ?_; intro b1 σ H
  refine Ops.boxH (v := (.agg [(.v (.int .i64 f.Period)), (.v (.int .i64 f.Count)), (.v (.sl (f.Core.map (cL Span.cs)))), (.v (.sl (f.Odd.map Granule.cs)))])) (cs := [(.v (.int .i64 f.Period)), (.v (.int .i64 f.Count)), (.v (.sl (f.Core.map (cL Span.cs)))), (.v (.sl (f.Odd.map Granule.cs)))]) H (by omega) (by omega) rfl rfl rfl ?_; intro σ H
  refine Ops.allocH (cs := [(.v (.int .i64 0)), (.v (.int .i64 0)), .nils, .nils]) H (by omega) (by omega) rfl rfl ?_; intro σ H
  apply Ops.nil
  replace H := H.all
  apply Runs.scope
  apply Runs.then
  refine Runs.regionH 3 rfl H ?_; intro b2 σ H
  refine Ops.buildA (cs := [(.v (.int .i64 0)), (.v (.int .i64 0)), .nils, .nils]) rfl rfl ?_
  refine Ops.allocH (cs := [(.v (.int .i64 0)), (.v (.int .i64 0)), .nils, .nils]) H (by omega) (by omega) rfl rfl ?_; intro σ H
  refine Ops.storeH (off := 0) (v := (.agg [(.v (.int .i64 0)), (.v (.int .i64 0)), .nils, .nils])) (ys := [(.v (.int .i64 0)), (.v (.int .i64 0)), .nils, .nils]) (cells' := [(.v (.int .i64 0)), (.v (.int .i64 0)), .nils, .nils]) H 0 rfl rfl rfl rfl rfl rfl rfl rfl rfl nofun ?_; intro σ H
  apply Ops.nil
  replace H := H.all
  apply Runs.then
  apply Runs.then
  refine Runs.regionH 2 rfl H ?_; intro b3 σ H
  refine Ops.loadHA (off := 0) (cs := [(.v (.int .i64 f.Period)), (.v (.int .i64 f.Count)), (.v (.sl (f.Core.map (cL Span.cs)))), (.v (.sl (f.Odd.map Granule.cs)))]) H 2 rfl rfl rfl rfl rfl rfl rfl nofun rfl ?_
  obtain ⟨x1, q1, h⟩ := bind_some h
  refine Ops.call (ys := [(.agg [(.v (.int .i64 f.Period)), (.v (.int .i64 f.Count)), (.v (.sl (f.Core.map (cL Span.cs)))), (.v (.sl (f.Odd.map Granule.cs)))])]) (r := (.v (.bool x1))) rfl (canon_bare_fn q1) rfl ?_
  apply Ops.nil
  replace H := H.all
  refine Runs.whether (v := x1) rfl ?_ ?_ <;> intro hc1
  · replace h := cond_T hc1 h
    apply Runs.then
    refine Runs.regionH 2 rfl H ?_; intro b4 σ H
    refine Ops.loadHA (off := 0) (cs := [(.v (.int .i64 0)), (.v (.int .i64 0)), .nils, .nils]) H 0 rfl rfl rfl rfl rfl rfl rfl nofun rfl ?_
    refine Ops.storeH (off := 0) (v := (.agg [(.v (.int .i64 0)), (.v (.int .i64 0)), .nils, .nils])) (ys := [(.v (.int .i64 0)), (.v (.int .i64 0)), .nils, .nils]) (cells' := [(.v (.int .i64 0)), (.v (.int .i64 0)), .nils, .nils]) H 1 rfl rfl rfl rfl rfl rfl rfl rfl rfl nofun ?_; intro σ H
    apply Ops.nil
    replace H := H.all
    apply Runs.ret
    replace h := Option.some.inj h; subst h
    exact (Ends.H (xs := [(.agg [(.v (.int .i64 0)), (.v (.int .i64 0)), .nils, .nils])]) (.inr rfl) H (.agg (cs := [(.v (.int .i64 0)), (.v (.int .i64 0)), .nils, .nils]) (off := 0) 1 rfl rfl rfl rfl rfl rfl rfl .nil) (.one (.a (.cons (.v _) (.cons (.v _) (.cons .n (.cons .n .nil)))))))
  · replace h := cond_F hc1 h
    apply Runs.skip
    apply Runs.then
    apply Runs.label
    apply Runs.then
    obtain ⟨y1, hj1, h⟩ := bind_some h
    refine Runs.mono (Q := fun x e σ => ∃ (w1 : PV), x = .normal ∧ EnvHas e [(2, (.ptr (b1 + 1) 4 0)), (3, (.ptr (b2 + 1) 4 0))] ∧ Hs σ [.sl w1 31 1 (y1.1.map (cL Span.cs)) true, .blk (b2 + 1) 25 [(.v (.int .i64 y1.2.1)), (.v (.int .i64 y1.2.2)), w1, .nils], .blk (b1 + 1) 25 [(.v (.int .i64 0)), (.v (.int .i64 0)), .nils, .nils]]) ?_ ?_
    · replace h := hj1
      apply Runs.then
      refine Runs.regionH 3 rfl H ?_; intro b5 σ H
      refine Ops.fieldAddrH (off := 0) (fo := 1) H 2 rfl rfl rfl rfl rfl nofun rfl ?_
      refine Ops.loadH (off := 1) (v := (.v (.int .i64 f.Count))) H 2 rfl rfl rfl rfl rfl nofun rfl ?_
      refine Ops.callO (ys := [(.v (.int .i64 f.Count))]) rfl (canon_divisors_fn H) rfl rfl ?_; rintro _ σ ⟨id1, rfl, H⟩
      apply Ops.nil
      replace H := H.all
      apply Runs.inBlock
      replace H := H.pushNil 31 1 true
      obtain ⟨y2, hj2, h⟩ := bind_some h
      refine Runs.rangeH H rfl (fun s2 M => ∃ (w4 : PV), M = [.sl w4 31 1 (s2.1.map (cL Span.cs)) true, .blk id1 3 [(.v (.int .i64 f.Count))], .blk (b2 + 1) 25 [(.v (.int .i64 s2.2.1)), (.v (.int .i64 s2.2.2)), w4, .nils], .blk (b1 + 1) 25 [(.v (.int .i64 0)), (.v (.int .i64 0)), .nils, .nils], .blk (b1 + 0) 25 [(.v (.int .i64 f.Period)), (.v (.int .i64 f.Count)), (.v (.sl (f.Core.map (cL Span.cs)))), (.v (.sl (f.Odd.map Granule.cs)))]]) (fun z2 => [(.v (.int .i64 z2))]) (canon_core.b0 f) (fun p => if p = 0 then none else some (.exit 0)) rfl (fun p => by (repeat' split) <;> exact ⟨_, rfl⟩) (r := y2) ⟨.nils, rfl⟩ (fun _ => rfl) (fun _ => rfl) ?_ (fun id hy => canon_divisors_1_fn hy (fun s L hL => by obtain ⟨M, hM, rfl⟩ := hL; obtain ⟨_, rfl⟩ := hM; exact (.cons 2 rfl .nil)) hj2) ?_
      · intro R0 R1 s2 z2 s' p h σ M O hM H
        obtain ⟨w4, rfl⟩ := hM
        unfold canon_core.b0 at h
        refine Runs.env [(17, (.v (.int .i64 z2))), (1, (.ptr (b1 + 0) 4 0)), (2, (.ptr (b1 + 1) 4 0)), (3, (.ptr (b2 + 1) 4 0)), (16, (.clo 80 [] [(.ptr id1 1 0)]))] ⟨rfl, rfl, rfl, rfl, rfl, trivial⟩ fun e => ?_
        refine Runs.regionH 1 rfl H ?_; intro b6 σ H
        refine Ops.assign (v := (.v (.int .i64 z2))) rfl rfl ?_
        apply Ops.nil
        replace H := H.all
        refine ⟨rfl, [.sl w4 31 1 (s2.1.map (cL Span.cs)) true, .blk id1 3 [(.v (.int .i64 f.Count))], .blk (b2 + 1) 25 [(.v (.int .i64 s2.2.1)), (.v (.int .i64 s2.2.2)), w4, .nils], .blk (b1 + 1) 25 [(.v (.int .i64 0)), (.v (.int .i64 0)), .nils, .nils], .blk (b1 + 0) 25 [(.v (.int .i64 f.Period)), (.v (.int .i64 f.Count)), (.v (.sl (f.Core.map (cL Span.cs)))), (.v (.sl (f.Odd.map Granule.cs)))]], H, ?_⟩; intro σ H
        apply Runs.inBlock
        apply Runs.then
        refine Runs.drawnH 14 rfl (by kernel_rfl) H ?_; intro b7 σ H B7
        refine Ops.fieldAddrH (off := 0) (fo := 0) H 5 rfl rfl rfl rfl rfl (fun _ => .inl ⟨B7 5 _ rfl _ rfl, nofun⟩) rfl ?_
        refine Ops.loadH (off := 0) (v := (.v (.int .i64 f.Period))) H 5 rfl rfl rfl rfl rfl (fun _ => .inl ⟨B7 5 _ rfl _ rfl, nofun⟩) rfl ?_
        refine Ops.fieldAddrH (off := 0) (fo := 1) H 5 rfl rfl rfl rfl rfl (fun _ => .inl ⟨B7 5 _ rfl _ rfl, nofun⟩) rfl ?_
        refine Ops.loadH (off := 1) (v := (.v (.int .i64 f.Count))) H 5 rfl rfl rfl rfl rfl (fun _ => .inl ⟨B7 5 _ rfl _ rfl, nofun⟩) rfl ?_
        refine Ops.move (v := (.v (.int .i64 z2))) rfl rfl ?_
        obtain ⟨u1, q2, h⟩ := bind_some h
        refine Ops.quo (m := f.Count) (m' := z2) rfl rfl (nz_ne q2) rfl ?_
        obtain ⟨x2, q3, h⟩ := bind_some h
        refine Ops.call (ys := [(.v (.int .i64 f.Period)), (.v (.int .i64 (w64 (f.Count.tdiv z2))))]) (r := (.tup [(.v (.int .i64 x2.1)), (.v (.int .i64 x2.2.1)), (.v (.int .i64 x2.2.2))])) rfl (safe_Floor_fn q3) rfl ?_
        refine Ops.move (v := (.tup [(.v (.int .i64 x2.1)), (.v (.int .i64 x2.2.1)), (.v (.int .i64 x2.2.2))])) rfl rfl ?_
        refine Ops.extract (v := (.v (.int .i64 x2.1))) rfl rfl rfl ?_
        refine Ops.extract (v := (.v (.int .i64 x2.2.1))) rfl rfl rfl ?_
        refine Ops.extract (v := (.v (.int .i64 x2.2.2))) rfl rfl rfl ?_
        refine Ops.assign (v := (.v (.int .i64 x2.1))) rfl rfl ?_
        refine Ops.assign (v := (.v (.int .i64 x2.2.1))) rfl rfl ?_
        refine Ops.assign (v := (.v (.int .i64 x2.2.2))) rfl rfl ?_
        apply Ops.nil
        replace H := H.all
        apply Runs.then
        apply Runs.then
        refine Runs.regionH 9 rfl H ?_; intro b8 σ H
        refine Ops.move (v := (.v (.int .i64 x2.2.1))) rfl rfl ?_
        refine Ops.int (m := x2.2.1) (m' := 0) (r := .bool (x2.2.1 != 0)) rfl rfl rfl rfl rfl ?_
        refine Ops.move (v := (.v (.bool (x2.2.1 != 0)))) rfl rfl ?_
        obtain ⟨y3, hj3, h⟩ := bind_some h
        refine Ops.mid 6 (K1 := fun e σ => EnvHas e [(37, (.v (.bool y3))), (1, (.ptr (b1 + 0) 4 0)), (2, (.ptr (b1 + 1) 4 0)), (3, (.ptr (b2 + 1) 4 0)), (4, (.v (.int .i64 z2))), (5, (.v (.int .i64 x2.1)))] ∧ Has σ (b8 + 9) (b8 + 9) (R1 :: .sl w4 31 1 (s2.1.map (cL Span.cs)) true :: .blk id1 3 [(.v (.int .i64 f.Count))] :: .blk (b2 + 1) 25 [(.v (.int .i64 s2.2.1)), (.v (.int .i64 s2.2.2)), w4, .nils] :: .blk (b1 + 1) 25 [(.v (.int .i64 0)), (.v (.int .i64 0)), .nils, .nils] :: .blk (b1 + 0) 25 [(.v (.int .i64 f.Period)), (.v (.int .i64 f.Count)), (.v (.sl (f.Core.map (cL Span.cs)))), (.v (.sl (f.Odd.map Granule.cs)))] :: O)) rfl ?_ ?_
        · refine Ops.split rfl rfl ?_ ?_ <;> intro hc2
          · replace h := cond_T hc2 hj3
            refine Ops.pass rfl rfl rfl ?_
            refine Ops.pass rfl rfl rfl ?_
            refine Ops.pass rfl rfl rfl ?_
            refine Ops.pass rfl rfl rfl ?_
            refine Ops.pass rfl rfl rfl ?_
            refine Ops.pickT (v := (.v (.bool true))) rfl rfl rfl ?_
            apply Ops.nil
            replace h := Option.some.inj h; subst h
            exact ⟨⟨rfl, rfl, rfl, rfl, rfl, rfl, trivial⟩, H.weak (by omega) (Nat.le_refl _)⟩
          · replace h := cond_F hc2 hj3
            refine Ops.wanted rfl rfl ?_
            refine Ops.loadHA (off := 0) (cs := [(.v (.int .i64 f.Period)), (.v (.int .i64 f.Count)), (.v (.sl (f.Core.map (cL Span.cs)))), (.v (.sl (f.Odd.map Granule.cs)))]) H 5 rfl rfl rfl rfl rfl rfl rfl nofun rfl ?_
            refine Ops.wanted rfl rfl ?_
            refine Ops.move (v := (.v (.int .i64 z2))) rfl rfl ?_
            refine Ops.wanted rfl rfl ?_
            refine Ops.move (v := (.v (.int .i64 x2.1))) rfl rfl ?_
            refine Ops.wanted rfl rfl ?_
            obtain ⟨x3, q4, h⟩ := bind_some h
            refine Ops.call (ys := [(.agg [(.v (.int .i64 f.Period)), (.v (.int .i64 f.Count)), (.v (.sl (f.Core.map (cL Span.cs)))), (.v (.sl (f.Odd.map Granule.cs)))]), (.v (.int .i64 z2)), (.v (.int .i64 x2.1))]) (r := (.v (.bool x3))) rfl (canon_turn_fn q4) rfl ?_
            refine Ops.wanted rfl rfl ?_
            refine Ops.not (b := x3) rfl rfl ?_
            refine Ops.pickF (v := (.v (.bool (!x3)))) rfl rfl rfl ?_
            apply Ops.nil
            replace h := Option.some.inj h; subst h
            exact ⟨⟨rfl, rfl, rfl, rfl, rfl, rfl, trivial⟩, H.weak (by omega) (Nat.le_refl _)⟩
        · rintro e σ ⟨he, H⟩
          obtain ⟨e, rfl⟩ := he.ex
          apply Ops.nil
          replace H := H.all
          refine Runs.whether (v := y3) rfl ?_ ?_ <;> intro hc3
          · replace h := cond_T hc3 h
            apply Runs.exit
            obtain ⟨rfl, rfl⟩ := Prod.mk.inj (Option.some.inj h)
            exact ⟨⟨rfl, (iff_of_true rfl rfl)⟩, _, ⟨w4, rfl⟩, H⟩
          · replace h := cond_F hc3 h
            apply Runs.skip
            apply Runs.then
            refine Runs.regionH 6 rfl H ?_; intro b9 σ H
            refine Ops.move (v := (.v (.int .i64 x2.1))) rfl rfl ?_
            refine Ops.move (v := (.v (.int .i64 z2))) rfl rfl ?_
            refine Ops.fieldAddrH (off := 0) (fo := 0) H 3 rfl rfl rfl rfl rfl nofun rfl ?_
            refine Ops.storeH (off := 0) (v := (.v (.int .i64 x2.1))) (ys := [(.v (.int .i64 x2.1))]) (cells' := [(.v (.int .i64 x2.1)), (.v (.int .i64 s2.2.2)), w4, .nils]) H 3 rfl rfl rfl rfl rfl rfl rfl rfl rfl nofun ?_; intro σ H
            refine Ops.fieldAddrH (off := 0) (fo := 1) H 3 rfl rfl rfl rfl rfl nofun rfl ?_
            refine Ops.storeH (off := 1) (v := (.v (.int .i64 z2))) (ys := [(.v (.int .i64 z2))]) (cells' := [(.v (.int .i64 x2.1)), (.v (.int .i64 z2)), w4, .nils]) H 3 rfl rfl rfl rfl rfl rfl rfl rfl rfl nofun ?_; intro σ H
            apply Ops.nil
            replace H := H.all
            apply Runs.then
            apply Runs.then
            refine Runs.regionH 6 rfl H ?_; intro b10 σ H
            refine Ops.fieldAddrH (off := 0) (fo := 2) H 5 rfl rfl rfl rfl rfl nofun rfl ?_
            refine Ops.loadH (off := 2) (v := (.v (.sl (f.Core.map (cL Span.cs))))) H 5 rfl rfl rfl rfl rfl nofun rfl ?_
            refine Ops.move (v := (.v (.int .i64 z2))) rfl rfl ?_
            obtain ⟨x4, q5, h⟩ := bind_some h
            refine Ops.sliceP01 (c := (cL Span.cs)) q5 rfl rfl rfl rfl (fun _ => rfl) rfl ?_
            refine Ops.lenPt (c := (cL Span.cs)) (xs := x4) rfl rfl rfl ?_
            refine Ops.move (v := (.v (.int .i64 0))) rfl rfl ?_
            apply Ops.nil
            replace H := H.all
            apply Runs.inBlock
            obtain ⟨y4, hj4, h⟩ := bind_some h
            obtain ⟨n1, hj4⟩ := loopO_iff.1 hj4
            refine Runs.mono (Runs.loopO hj4 (fun s3 e σ => ∃ (w7 : PV), EnvHas e [(2, (.ptr (b1 + 1) 4 0)), (3, (.ptr (b2 + 1) 4 0)), (45, (.v (.sl (x4.map (cL Span.cs))))), (46, (.v (.int .i64 (x4.length : Int)))), (47, (.v (.int .i64 s3.1)))] ∧ Hs σ (R1 :: .sl w7 31 1 (s3.2.map (cL Span.cs)) true :: .blk id1 3 [(.v (.int .i64 f.Count))] :: .blk (b2 + 1) 25 [(.v (.int .i64 x2.1)), (.v (.int .i64 z2)), w7, .nils] :: .blk (b1 + 1) 25 [(.v (.int .i64 0)), (.v (.int .i64 0)), .nils, .nils] :: .blk (b1 + 0) 25 [(.v (.int .i64 f.Period)), (.v (.int .i64 f.Count)), (.v (.sl (f.Core.map (cL Span.cs)))), (.v (.sl (f.Odd.map Granule.cs)))] :: O)) (fun y4 x e σ => ∃ (w8 : PV), x = .exit 2 ∧ EnvHas e [(2, (.ptr (b1 + 1) 4 0)), (3, (.ptr (b2 + 1) 4 0))] ∧ Hs σ (R1 :: .sl w8 31 1 (y4.map (cL Span.cs)) true :: .blk id1 3 [(.v (.int .i64 f.Count))] :: .blk (b2 + 1) 25 [(.v (.int .i64 x2.1)), (.v (.int .i64 z2)), w8, .nils] :: .blk (b1 + 1) 25 [(.v (.int .i64 0)), (.v (.int .i64 0)), .nils, .nils] :: .blk (b1 + 0) 25 [(.v (.int .i64 f.Period)), (.v (.int .i64 f.Count)), (.v (.sl (f.Core.map (cL Span.cs)))), (.v (.sl (f.Odd.map Granule.cs)))] :: O)) ⟨w4, ⟨rfl, rfl, rfl, rfl, rfl, trivial⟩, H⟩ ?_) ?_
            · intro s3 e σ hI z h
              obtain ⟨w7, he, H⟩ := hI
              obtain ⟨e, rfl⟩ := he.ex
              unfold canon_core.s1 at h
              apply Runs.then
              refine Runs.regionH 1 rfl H ?_; intro b11 σ H
              refine Ops.int (m := s3.1) (m' := (x4.length : Int)) (r := .bool (decide (s3.1 < (x4.length : Int)))) rfl rfl rfl rfl rfl ?_
              apply Ops.nil
              replace H := H.all
              apply Runs.then
              refine Runs.whether (v := (decide (s3.1 < (x4.length : Int)))) rfl ?_ ?_ <;> intro hc4
              · replace h := cond_T hc4 h
                apply Runs.skip
                apply Runs.then
                apply Runs.inBlock
                apply Runs.then
                refine Runs.regionH 3 rfl H ?_; intro b12 σ H
                obtain ⟨x5, q6, h⟩ := bind_some h
                refine Ops.indexP (c := (cL Span.cs)) (u := x5) rfl rfl q6 rfl rfl rfl rfl ?_
                refine Ops.loadP (u := (.sl (x5.map Span.cs))) rfl rfl rfl rfl ?_
                refine Ops.assign (v := (.v (.sl (x5.map Span.cs)))) rfl rfl ?_
                apply Ops.nil
                replace H := H.all
                refine Runs.drawnH 8 rfl (by kernel_rfl) H ?_; intro b13 σ H B13
                refine Ops.fieldAddrH (off := 0) (fo := 2) H 3 rfl rfl rfl rfl rfl (fun _ => .inl ⟨B13 3 _ rfl _ rfl, nofun⟩) rfl ?_
                refine Ops.loadH (off := 2) (v := w7) H 3 rfl rfl rfl rfl rfl (fun _ => .inl ⟨B13 3 _ rfl _ rfl, nofun⟩) rfl ?_
                refine Ops.move (v := (.v (.sl (x5.map Span.cs)))) rfl rfl ?_
                obtain ⟨x6, q7, h⟩ := bind_some h
                refine Ops.call (ys := [(.v (.sl (x5.map Span.cs)))]) (r := (.v (.sl (x6.map Span.cs)))) rfl (slices_Clone_SSpan_Span_fn q7) rfl ?_
                refine Ops.buildS (sz := 1) ([x6].map (cL Span.cs)) H (by omega) (by omega) rfl rfl rfl rfl rfl rfl rfl rfl rfl ?_; intro σ H
                obtain ⟨x7, q8, h⟩ := bind_some h
                refine Ops.appendSt (c := (cL Span.cs)) (v := w7) (w := (.buf (b13 + 4) 1 1)) (xs := s3.2) (ys := [x6]) H (by omega) (by omega) 2 rfl rfl rfl (.s 0 rfl) q8 rfl rfl rfl rfl rfl (fun h => ⟨(fun id ho => .inl ⟨B13 1 _ rfl id ho, (fun _ => by kernel_rfl)⟩), (fun id ho => .inr ⟨4, (by cases ho; rfl), (fun h => nomatch h), by kernel_rfl, by decide⟩)⟩) rfl ?_; intro w9 σ H
                refine Ops.fieldAddrH (off := 0) (fo := 2) H 4 rfl rfl rfl rfl rfl (fun _ => .inl ⟨B13 3 _ rfl _ rfl, nofun⟩) rfl ?_
                refine Ops.storeH (off := 2) (v := w9) (ys := [w9]) (cells' := [(.v (.int .i64 x2.1)), (.v (.int .i64 z2)), w9, .nils]) H 4 rfl rfl rfl rfl (H.slCells (k := 2) rfl) rfl rfl rfl rfl (fun _ => .inl ⟨B13 3 _ rfl _ rfl, (fun _ => by kernel_rfl)⟩) ?_; intro σ H
                apply Ops.nil
                replace H := H.all
                refine Runs.regionH 2 rfl H ?_; intro b14 σ H
                refine Ops.int (m := s3.1) (m' := 1) (r := .int .i64 (w64 (s3.1 + 1))) rfl rfl rfl rfl rfl ?_
                refine Ops.move (v := (.v (.int .i64 (w64 (s3.1 + 1))))) rfl rfl ?_
                apply Ops.nil
                replace H := H.all
                replace h := Option.some.inj h; subst h
                exact ⟨rfl, w9, ⟨rfl, rfl, rfl, rfl, rfl, trivial⟩, (H.erase 0)⟩
              · replace h := cond_F hc4 h
                apply Runs.exit
                replace h := Option.some.inj h; subst h
                exact ⟨nofun, ⟨w7, rfl, ⟨rfl, rfl, trivial⟩, H⟩⟩
            · rintro x e σ ⟨w10, rfl, he, H⟩
              obtain ⟨e, rfl⟩ := he.ex
              apply Runs.exit
              obtain ⟨rfl, rfl⟩ := Prod.mk.inj (Option.some.inj h)
              exact ⟨⟨rfl, (iff_of_false nofun nofun)⟩, _, ⟨w10, rfl⟩, H⟩
      · intro x σ M hx hM H
        obtain ⟨w11, rfl⟩ := hM
        cases hc0_ : (y2.2 == 0)
        · replace h := cond_F hc0_ h
          have hx : x = .exit 0 := by simpa [ne_of_beq_false hc0_, jumpD] using hx.symm
          subst hx
          replace h := Option.some.inj h; subst h
          exact ⟨w11, rfl, ⟨rfl, rfl, trivial⟩, ((H.erase 4).erase 1)⟩
        · replace h := cond_T hc0_ h
          have hx : x = .normal := by rw [eq_of_beq hc0_] at hx; exact (Option.some.inj hx).symm
          subst hx
          replace h := Option.some.inj h; subst h
          exact ⟨w11, rfl, ⟨rfl, rfl, trivial⟩, ((H.erase 4).erase 1)⟩
    · rintro x e σ ⟨w12, rfl, he, H⟩
      obtain ⟨e, rfl⟩ := he.ex
      apply Runs.then
      refine Runs.regionH 2 rfl H ?_; intro b15 σ H
      refine Ops.loadHA (off := 0) (cs := [(.v (.int .i64 y1.2.1)), (.v (.int .i64 y1.2.2)), w12, .nils]) H 1 rfl rfl rfl rfl rfl rfl rfl nofun rfl ?_
      refine Ops.storeH (off := 0) (v := (.agg [(.v (.int .i64 y1.2.1)), (.v (.int .i64 y1.2.2)), w12, .nils])) (ys := [(.v (.int .i64 y1.2.1)), (.v (.int .i64 y1.2.2)), w12, .nils]) (cells' := [(.v (.int .i64 y1.2.1)), (.v (.int .i64 y1.2.2)), w12, .nils]) H 2 rfl rfl rfl rfl rfl rfl rfl rfl rfl nofun ?_; intro σ H
      apply Ops.nil
      replace H := H.all
      apply Runs.ret
      replace h := Option.some.inj h; subst h
      exact (Ends.H (xs := [(.agg [(.v (.int .i64 y1.2.1)), (.v (.int .i64 y1.2.2)), w12, .nils])]) (.inr rfl) H (.agg (cs := [(.v (.int .i64 y1.2.1)), (.v (.int .i64 y1.2.2)), w12, .nils]) (off := 0) 2 rfl rfl rfl rfl rfl rfl rfl .nil) (.one (.a (.cons (.v _) (.cons (.v _) (.cons (.s 0 rfl) (.cons .n .nil)))))))

set_option maxRecDepth 100000 in
set_option maxHeartbeats 4000000 in
theorem canon_plain_fn {f : Form} {g : Granule} {r : Bool} (h : canon_plain f g = some r) : Fn CX 50 [(.agg (vs (Form.cs f))), (.agg (vs (Granule.cs g)))] (.v (.bool r)) := by
  refine Fn.ends Try.func50 rfl rfl rfl rfl rfl rfl ?_
  have H : Hs (⟨0, fun _ => .none⟩ : Heap) [] := Has.nil (Nat.le_refl _)
  generalize (⟨0, fun _ => .none⟩ : Heap) = σ at H ⊢
  unfold canon_plain at h
  apply Runs.then
  refine Runs.regionH 3 rfl H ?_; intro b1 σ H
  refine Ops.boxH (v := (.agg [(.v (.int .i64 f.Period)), (.v (.int .i64 f.Count)), (.v (.sl (f.Core.map (cL Span.cs)))), (.v (.sl (f.Odd.map Granule.cs)))])) (cs := [(.v (.int .i64 f.Period)), (.v (.int .i64 f.Count)), (.v (.sl (f.Core.map (cL Span.cs)))), (.v (.sl (f.Odd.map Granule.cs)))]) H (by omega) (by omega) rfl rfl rfl ?_; intro σ H
  refine Ops.boxH (v := (.agg [(.v (.int .i64 g.Index)), (.v (.sl (g.Ticks.map Span.cs)))])) (cs := [(.v (.int .i64 g.Index)), (.v (.sl (g.Ticks.map Span.cs)))]) H (by omega) (by omega) rfl rfl rfl ?_; intro σ H
  refine Ops.assign (v := (.v (.bool false))) rfl rfl ?_
  apply Ops.nil
  replace H := H.all
  apply Runs.then
  refine Runs.regionH 9 rfl H ?_; intro b2 σ H
  refine Ops.loadHA (off := 0) (cs := [(.v (.int .i64 f.Period)), (.v (.int .i64 f.Count)), (.v (.sl (f.Core.map (cL Span.cs)))), (.v (.sl (f.Odd.map Granule.cs)))]) H 1 rfl rfl rfl rfl rfl rfl rfl nofun rfl ?_
  refine Ops.fieldAddrH (off := 0) (fo := 0) H 0 rfl rfl rfl rfl rfl nofun rfl ?_
  refine Ops.loadH (off := 0) (v := (.v (.int .i64 g.Index))) H 0 rfl rfl rfl rfl rfl nofun rfl ?_
  obtain ⟨x1, q1, h⟩ := bind_some h
  refine Ops.call (ys := [(.agg [(.v (.int .i64 f.Period)), (.v (.int .i64 f.Count)), (.v (.sl (f.Core.map (cL Span.cs)))), (.v (.sl (f.Odd.map Granule.cs)))]), (.v (.int .i64 g.Index))]) (r := (.tup [(.v (.sl (x1.1.map Span.cs))), (.v (.int .i64 x1.2))])) rfl (gran_Get_fn q1) rfl ?_
  refine Ops.move (v := (.tup [(.v (.sl (x1.1.map Span.cs))), (.v (.int .i64 x1.2))])) rfl rfl ?_
  refine Ops.extract (v := (.v (.sl (x1.1.map Span.cs)))) rfl rfl rfl ?_
  refine Ops.extract (v := (.v (.int .i64 x1.2))) rfl rfl rfl ?_
  refine Ops.assign (v := (.v (.sl (x1.1.map Span.cs)))) rfl rfl ?_
  refine Ops.assign (v := (.v (.int .i64 x1.2))) rfl rfl ?_
  apply Ops.nil
  replace H := H.all
  apply Runs.then
  refine Runs.regionH 9 rfl H ?_; intro b3 σ H
  refine Ops.move (v := (.v (.int .i64 x1.2))) rfl rfl ?_
  refine Ops.int (m := x1.2) (m' := 0) (r := .bool (x1.2 == 0)) rfl rfl rfl rfl rfl ?_
  refine Ops.move (v := (.v (.bool (x1.2 == 0)))) rfl rfl ?_
  obtain ⟨y1, hj1, h⟩ := bind_some h
  refine Ops.mid 5 (K1 := fun e σ => EnvHas e [(21, (.v (.bool y1)))] ∧ Has σ (b3 + 8) (b3 + 9) []) rfl ?_ ?_
  · refine Ops.split rfl rfl ?_ ?_ <;> intro hc1
    · replace h := cond_T hc1 hj1
      refine Ops.wanted rfl rfl ?_
      refine Ops.move (v := (.v (.sl (x1.1.map Span.cs)))) rfl rfl ?_
      refine Ops.wanted rfl rfl ?_
      refine Ops.fieldAddrH (off := 0) (fo := 1) H 0 rfl rfl rfl rfl rfl nofun rfl ?_
      refine Ops.wanted rfl rfl ?_
      refine Ops.loadH (off := 1) (v := (.v (.sl (g.Ticks.map Span.cs)))) H 0 rfl rfl rfl rfl rfl nofun rfl ?_
      refine Ops.wanted rfl rfl ?_
      obtain ⟨x2, q2, h⟩ := bind_some h
      refine Ops.call (ys := [(.v (.sl (x1.1.map Span.cs))), (.v (.sl (g.Ticks.map Span.cs)))]) (r := (.v (.bool x2))) rfl (spans_Same_fn q2) rfl ?_
      refine Ops.pickT (v := (.v (.bool x2))) rfl rfl rfl ?_
      apply Ops.nil
      replace h := Option.some.inj h; subst h
      exact ⟨⟨rfl, trivial⟩, ((H.erase 1).erase 0).weak (by omega) (Nat.le_refl _)⟩
    · replace h := cond_F hc1 hj1
      refine Ops.pass rfl rfl rfl ?_
      refine Ops.pass rfl rfl rfl ?_
      refine Ops.pass rfl rfl rfl ?_
      refine Ops.pass rfl rfl rfl ?_
      refine Ops.pickF (v := (.v (.bool false))) rfl rfl rfl ?_
      apply Ops.nil
      replace h := Option.some.inj h; subst h
      exact ⟨⟨rfl, trivial⟩, ((H.erase 1).erase 0).weak (by omega) (Nat.le_refl _)⟩
  · rintro e σ ⟨he, H⟩
    obtain ⟨e, rfl⟩ := he.ex
    refine Ops.assign (v := (.v (.bool y1))) rfl rfl ?_
    apply Ops.nil
    replace H := H.all
    apply Runs.ret
    replace h := Option.some.inj h; subst h
    exact (Ends.H (xs := [(.v (.bool y1))]) (.inr rfl) H (.tmp (v := (.v (.bool y1))) rfl .nil) (.one (.c (.v _))))

set_option maxRecDepth 100000 in
set_option maxHeartbeats 4000000 in
theorem canon_Form_fn {f : Form} {r : Form} (h : canon_Form f = some r) : Fn CX 27 [(.agg (vs (Form.cs f)))] (.agg (vs (Form.cs r))) := by
  refine Fn.ends Try.func27 rfl rfl rfl rfl rfl rfl ?_
  have H : Hs (⟨0, fun _ => .none⟩ : Heap) [] := Has.nil (Nat.le_refl _)
  generalize (⟨0, fun _ => .none⟩ : Heap) = σ at H ⊢
  unfold canon_Form at h
  apply Runs.then
  refine Runs.regionH 2 rfl H ?_; intro b1 σ H
  refine Ops.boxH (v := (.agg [(.v (.int .i64 f.Period)), (.v (.int .i64 f.Count)), (.v (.sl (f.Core.map (cL Span.cs)))), (.v (.sl (f.Odd.map Granule.cs)))])) (cs := [(.v (.int .i64 f.Period)), (.v (.int .i64 f.Count)), (.v (.sl (f.Core.map (cL Span.cs)))), (.v (.sl (f.Odd.map Granule.cs)))]) H (by omega) (by omega) rfl rfl rfl ?_; intro σ H
  refine Ops.allocH (cs := [(.v (.int .i64 0)), (.v (.int .i64 0)), .nils, .nils]) H (by omega) (by omega) rfl rfl ?_; intro σ H
  apply Ops.nil
  replace H := H.all
  apply Runs.then
  refine Runs.regionH 4 rfl H ?_; intro b2 σ H
  refine Ops.loadHA (off := 0) (cs := [(.v (.int .i64 f.Period)), (.v (.int .i64 f.Count)), (.v (.sl (f.Core.map (cL Span.cs)))), (.v (.sl (f.Odd.map Granule.cs)))]) H 1 rfl rfl rfl rfl rfl rfl rfl nofun rfl ?_
  obtain ⟨x1, q1, h⟩ := bind_some h
  refine Ops.call (ys := [(.agg [(.v (.int .i64 f.Period)), (.v (.int .i64 f.Count)), (.v (.sl (f.Core.map (cL Span.cs)))), (.v (.sl (f.Odd.map Granule.cs)))])]) (r := (.agg [(.v (.int .i64 x1.Period)), (.v (.int .i64 x1.Count)), (.v (.sl (x1.Core.map (cL Span.cs)))), (.v (.sl (x1.Odd.map Granule.cs)))])) rfl (canon_core_fn q1) rfl ?_
  refine Ops.allocH (cs := [(.v (.int .i64 0)), (.v (.int .i64 0)), .nils, .nils]) H (by omega) (by omega) rfl rfl ?_; intro σ H
  refine Ops.storeH (off := 0) (v := (.agg [(.v (.int .i64 x1.Period)), (.v (.int .i64 x1.Count)), (.v (.sl (x1.Core.map (cL Span.cs)))), (.v (.sl (x1.Odd.map Granule.cs)))])) (ys := [(.v (.int .i64 x1.Period)), (.v (.int .i64 x1.Count)), (.v (.sl (x1.Core.map (cL Span.cs)))), (.v (.sl (x1.Odd.map Granule.cs)))]) (cells' := [(.v (.int .i64 x1.Period)), (.v (.int .i64 x1.Count)), (.v (.sl (x1.Core.map (cL Span.cs)))), (.v (.sl (x1.Odd.map Granule.cs)))]) H 0 rfl rfl rfl rfl rfl rfl rfl rfl rfl nofun ?_; intro σ H
  apply Ops.nil
  replace H := H.all
  apply Runs.then
  refine Runs.regionH 1 rfl H ?_; intro b3 σ H
  refine Ops.assign (v := .nils) rfl rfl ?_
  apply Ops.nil
  replace H := H.all
  apply Runs.then
  apply Runs.then
  refine Runs.regionH 4 rfl H ?_; intro b4 σ H
  refine Ops.fieldAddrH (off := 0) (fo := 3) H 2 rfl rfl rfl rfl rfl nofun rfl ?_
  refine Ops.loadH (off := 3) (v := (.v (.sl (f.Odd.map Granule.cs)))) H 2 rfl rfl rfl rfl rfl nofun rfl ?_
  refine Ops.lenPt (c := Granule.cs) (xs := f.Odd) rfl rfl rfl ?_
  refine Ops.move (v := (.v (.int .i64 0))) rfl rfl ?_
  apply Ops.nil
  replace H := H.all
  apply Runs.inBlock
  replace H := H.pushNil 45 2 true
  obtain ⟨y1, hj1, h⟩ := bind_some h
  obtain ⟨n1, hj1⟩ := loopO_iff.1 hj1
  refine Runs.mono (Runs.loopO hj1 (fun s2 e σ => ∃ (w3 : PV), EnvHas e [(2, (.ptr (b1 + 1) 4 0)), (3, (.ptr (b2 + 2) 4 0)), (4, w3), (10, (.v (.sl (f.Odd.map Granule.cs)))), (11, (.v (.int .i64 (f.Odd.length : Int)))), (12, (.v (.int .i64 s2.1)))] ∧ Hs σ [.sl w3 45 2 (s2.2.map Granule.cs) true, .blk (b2 + 2) 25 [(.v (.int .i64 x1.Period)), (.v (.int .i64 x1.Count)), (.v (.sl (x1.Core.map (cL Span.cs)))), (.v (.sl (x1.Odd.map Granule.cs)))], .blk (b1 + 1) 25 [(.v (.int .i64 0)), (.v (.int .i64 0)), .nils, .nils]]) (fun y1 x e σ => ∃ (w4 : PV), x = .exit 0 ∧ EnvHas e [(2, (.ptr (b1 + 1) 4 0)), (3, (.ptr (b2 + 2) 4 0)), (4, w4)] ∧ Hs σ [.sl w4 45 2 (y1.map Granule.cs) true, .blk (b2 + 2) 25 [(.v (.int .i64 x1.Period)), (.v (.int .i64 x1.Count)), (.v (.sl (x1.Core.map (cL Span.cs)))), (.v (.sl (x1.Odd.map Granule.cs)))], .blk (b1 + 1) 25 [(.v (.int .i64 0)), (.v (.int .i64 0)), .nils, .nils]]) ⟨.nils, ⟨rfl, rfl, rfl, rfl, rfl, rfl, trivial⟩, (H.erase 3)⟩ ?_) ?_
  · intro s2 e σ hI z h
    obtain ⟨w3, he, H⟩ := hI
    obtain ⟨e, rfl⟩ := he.ex
    unfold canon_Form.s0 at h
    apply Runs.then
    refine Runs.regionH 1 rfl H ?_; intro b5 σ H
    refine Ops.int (m := s2.1) (m' := (f.Odd.length : Int)) (r := .bool (decide (s2.1 < (f.Odd.length : Int)))) rfl rfl rfl rfl rfl ?_
    apply Ops.nil
    replace H := H.all
    apply Runs.then
    refine Runs.whether (v := (decide (s2.1 < (f.Odd.length : Int)))) rfl ?_ ?_ <;> intro hc1
    · replace h := cond_T hc1 h
      apply Runs.skip
      apply Runs.then
      obtain ⟨y2, hj2, h⟩ := bind_some h
      refine Runs.mono (Q := fun x e σ => ∃ (w5 : PV), x = .normal ∧ EnvHas e [(2, (.ptr (b1 + 1) 4 0)), (3, (.ptr (b2 + 2) 4 0)), (4, w5), (10, (.v (.sl (f.Odd.map Granule.cs)))), (11, (.v (.int .i64 (f.Odd.length : Int)))), (12, (.v (.int .i64 s2.1)))] ∧ Hs σ [.sl w5 45 2 (y2.map Granule.cs) true, .blk (b2 + 2) 25 [(.v (.int .i64 x1.Period)), (.v (.int .i64 x1.Count)), (.v (.sl (x1.Core.map (cL Span.cs)))), (.v (.sl (x1.Odd.map Granule.cs)))], .blk (b1 + 1) 25 [(.v (.int .i64 0)), (.v (.int .i64 0)), .nils, .nils]]) ?_ ?_
      · replace h := hj2
        apply Runs.inBlock
        obtain ⟨y3, hj3, h⟩ := bind_some h
        refine Runs.mono (Q := fun x e σ => ∃ (w6 : PV), x = .normal ∧ EnvHas e [(2, (.ptr (b1 + 1) 4 0)), (3, (.ptr (b2 + 2) 4 0)), (4, w6), (10, (.v (.sl (f.Odd.map Granule.cs)))), (11, (.v (.int .i64 (f.Odd.length : Int)))), (12, (.v (.int .i64 s2.1)))] ∧ Hs σ [.sl w6 45 2 (y3.map Granule.cs) true, .blk (b2 + 2) 25 [(.v (.int .i64 x1.Period)), (.v (.int .i64 x1.Count)), (.v (.sl (x1.Core.map (cL Span.cs)))), (.v (.sl (x1.Odd.map Granule.cs)))], .blk (b1 + 1) 25 [(.v (.int .i64 0)), (.v (.int .i64 0)), .nils, .nils]]) ?_ ?_
        · replace h := hj3
          apply Runs.then
          refine Runs.regionH 4 rfl H ?_; intro b6 σ H
          obtain ⟨x2, q2, h⟩ := bind_some h
          refine Ops.indexP (c := Granule.cs) (u := x2) rfl rfl q2 rfl rfl rfl rfl ?_
          refine Ops.loadPA (cs := [(.int .i64 x2.Index), (.sl (x2.Ticks.map Span.cs))]) rfl rfl rfl rfl rfl rfl ?_
          refine Ops.allocH (cs := [(.v (.int .i64 0)), .nils]) H (by omega) (by omega) rfl rfl ?_; intro σ H
          refine Ops.storeH (off := 0) (v := (.agg [(.v (.int .i64 x2.Index)), (.v (.sl (x2.Ticks.map Span.cs)))])) (ys := [(.v (.int .i64 x2.Index)), (.v (.sl (x2.Ticks.map Span.cs)))]) (cells' := [(.v (.int .i64 x2.Index)), (.v (.sl (x2.Ticks.map Span.cs)))]) H 0 rfl rfl rfl rfl rfl rfl rfl rfl rfl nofun ?_; intro σ H
          apply Ops.nil
          replace H := H.all
          apply Runs.then
          refine Runs.regionH 4 rfl H ?_; intro b7 σ H
          refine Ops.loadHA (off := 0) (cs := [(.v (.int .i64 x1.Period)), (.v (.int .i64 x1.Count)), (.v (.sl (x1.Core.map (cL Span.cs)))), (.v (.sl (x1.Odd.map Granule.cs)))]) H 2 rfl rfl rfl rfl rfl rfl rfl nofun rfl ?_
          refine Ops.loadHA (off := 0) (cs := [(.v (.int .i64 x2.Index)), (.v (.sl (x2.Ticks.map Span.cs)))]) H 0 rfl rfl rfl rfl rfl rfl rfl nofun rfl ?_
          obtain ⟨x3, q3, h⟩ := bind_some h
          refine Ops.call (ys := [(.agg [(.v (.int .i64 x1.Period)), (.v (.int .i64 x1.Count)), (.v (.sl (x1.Core.map (cL Span.cs)))), (.v (.sl (x1.Odd.map Granule.cs)))]), (.agg [(.v (.int .i64 x2.Index)), (.v (.sl (x2.Ticks.map Span.cs)))])]) (r := (.v (.bool x3))) rfl (canon_plain_fn q3) rfl ?_
          refine Ops.not (b := x3) rfl rfl ?_
          apply Ops.nil
          replace H := H.all
          refine Runs.whether (v := (!x3)) rfl ?_ ?_ <;> intro hc2
          · replace h := cond_T hc2 h
            refine Runs.drawnH 10 rfl (by kernel_rfl) H ?_; intro b8 σ H B8
            refine Ops.move (v := w3) rfl rfl ?_
            refine Ops.fieldAddrH (off := 0) (fo := 0) H 0 rfl rfl rfl rfl rfl (fun _ => .inl ⟨B8 0 _ rfl _ rfl, nofun⟩) rfl ?_
            refine Ops.loadH (off := 0) (v := (.v (.int .i64 x2.Index))) H 0 rfl rfl rfl rfl rfl (fun _ => .inl ⟨B8 0 _ rfl _ rfl, nofun⟩) rfl ?_
            refine Ops.fieldAddrH (off := 0) (fo := 1) H 0 rfl rfl rfl rfl rfl (fun _ => .inl ⟨B8 0 _ rfl _ rfl, nofun⟩) rfl ?_
            refine Ops.loadH (off := 1) (v := (.v (.sl (x2.Ticks.map Span.cs)))) H 0 rfl rfl rfl rfl rfl (fun _ => .inl ⟨B8 0 _ rfl _ rfl, nofun⟩) rfl ?_
            obtain ⟨x4, q4, h⟩ := bind_some h
            refine Ops.call (ys := [(.v (.sl (x2.Ticks.map Span.cs)))]) (r := (.v (.sl (x4.map Span.cs)))) rfl (slices_Clone_SSpan_Span_fn q4) rfl ?_
            refine Ops.buildA (cs := [(.v (.int .i64 x2.Index)), (.v (.sl (x4.map Span.cs)))]) rfl rfl ?_
            refine Ops.buildS (sz := 2) ([(Granule.mk x2.Index x4)].map Granule.cs) H (by omega) (by omega) rfl rfl rfl rfl rfl rfl rfl rfl rfl ?_; intro σ H
            obtain ⟨x5, q5, h⟩ := bind_some h
            refine Ops.appendSt (c := Granule.cs) (v := w3) (w := (.buf (b8 + 7) 1 2)) (xs := s2.2) (ys := [(Granule.mk x2.Index x4)]) H (by omega) (by omega) 2 rfl rfl rfl (.s 0 rfl) q5 rfl rfl rfl rfl rfl (fun h => ⟨(fun id ho => .inl ⟨B8 1 _ rfl id ho, (fun _ => by kernel_rfl)⟩), (fun id ho => .inr ⟨7, (by cases ho; rfl), (fun h => nomatch h), by kernel_rfl, by decide⟩)⟩) rfl ?_; intro w7 σ H
            refine Ops.assign (v := w7) rfl rfl ?_
            apply Ops.nil
            replace H := H.all
            replace h := Option.some.inj h; subst h
            exact ⟨w7, rfl, ⟨rfl, rfl, rfl, rfl, rfl, rfl, trivial⟩, ((H.erase 1).erase 0)⟩
          · replace h := cond_F hc2 h
            apply Runs.skip
            replace h := Option.some.inj h; subst h
            exact ⟨w3, rfl, ⟨rfl, rfl, rfl, rfl, rfl, rfl, trivial⟩, (H.erase 0)⟩
        · rintro x e σ ⟨w8, rfl, he, H⟩
          obtain ⟨e, rfl⟩ := he.ex
          replace h := Option.some.inj h; subst h
          exact ⟨w8, rfl, ⟨rfl, rfl, rfl, rfl, rfl, rfl, trivial⟩, H⟩
      · rintro x e σ ⟨w9, rfl, he, H⟩
        obtain ⟨e, rfl⟩ := he.ex
        refine Runs.regionH 2 rfl H ?_; intro b9 σ H
        refine Ops.int (m := s2.1) (m' := 1) (r := .int .i64 (w64 (s2.1 + 1))) rfl rfl rfl rfl rfl ?_
        refine Ops.move (v := (.v (.int .i64 (w64 (s2.1 + 1))))) rfl rfl ?_
        apply Ops.nil
        replace H := H.all
        replace h := Option.some.inj h; subst h
        exact ⟨rfl, w9, ⟨rfl, rfl, rfl, rfl, rfl, rfl, trivial⟩, H⟩
    · replace h := cond_F hc1 h
      apply Runs.exit
      replace h := Option.some.inj h; subst h
      exact ⟨nofun, ⟨w3, rfl, ⟨rfl, rfl, rfl, trivial⟩, H⟩⟩
  · rintro x e σ ⟨w10, rfl, he, H⟩
    obtain ⟨e, rfl⟩ := he.ex
    apply Runs.then
    refine Runs.regionH 3 rfl H ?_; intro b10 σ H
    refine Ops.move (v := w10) rfl rfl ?_
    refine Ops.fieldAddrH (off := 0) (fo := 3) H 1 rfl rfl rfl rfl rfl nofun rfl ?_
    refine Ops.storeH (off := 3) (v := w10) (ys := [w10]) (cells' := [(.v (.int .i64 x1.Period)), (.v (.int .i64 x1.Count)), (.v (.sl (x1.Core.map (cL Span.cs)))), w10]) H 1 rfl rfl rfl rfl (H.slCells (k := 0) rfl) rfl rfl rfl rfl nofun ?_; intro σ H
    apply Ops.nil
    replace H := H.all
    apply Runs.then
    refine Runs.regionH 2 rfl H ?_; intro b11 σ H
    refine Ops.loadHA (off := 0) (cs := [(.v (.int .i64 x1.Period)), (.v (.int .i64 x1.Count)), (.v (.sl (x1.Core.map (cL Span.cs)))), w10]) H 1 rfl rfl rfl rfl rfl rfl rfl nofun rfl ?_
    refine Ops.storeH (off := 0) (v := (.agg [(.v (.int .i64 x1.Period)), (.v (.int .i64 x1.Count)), (.v (.sl (x1.Core.map (cL Span.cs)))), w10])) (ys := [(.v (.int .i64 x1.Period)), (.v (.int .i64 x1.Count)), (.v (.sl (x1.Core.map (cL Span.cs)))), w10]) (cells' := [(.v (.int .i64 x1.Period)), (.v (.int .i64 x1.Count)), (.v (.sl (x1.Core.map (cL Span.cs)))), w10]) H 2 rfl rfl rfl rfl rfl rfl rfl rfl rfl nofun ?_; intro σ H
    apply Ops.nil
    replace H := H.all
    apply Runs.ret
    replace h := Option.some.inj h; subst h
    exact (Ends.H (xs := [(.agg [(.v (.int .i64 x1.Period)), (.v (.int .i64 x1.Count)), (.v (.sl (x1.Core.map (cL Span.cs)))), w10])]) (.inr rfl) H (.agg (cs := [(.v (.int .i64 x1.Period)), (.v (.int .i64 x1.Count)), (.v (.sl (x1.Core.map (cL Span.cs)))), w10]) (off := 0) 2 rfl rfl rfl rfl rfl rfl rfl .nil) (.one (.a (.cons (.v _) (.cons (.v _) (.cons (.v _) (.cons (.s 0 rfl) .nil)))))))

set_option maxRecDepth 100000 in
set_option maxHeartbeats 4000000 in
theorem slices_EqualFunc_SSSpan_SSSpan_SSpan_SSpan_fn {s1' : (List (List Span))} {s2' : (List (List Span))} {eq : (List Span) → (List Span) → Option Bool} {C : List Res} {cv0 : PV} (hs0 : cv0.still = true) (hp0 : cv0.pure = true → C = []) (hf0 : ∀ z0 z1 y, eq z0 z1 = some y → CloH CX cv0 [(.v (.sl (z0.map Span.cs))), (.v (.sl (z1.map Span.cs)))] (.v (.bool y)) C) {r : Bool} (h : slices_EqualFunc_SSSpan_SSSpan_SSpan_SSpan s1' s2' eq = some r) : FnH CX 68 [(.v (.sl (s1'.map (cL Span.cs)))), (.v (.sl (s2'.map (cL Span.cs)))), cv0] (.v (.bool r)) C := by
  refine FnH.of Try.func68 rfl rfl rfl rfl (all_t rfl (all_t rfl (all_t hs0 all_nil))) rfl (fun h => hp0 (all_get h 2 rfl)) ?_
  intro σ L hC H
  unfold slices_EqualFunc_SSSpan_SSSpan_SSpan_SSpan at h
  apply Runs.then
  refine Runs.regionH 1 rfl H ?_; intro b1 σ H
  refine Ops.assign (v := (.v (.bool false))) rfl rfl ?_
  apply Ops.nil
  replace H := H.all
  apply Runs.then
  apply Runs.then
  refine Runs.regionH 5 rfl H ?_; intro b2 σ H
  refine Ops.move (v := (.v (.sl (s1'.map (cL Span.cs))))) rfl rfl ?_
  refine Ops.lenPt (c := (cL Span.cs)) (xs := s1') rfl rfl rfl ?_
  refine Ops.move (v := (.v (.sl (s2'.map (cL Span.cs))))) rfl rfl ?_
  refine Ops.lenPt (c := (cL Span.cs)) (xs := s2') rfl rfl rfl ?_
  refine Ops.int (m := (s1'.length : Int)) (m' := (s2'.length : Int)) (r := .bool ((s1'.length : Int) != (s2'.length : Int))) rfl rfl rfl rfl rfl ?_
  apply Ops.nil
  replace H := H.all
  refine Runs.whether (v := ((s1'.length : Int) != (s2'.length : Int))) rfl ?_ ?_ <;> intro hc1
  · replace h := cond_T hc1 h
    apply Runs.then
    refine Runs.regionH 1 rfl H ?_; intro b3 σ H
    refine Ops.assign (v := (.v (.bool false))) rfl rfl ?_
    apply Ops.nil
    replace H := H.all
    apply Runs.ret
    replace h := Option.some.inj h; subst h
    exact (EndsH.H (xs := [(.v (.bool false))]) (.inr rfl) H (.tmp (v := (.v (.bool false))) rfl .nil) (.one (.c (.v _))) 0 rfl)
  · replace h := cond_F hc1 h
    apply Runs.skip
    apply Runs.then
    apply Runs.then
    refine Runs.regionH 3 rfl H ?_; intro b4 σ H
    refine Ops.move (v := (.v (.sl (s1'.map (cL Span.cs))))) rfl rfl ?_
    refine Ops.lenPt (c := (cL Span.cs)) (xs := s1') rfl rfl rfl ?_
    refine Ops.move (v := (.v (.int .i64 0))) rfl rfl ?_
    apply Ops.nil
    replace H := H.all
    apply Runs.inBlock
    obtain ⟨y1, hj1, h⟩ := bind_some h
    obtain ⟨n1, hj1⟩ := loopO_iff.1 hj1
    refine Runs.mono (Runs.loopO hj1 (fun s1 e σ => EnvHas e [(1, (.v (.sl (s2'.map (cL Span.cs))))), (2, cv0), (15, (.v (.sl (s1'.map (cL Span.cs))))), (16, (.v (.int .i64 (s1'.length : Int)))), (17, (.v (.int .i64 s1)))] ∧ Hs σ (L)) (fun y1 x e σ => (∃ a1, y1 = (.go a1) ∧ x = .exit 0 ∧ EnvHas e [] ∧ Hs σ (L)) ∨ (∃ r', y1 = (.ret r') ∧ x = .ret ∧ EndsH CX Try.f68.results.toList (.v (.bool r')) L x e σ)) ⟨⟨rfl, rfl, rfl, rfl, rfl, trivial⟩, H⟩ ?_) ?_
    · intro s1 e σ hI z h
      obtain ⟨he, H⟩ := hI
      obtain ⟨e, rfl⟩ := he.ex
      unfold slices_EqualFunc_SSSpan_SSSpan_SSpan_SSpan.s0 at h
      apply Runs.then
      refine Runs.regionH 1 rfl H ?_; intro b5 σ H
      refine Ops.int (m := s1) (m' := (s1'.length : Int)) (r := .bool (decide (s1 < (s1'.length : Int)))) rfl rfl rfl rfl rfl ?_
      apply Ops.nil
      replace H := H.all
      apply Runs.then
      refine Runs.whether (v := (decide (s1 < (s1'.length : Int)))) rfl ?_ ?_ <;> intro hc2
      · replace h := cond_T hc2 h
        apply Runs.skip
        apply Runs.then
        apply Runs.inBlock
        apply Runs.then
        refine Runs.regionH 5 rfl H ?_; intro b6 σ H
        refine Ops.move (v := (.v (.int .i64 s1))) rfl rfl ?_
        obtain ⟨x1, q1, h⟩ := bind_some h
        refine Ops.indexP (c := (cL Span.cs)) (u := x1) rfl rfl q1 rfl rfl rfl rfl ?_
        refine Ops.loadP (u := (.sl (x1.map Span.cs))) rfl rfl rfl rfl ?_
        refine Ops.assign (v := (.v (.int .i64 s1))) rfl rfl ?_
        refine Ops.assign (v := (.v (.sl (x1.map Span.cs)))) rfl rfl ?_
        apply Ops.nil
        replace H := H.all
        apply Runs.then
        refine Runs.regionH 5 rfl H ?_; intro b7 σ H
        refine Ops.move (v := (.v (.sl (s2'.map (cL Span.cs))))) rfl rfl ?_
        refine Ops.move (v := (.v (.int .i64 s1))) rfl rfl ?_
        obtain ⟨x2, q2, h⟩ := bind_some h
        refine Ops.indexP (c := (cL Span.cs)) (u := x2) rfl rfl q2 rfl rfl rfl rfl ?_
        refine Ops.loadP (u := (.sl (x2.map Span.cs))) rfl rfl rfl rfl ?_
        refine Ops.assign (v := (.v (.sl (x2.map Span.cs)))) rfl rfl ?_
        apply Ops.nil
        replace H := H.all
        apply Runs.then
        refine Runs.regionH 5 rfl H ?_; intro b8 σ H
        refine Ops.move (v := cv0) rfl rfl ?_
        refine Ops.move (v := (.v (.sl (x1.map Span.cs)))) rfl rfl ?_
        refine Ops.move (v := (.v (.sl (x2.map Span.cs)))) rfl rfl ?_
        obtain ⟨x3, q3, h⟩ := bind_some h
        refine Ops.callV (cv := cv0) (ys := [(.v (.sl (x1.map Span.cs))), (.v (.sl (x2.map Span.cs)))]) (r := (.v (.bool x3))) H rfl rfl (hf0 x1 x2 _ q3) hC rfl rfl ?_; intro σ H
        refine Ops.not (b := x3) rfl rfl ?_
        apply Ops.nil
        replace H := H.all
        refine Runs.whether (v := (!x3)) rfl ?_ ?_ <;> intro hc3
        · replace h := cond_T hc3 h
          apply Runs.then
          refine Runs.regionH 1 rfl H ?_; intro b9 σ H
          refine Ops.assign (v := (.v (.bool false))) rfl rfl ?_
          apply Ops.nil
          replace H := H.all
          apply Runs.ret
          replace h := Option.some.inj h; subst h
          exact ⟨nofun, (.inr ⟨_, rfl, rfl, (EndsH.H (xs := [(.v (.bool false))]) (.inr rfl) H (.tmp (v := (.v (.bool false))) rfl .nil) (.one (.c (.v _))) 0 rfl)⟩)⟩
        · replace h := cond_F hc3 h
          apply Runs.skip
          refine Runs.regionH 2 rfl H ?_; intro b10 σ H
          refine Ops.int (m := s1) (m' := 1) (r := .int .i64 (w64 (s1 + 1))) rfl rfl rfl rfl rfl ?_
          refine Ops.move (v := (.v (.int .i64 (w64 (s1 + 1))))) rfl rfl ?_
          apply Ops.nil
          replace H := H.all
          replace h := Option.some.inj h; subst h
          exact ⟨rfl, ⟨rfl, rfl, rfl, rfl, rfl, trivial⟩, H⟩
      · replace h := cond_F hc2 h
        apply Runs.exit
        replace h := Option.some.inj h; subst h
        exact ⟨nofun, (.inl ⟨_, rfl, rfl, trivial, H⟩)⟩
    · rintro x e σ (⟨a2, rfl, rfl, he, H⟩ | ⟨r', rfl, rfl, hE⟩)
      · skip
        replace h := jgo h
        obtain ⟨e, rfl⟩ := he.ex
        apply Runs.then
        refine Runs.regionH 1 rfl H ?_; intro b11 σ H
        refine Ops.assign (v := (.v (.bool true))) rfl rfl ?_
        apply Ops.nil
        replace H := H.all
        apply Runs.ret
        replace h := Option.some.inj h; subst h
        exact (EndsH.H (xs := [(.v (.bool true))]) (.inr rfl) H (.tmp (v := (.v (.bool true))) rfl .nil) (.one (.c (.v _))) 0 rfl)
      · skip
        replace h := jret h
        replace h := Option.some.inj h; subst h
        exact hE

set_option maxRecDepth 100000 in
set_option maxHeartbeats 4000000 in
theorem slices_EqualFunc_SGranule_SGranule_Granule_Granule_fn {s1' : (List Granule)} {s2' : (List Granule)} {eq : Granule → Granule → Option Bool} {C : List Res} {cv0 : PV} (hs0 : cv0.still = true) (hp0 : cv0.pure = true → C = []) (hf0 : ∀ z0 z1 y, eq z0 z1 = some y → CloH CX cv0 [(.agg (vs (Granule.cs z0))), (.agg (vs (Granule.cs z1)))] (.v (.bool y)) C) {r : Bool} (h : slices_EqualFunc_SGranule_SGranule_Granule_Granule s1' s2' eq = some r) : FnH CX 69 [(.v (.sl (s1'.map Granule.cs))), (.v (.sl (s2'.map Granule.cs))), cv0] (.v (.bool r)) C := by
  refine FnH.of Try.func69 rfl rfl rfl rfl (all_t rfl (all_t rfl (all_t hs0 all_nil))) rfl (fun h => hp0 (all_get h 2 rfl)) ?_
  intro σ L hC H
  unfold slices_EqualFunc_SGranule_SGranule_Granule_Granule at h
  apply Runs.then
  refine Runs.regionH 1 rfl H ?_; intro b1 σ H
  refine Ops.assign (v := (.v (.bool false))) rfl rfl ?_
  apply Ops.nil
  replace H := H.all
  apply Runs.then
  apply Runs.then
  refine Runs.regionH 5 rfl H ?_; intro b2 σ H
  refine Ops.move (v := (.v (.sl (s1'.map Granule.cs)))) rfl rfl ?_
  refine Ops.lenPt (c := Granule.cs) (xs := s1') rfl rfl rfl ?_
  refine Ops.move (v := (.v (.sl (s2'.map Granule.cs)))) rfl rfl ?_
  refine Ops.lenPt (c := Granule.cs) (xs := s2') rfl rfl rfl ?_
  refine Ops.int (m := (s1'.length : Int)) (m' := (s2'.length : Int)) (r := .bool ((s1'.length : Int) != (s2'.length : Int))) rfl rfl rfl rfl rfl ?_
  apply Ops.nil
  replace H := H.all
  refine Runs.whether (v := ((s1'.length : Int) != (s2'.length : Int))) rfl ?_ ?_ <;> intro hc1
  · replace h := cond_T hc1 h
    apply Runs.then
    refine Runs.regionH 1 rfl H ?_; intro b3 σ H
    refine Ops.assign (v := (.v (.bool false))) rfl rfl ?_
    apply Ops.nil
    replace H := H.all
    apply Runs.ret
    replace h := Option.some.inj h; subst h
    exact (EndsH.H (xs := [(.v (.bool false))]) (.inr rfl) H (.tmp (v := (.v (.bool false))) rfl .nil) (.one (.c (.v _))) 0 rfl)
  · replace h := cond_F hc1 h
    apply Runs.skip
    apply Runs.then
    apply Runs.then
    refine Runs.regionH 3 rfl H ?_; intro b4 σ H
    refine Ops.move (v := (.v (.sl (s1'.map Granule.cs)))) rfl rfl ?_
    refine Ops.lenPt (c := Granule.cs) (xs := s1') rfl rfl rfl ?_
    refine Ops.move (v := (.v (.int .i64 0))) rfl rfl ?_
    apply Ops.nil
    replace H := H.all
    apply Runs.inBlock
    obtain ⟨y1, hj1, h⟩ := bind_some h
    obtain ⟨n1, hj1⟩ := loopO_iff.1 hj1
    refine Runs.mono (Runs.loopO hj1 (fun s1 e σ => EnvHas e [(1, (.v (.sl (s2'.map Granule.cs)))), (2, cv0), (15, (.v (.sl (s1'.map Granule.cs)))), (16, (.v (.int .i64 (s1'.length : Int)))), (17, (.v (.int .i64 s1)))] ∧ Hs σ (L)) (fun y1 x e σ => (∃ a1, y1 = (.go a1) ∧ x = .exit 0 ∧ EnvHas e [] ∧ Hs σ (L)) ∨ (∃ r', y1 = (.ret r') ∧ x = .ret ∧ EndsH CX Try.f69.results.toList (.v (.bool r')) L x e σ)) ⟨⟨rfl, rfl, rfl, rfl, rfl, trivial⟩, H⟩ ?_) ?_
    · intro s1 e σ hI z h
      obtain ⟨he, H⟩ := hI
      obtain ⟨e, rfl⟩ := he.ex
      unfold slices_EqualFunc_SGranule_SGranule_Granule_Granule.s0 at h
      apply Runs.then
      refine Runs.regionH 1 rfl H ?_; intro b5 σ H
      refine Ops.int (m := s1) (m' := (s1'.length : Int)) (r := .bool (decide (s1 < (s1'.length : Int)))) rfl rfl rfl rfl rfl ?_
      apply Ops.nil
      replace H := H.all
      apply Runs.then
      refine Runs.whether (v := (decide (s1 < (s1'.length : Int)))) rfl ?_ ?_ <;> intro hc2
      · replace h := cond_T hc2 h
        apply Runs.skip
        apply Runs.then
        apply Runs.inBlock
        apply Runs.then
        refine Runs.regionH 6 rfl H ?_; intro b6 σ H
        refine Ops.move (v := (.v (.int .i64 s1))) rfl rfl ?_
        obtain ⟨x1, q1, h⟩ := bind_some h
        refine Ops.indexP (c := Granule.cs) (u := x1) rfl rfl q1 rfl rfl rfl rfl ?_
        refine Ops.loadPA (cs := [(.int .i64 x1.Index), (.sl (x1.Ticks.map Span.cs))]) rfl rfl rfl rfl rfl rfl ?_
        refine Ops.allocH (cs := [(.v (.int .i64 0)), .nils]) H (by omega) (by omega) rfl rfl ?_; intro σ H
        refine Ops.assign (v := (.v (.int .i64 s1))) rfl rfl ?_
        refine Ops.storeH (off := 0) (v := (.agg [(.v (.int .i64 x1.Index)), (.v (.sl (x1.Ticks.map Span.cs)))])) (ys := [(.v (.int .i64 x1.Index)), (.v (.sl (x1.Ticks.map Span.cs)))]) (cells' := [(.v (.int .i64 x1.Index)), (.v (.sl (x1.Ticks.map Span.cs)))]) H 0 rfl rfl rfl rfl rfl rfl rfl rfl rfl nofun ?_; intro σ H
        apply Ops.nil
        replace H := H.all
        apply Runs.then
        refine Runs.regionH 6 rfl H ?_; intro b7 σ H
        refine Ops.move (v := (.v (.sl (s2'.map Granule.cs)))) rfl rfl ?_
        refine Ops.move (v := (.v (.int .i64 s1))) rfl rfl ?_
        obtain ⟨x2, q2, h⟩ := bind_some h
        refine Ops.indexP (c := Granule.cs) (u := x2) rfl rfl q2 rfl rfl rfl rfl ?_
        refine Ops.loadPA (cs := [(.int .i64 x2.Index), (.sl (x2.Ticks.map Span.cs))]) rfl rfl rfl rfl rfl rfl ?_
        refine Ops.allocH (cs := [(.v (.int .i64 0)), .nils]) H (by omega) (by omega) rfl rfl ?_; intro σ H
        refine Ops.storeH (off := 0) (v := (.agg [(.v (.int .i64 x2.Index)), (.v (.sl (x2.Ticks.map Span.cs)))])) (ys := [(.v (.int .i64 x2.Index)), (.v (.sl (x2.Ticks.map Span.cs)))]) (cells' := [(.v (.int .i64 x2.Index)), (.v (.sl (x2.Ticks.map Span.cs)))]) H 0 rfl rfl rfl rfl rfl rfl rfl rfl rfl nofun ?_; intro σ H
        apply Ops.nil
        replace H := H.all
        apply Runs.then
        refine Runs.regionH 5 rfl H ?_; intro b8 σ H
        refine Ops.move (v := cv0) rfl rfl ?_
        refine Ops.loadHA (off := 0) (cs := [(.v (.int .i64 x1.Index)), (.v (.sl (x1.Ticks.map Span.cs)))]) H 1 rfl rfl rfl rfl rfl rfl rfl nofun rfl ?_
        refine Ops.loadHA (off := 0) (cs := [(.v (.int .i64 x2.Index)), (.v (.sl (x2.Ticks.map Span.cs)))]) H 0 rfl rfl rfl rfl rfl rfl rfl nofun rfl ?_
        obtain ⟨x3, q3, h⟩ := bind_some h
        refine Ops.callV (cv := cv0) (ys := [(.agg (vs (Granule.cs x1))), (.agg (vs (Granule.cs x2)))]) (r := (.v (.bool x3))) H rfl rfl (hf0 x1 x2 _ q3) hC.push.push rfl rfl ?_; intro σ H
        refine Ops.not (b := x3) rfl rfl ?_
        apply Ops.nil
        replace H := H.all
        refine Runs.whether (v := (!x3)) rfl ?_ ?_ <;> intro hc3
        · replace h := cond_T hc3 h
          apply Runs.then
          refine Runs.regionH 1 rfl H ?_; intro b9 σ H
          refine Ops.assign (v := (.v (.bool false))) rfl rfl ?_
          apply Ops.nil
          replace H := H.all
          apply Runs.ret
          replace h := Option.some.inj h; subst h
          exact ⟨nofun, (.inr ⟨_, rfl, rfl, (EndsH.H (xs := [(.v (.bool false))]) (.inr rfl) H (.tmp (v := (.v (.bool false))) rfl .nil) (.one (.c (.v _))) 2 rfl)⟩)⟩
        · replace h := cond_F hc3 h
          apply Runs.skip
          refine Runs.regionH 2 rfl H ?_; intro b10 σ H
          refine Ops.int (m := s1) (m' := 1) (r := .int .i64 (w64 (s1 + 1))) rfl rfl rfl rfl rfl ?_
          refine Ops.move (v := (.v (.int .i64 (w64 (s1 + 1))))) rfl rfl ?_
          apply Ops.nil
          replace H := H.all
          replace h := Option.some.inj h; subst h
          exact ⟨rfl, ⟨rfl, rfl, rfl, rfl, rfl, trivial⟩, ((H.erase 1).erase 0)⟩
      · replace h := cond_F hc2 h
        apply Runs.exit
        replace h := Option.some.inj h; subst h
        exact ⟨nofun, (.inl ⟨_, rfl, rfl, trivial, H⟩)⟩
    · rintro x e σ (⟨a2, rfl, rfl, he, H⟩ | ⟨r', rfl, rfl, hE⟩)
      · skip
        replace h := jgo h
        obtain ⟨e, rfl⟩ := he.ex
        apply Runs.then
        refine Runs.regionH 1 rfl H ?_; intro b11 σ H
        refine Ops.assign (v := (.v (.bool true))) rfl rfl ?_
        apply Ops.nil
        replace H := H.all
        apply Runs.ret
        replace h := Option.some.inj h; subst h
        exact (EndsH.H (xs := [(.v (.bool true))]) (.inr rfl) H (.tmp (v := (.v (.bool true))) rfl .nil) (.one (.c (.v _))) 0 rfl)
      · skip
        replace h := jret h
        replace h := Option.some.inj h; subst h
        exact hE

set_option maxRecDepth 100000 in
set_option maxHeartbeats 4000000 in
theorem canon_equal_1_fn {x' : Granule} {y : Granule} {r : Bool} (h : canon_equal_1 x' y = some r) : Fn CX 70 [(.agg (vs (Granule.cs x'))), (.agg (vs (Granule.cs y)))] (.v (.bool r)) := by
  refine Fn.ends Try.func70 rfl rfl rfl rfl rfl rfl ?_
  have H : Hs (⟨0, fun _ => .none⟩ : Heap) [] := Has.nil (Nat.le_refl _)
  generalize (⟨0, fun _ => .none⟩ : Heap) = σ at H ⊢
  unfold canon_equal_1 at h
  apply Runs.then
  refine Runs.regionH 3 rfl H ?_; intro b1 σ H
  refine Ops.boxH (v := (.agg [(.v (.int .i64 x'.Index)), (.v (.sl (x'.Ticks.map Span.cs)))])) (cs := [(.v (.int .i64 x'.Index)), (.v (.sl (x'.Ticks.map Span.cs)))]) H (by omega) (by omega) rfl rfl rfl ?_; intro σ H
  refine Ops.boxH (v := (.agg [(.v (.int .i64 y.Index)), (.v (.sl (y.Ticks.map Span.cs)))])) (cs := [(.v (.int .i64 y.Index)), (.v (.sl (y.Ticks.map Span.cs)))]) H (by omega) (by omega) rfl rfl rfl ?_; intro σ H
  refine Ops.assign (v := (.v (.bool false))) rfl rfl ?_
  apply Ops.nil
  replace H := H.all
  apply Runs.then
  refine Runs.regionH 13 rfl H ?_; intro b2 σ H
  refine Ops.fieldAddrH (off := 0) (fo := 0) H 1 rfl rfl rfl rfl rfl nofun rfl ?_
  refine Ops.loadH (off := 0) (v := (.v (.int .i64 x'.Index))) H 1 rfl rfl rfl rfl rfl nofun rfl ?_
  refine Ops.fieldAddrH (off := 0) (fo := 0) H 0 rfl rfl rfl rfl rfl nofun rfl ?_
  refine Ops.loadH (off := 0) (v := (.v (.int .i64 y.Index))) H 0 rfl rfl rfl rfl rfl nofun rfl ?_
  refine Ops.int (m := x'.Index) (m' := y.Index) (r := .bool (x'.Index == y.Index)) rfl rfl rfl rfl rfl ?_
  refine Ops.move (v := (.v (.bool (x'.Index == y.Index)))) rfl rfl ?_
  obtain ⟨y1, hj1, h⟩ := bind_some h
  refine Ops.mid 6 (K1 := fun e σ => EnvHas e [(16, (.v (.bool y1)))] ∧ Has σ (b2 + 12) (b2 + 13) []) rfl ?_ ?_
  · refine Ops.split rfl rfl ?_ ?_ <;> intro hc1
    · replace h := cond_T hc1 hj1
      refine Ops.wanted rfl rfl ?_
      refine Ops.fieldAddrH (off := 0) (fo := 1) H 1 rfl rfl rfl rfl rfl nofun rfl ?_
      refine Ops.wanted rfl rfl ?_
      refine Ops.loadH (off := 1) (v := (.v (.sl (x'.Ticks.map Span.cs)))) H 1 rfl rfl rfl rfl rfl nofun rfl ?_
      refine Ops.wanted rfl rfl ?_
      refine Ops.fieldAddrH (off := 0) (fo := 1) H 0 rfl rfl rfl rfl rfl nofun rfl ?_
      refine Ops.wanted rfl rfl ?_
      refine Ops.loadH (off := 1) (v := (.v (.sl (y.Ticks.map Span.cs)))) H 0 rfl rfl rfl rfl rfl nofun rfl ?_
      refine Ops.wanted rfl rfl ?_
      obtain ⟨x1, q1, h⟩ := bind_some h
      refine Ops.call (ys := [(.v (.sl (x'.Ticks.map Span.cs))), (.v (.sl (y.Ticks.map Span.cs)))]) (r := (.v (.bool x1))) rfl (spans_Same_fn q1) rfl ?_
      refine Ops.pickT (v := (.v (.bool x1))) rfl rfl rfl ?_
      apply Ops.nil
      replace h := Option.some.inj h; subst h
      exact ⟨⟨rfl, trivial⟩, ((H.erase 1).erase 0).weak (by omega) (Nat.le_refl _)⟩
    · replace h := cond_F hc1 hj1
      refine Ops.pass rfl rfl rfl ?_
      refine Ops.pass rfl rfl rfl ?_
      refine Ops.pass rfl rfl rfl ?_
      refine Ops.pass rfl rfl rfl ?_
      refine Ops.pass rfl rfl rfl ?_
      refine Ops.pickF (v := (.v (.bool false))) rfl rfl rfl ?_
      apply Ops.nil
      replace h := Option.some.inj h; subst h
      exact ⟨⟨rfl, trivial⟩, ((H.erase 1).erase 0).weak (by omega) (Nat.le_refl _)⟩
  · rintro e σ ⟨he, H⟩
    obtain ⟨e, rfl⟩ := he.ex
    refine Ops.assign (v := (.v (.bool y1))) rfl rfl ?_
    apply Ops.nil
    replace H := H.all
    apply Runs.ret
    replace h := Option.some.inj h; subst h
    exact (Ends.H (xs := [(.v (.bool y1))]) (.inr rfl) H (.tmp (v := (.v (.bool y1))) rfl .nil) (.one (.c (.v _))))

set_option maxRecDepth 100000 in
set_option maxHeartbeats 4000000 in
theorem canon_equal_fn {a : Form} {b : Form} {r : Bool} (h : canon_equal a b = some r) : Fn CX 55 [(.agg (vs (Form.cs a))), (.agg (vs (Form.cs b)))] (.v (.bool r)) := by
  refine Fn.ends Try.func55 rfl rfl rfl rfl rfl rfl ?_
  have H : Hs (⟨0, fun _ => .none⟩ : Heap) [] := Has.nil (Nat.le_refl _)
  generalize (⟨0, fun _ => .none⟩ : Heap) = σ at H ⊢
  unfold canon_equal at h
  apply Runs.then
  refine Runs.regionH 3 rfl H ?_; intro b1 σ H
  refine Ops.boxH (v := (.agg [(.v (.int .i64 a.Period)), (.v (.int .i64 a.Count)), (.v (.sl (a.Core.map (cL Span.cs)))), (.v (.sl (a.Odd.map Granule.cs)))])) (cs := [(.v (.int .i64 a.Period)), (.v (.int .i64 a.Count)), (.v (.sl (a.Core.map (cL Span.cs)))), (.v (.sl (a.Odd.map Granule.cs)))]) H (by omega) (by omega) rfl rfl rfl ?_; intro σ H
  refine Ops.boxH (v := (.agg [(.v (.int .i64 b.Period)), (.v (.int .i64 b.Count)), (.v (.sl (b.Core.map (cL Span.cs)))), (.v (.sl (b.Odd.map Granule.cs)))])) (cs := [(.v (.int .i64 b.Period)), (.v (.int .i64 b.Count)), (.v (.sl (b.Core.map (cL Span.cs)))), (.v (.sl (b.Odd.map Granule.cs)))]) H (by omega) (by omega) rfl rfl rfl ?_; intro σ H
  refine Ops.assign (v := (.v (.bool false))) rfl rfl ?_
  apply Ops.nil
  replace H := H.all
  apply Runs.then
  refine Runs.regionH 27 rfl H ?_; intro b2 σ H
  refine Ops.fieldAddrH (off := 0) (fo := 0) H 1 rfl rfl rfl rfl rfl nofun rfl ?_
  refine Ops.loadH (off := 0) (v := (.v (.int .i64 a.Period))) H 1 rfl rfl rfl rfl rfl nofun rfl ?_
  refine Ops.fieldAddrH (off := 0) (fo := 0) H 0 rfl rfl rfl rfl rfl nofun rfl ?_
  refine Ops.loadH (off := 0) (v := (.v (.int .i64 b.Period))) H 0 rfl rfl rfl rfl rfl nofun rfl ?_
  refine Ops.int (m := a.Period) (m' := b.Period) (r := .bool (a.Period == b.Period)) rfl rfl rfl rfl rfl ?_
  refine Ops.move (v := (.v (.bool (a.Period == b.Period)))) rfl rfl ?_
  refine Ops.mid 6 (K1 := fun e σ => EnvHas e [(16, (.v (.bool ((a.Period == b.Period) && (a.Count == b.Count))))), (2, (.ptr (b1 + 0) 4 0)), (3, (.ptr (b1 + 1) 4 0))] ∧ Has σ (b2 + 12) (b2 + 27) [.blk (b1 + 1) 25 [(.v (.int .i64 b.Period)), (.v (.int .i64 b.Count)), (.v (.sl (b.Core.map (cL Span.cs)))), (.v (.sl (b.Odd.map Granule.cs)))], .blk (b1 + 0) 25 [(.v (.int .i64 a.Period)), (.v (.int .i64 a.Count)), (.v (.sl (a.Core.map (cL Span.cs)))), (.v (.sl (a.Odd.map Granule.cs)))]]) rfl ?_ ?_
  · refine Ops.split rfl rfl ?_ ?_ <;> intro hc1
    · skip
      refine Ops.wanted rfl rfl ?_
      refine Ops.fieldAddrH (off := 0) (fo := 1) H 1 rfl rfl rfl rfl rfl nofun rfl ?_
      refine Ops.wanted rfl rfl ?_
      refine Ops.loadH (off := 1) (v := (.v (.int .i64 a.Count))) H 1 rfl rfl rfl rfl rfl nofun rfl ?_
      refine Ops.wanted rfl rfl ?_
      refine Ops.fieldAddrH (off := 0) (fo := 1) H 0 rfl rfl rfl rfl rfl nofun rfl ?_
      refine Ops.wanted rfl rfl ?_
      refine Ops.loadH (off := 1) (v := (.v (.int .i64 b.Count))) H 0 rfl rfl rfl rfl rfl nofun rfl ?_
      refine Ops.wanted rfl rfl ?_
      refine Ops.int (m := a.Count) (m' := b.Count) (r := .bool (a.Count == b.Count)) rfl rfl rfl rfl rfl ?_
      refine Ops.pickT (v := (.v (.bool (a.Count == b.Count)))) rfl rfl rfl ?_
      apply Ops.nil
      exact ⟨⟨and_T hc1, rfl, rfl, trivial⟩, H.weak (by omega) (Nat.le_refl _)⟩
    · skip
      refine Ops.pass rfl rfl rfl ?_
      refine Ops.pass rfl rfl rfl ?_
      refine Ops.pass rfl rfl rfl ?_
      refine Ops.pass rfl rfl rfl ?_
      refine Ops.pass rfl rfl rfl ?_
      refine Ops.pickF (v := (.v (.bool false))) rfl rfl rfl ?_
      apply Ops.nil
      exact ⟨⟨and_F hc1, rfl, rfl, trivial⟩, H.weak (by omega) (Nat.le_refl _)⟩
  · rintro e σ ⟨he, H⟩
    obtain ⟨e, rfl⟩ := he.ex
    refine Ops.move (v := (.v (.bool ((a.Period == b.Period) && (a.Count == b.Count))))) rfl rfl ?_
    obtain ⟨y1, hj1, h⟩ := bind_some h
    refine Ops.mid 6 (K1 := fun e σ => EnvHas e [(23, (.v (.bool y1))), (2, (.ptr (b1 + 0) 4 0)), (3, (.ptr (b1 + 1) 4 0))] ∧ Has σ (b2 + 19) (b2 + 27) [.blk (b1 + 1) 25 [(.v (.int .i64 b.Period)), (.v (.int .i64 b.Count)), (.v (.sl (b.Core.map (cL Span.cs)))), (.v (.sl (b.Odd.map Granule.cs)))], .blk (b1 + 0) 25 [(.v (.int .i64 a.Period)), (.v (.int .i64 a.Count)), (.v (.sl (a.Core.map (cL Span.cs)))), (.v (.sl (a.Odd.map Granule.cs)))]]) rfl ?_ ?_
    · refine Ops.split rfl rfl ?_ ?_ <;> intro hc2
      · replace h := cond_T hc2 hj1
        refine Ops.wanted rfl rfl ?_
        refine Ops.fieldAddrH (off := 0) (fo := 2) H 1 rfl rfl rfl rfl rfl nofun rfl ?_
        refine Ops.wanted rfl rfl ?_
        refine Ops.loadH (off := 2) (v := (.v (.sl (a.Core.map (cL Span.cs))))) H 1 rfl rfl rfl rfl rfl nofun rfl ?_
        refine Ops.wanted rfl rfl ?_
        refine Ops.fieldAddrH (off := 0) (fo := 2) H 0 rfl rfl rfl rfl rfl nofun rfl ?_
        refine Ops.wanted rfl rfl ?_
        refine Ops.loadH (off := 2) (v := (.v (.sl (b.Core.map (cL Span.cs))))) H 0 rfl rfl rfl rfl rfl nofun rfl ?_
        refine Ops.wanted rfl rfl ?_
        obtain ⟨x1, q1, h⟩ := bind_some h
        refine Ops.callH (ys := [(.v (.sl (a.Core.map (cL Span.cs)))), (.v (.sl (b.Core.map (cL Span.cs)))), (.v (.fn 18))]) (r := (.v (.bool x1))) H rfl (slices_EqualFunc_SSSpan_SSSpan_SSpan_SSpan_fn (C := []) rfl (fun _ => rfl) (fun z0 z1 y hz => (CloH.fn (Fn.toH (spans_Same_fn hz) _))) q1) .nil nofun rfl ?_; intro σ H
        refine Ops.pickT (v := (.v (.bool x1))) rfl rfl rfl ?_
        apply Ops.nil
        replace h := Option.some.inj h; subst h
        exact ⟨⟨rfl, rfl, rfl, trivial⟩, H.weak (by omega) (Nat.le_refl _)⟩
      · replace h := cond_F hc2 hj1
        refine Ops.pass rfl rfl rfl ?_
        refine Ops.pass rfl rfl rfl ?_
        refine Ops.pass rfl rfl rfl ?_
        refine Ops.pass rfl rfl rfl ?_
        refine Ops.pass rfl rfl rfl ?_
        refine Ops.pickF (v := (.v (.bool false))) rfl rfl rfl ?_
        apply Ops.nil
        replace h := Option.some.inj h; subst h
        exact ⟨⟨rfl, rfl, rfl, trivial⟩, H.weak (by omega) (Nat.le_refl _)⟩
    · rintro e σ ⟨he, H⟩
      obtain ⟨e, rfl⟩ := he.ex
      refine Ops.move (v := (.v (.bool y1))) rfl rfl ?_
      obtain ⟨y2, hj2, h⟩ := bind_some h
      refine Ops.mid 6 (K1 := fun e σ => EnvHas e [(30, (.v (.bool y2)))] ∧ Has σ (b2 + 26) (b2 + 27) []) rfl ?_ ?_
      · refine Ops.split rfl rfl ?_ ?_ <;> intro hc3
        · replace h := cond_T hc3 hj2
          refine Ops.wanted rfl rfl ?_
          refine Ops.fieldAddrH (off := 0) (fo := 3) H 1 rfl rfl rfl rfl rfl nofun rfl ?_
          refine Ops.wanted rfl rfl ?_
          refine Ops.loadH (off := 3) (v := (.v (.sl (a.Odd.map Granule.cs)))) H 1 rfl rfl rfl rfl rfl nofun rfl ?_
          refine Ops.wanted rfl rfl ?_
          refine Ops.fieldAddrH (off := 0) (fo := 3) H 0 rfl rfl rfl rfl rfl nofun rfl ?_
          refine Ops.wanted rfl rfl ?_
          refine Ops.loadH (off := 3) (v := (.v (.sl (b.Odd.map Granule.cs)))) H 0 rfl rfl rfl rfl rfl nofun rfl ?_
          refine Ops.wanted rfl rfl ?_
          obtain ⟨x2, q2, h⟩ := bind_some h
          refine Ops.callH (ys := [(.v (.sl (a.Odd.map Granule.cs))), (.v (.sl (b.Odd.map Granule.cs))), (.v (.fn 70))]) (r := (.v (.bool x2))) H rfl (slices_EqualFunc_SGranule_SGranule_Granule_Granule_fn (C := []) rfl (fun _ => rfl) (fun z0 z1 y hz => (CloH.fn (Fn.toH (canon_equal_1_fn hz) _))) q2) .nil nofun rfl ?_; intro σ H
          refine Ops.pickT (v := (.v (.bool x2))) rfl rfl rfl ?_
          apply Ops.nil
          replace h := Option.some.inj h; subst h
          exact ⟨⟨rfl, trivial⟩, ((H.erase 1).erase 0).weak (by omega) (Nat.le_refl _)⟩
        · replace h := cond_F hc3 hj2
          refine Ops.pass rfl rfl rfl ?_
          refine Ops.pass rfl rfl rfl ?_
          refine Ops.pass rfl rfl rfl ?_
          refine Ops.pass rfl rfl rfl ?_
          refine Ops.pass rfl rfl rfl ?_
          refine Ops.pickF (v := (.v (.bool false))) rfl rfl rfl ?_
          apply Ops.nil
          replace h := Option.some.inj h; subst h
          exact ⟨⟨rfl, trivial⟩, ((H.erase 1).erase 0).weak (by omega) (Nat.le_refl _)⟩
      · rintro e σ ⟨he, H⟩
        obtain ⟨e, rfl⟩ := he.ex
        refine Ops.assign (v := (.v (.bool y2))) rfl rfl ?_
        apply Ops.nil
        replace H := H.all
        apply Runs.ret
        replace h := Option.some.inj h; subst h
        exact (Ends.H (xs := [(.v (.bool y2))]) (.inr rfl) H (.tmp (v := (.v (.bool y2))) rfl .nil) (.one (.c (.v _))))

set_option maxRecDepth 100000 in
set_option maxHeartbeats 4000000 in
theorem canon_Same_fn {f : Form} {g : Form} {r : Bool} (h : canon_Same f g = some r) : Fn CX 31 [(.agg (vs (Form.cs f))), (.agg (vs (Form.cs g)))] (.v (.bool r)) := by
  refine Fn.ends Try.func31 rfl rfl rfl rfl rfl rfl ?_
  have H : Hs (⟨0, fun _ => .none⟩ : Heap) [] := Has.nil (Nat.le_refl _)
  generalize (⟨0, fun _ => .none⟩ : Heap) = σ at H ⊢
  unfold canon_Same at h
  apply Runs.then
  refine Runs.regionH 3 rfl H ?_; intro b1 σ H
  refine Ops.boxH (v := (.agg [(.v (.int .i64 f.Period)), (.v (.int .i64 f.Count)), (.v (.sl (f.Core.map (cL Span.cs)))), (.v (.sl (f.Odd.map Granule.cs)))])) (cs := [(.v (.int .i64 f.Period)), (.v (.int .i64 f.Count)), (.v (.sl (f.Core.map (cL Span.cs)))), (.v (.sl (f.Odd.map Granule.cs)))]) H (by omega) (by omega) rfl rfl rfl ?_; intro σ H
  refine Ops.boxH (v := (.agg [(.v (.int .i64 g.Period)), (.v (.int .i64 g.Count)), (.v (.sl (g.Core.map (cL Span.cs)))), (.v (.sl (g.Odd.map Granule.cs)))])) (cs := [(.v (.int .i64 g.Period)), (.v (.int .i64 g.Count)), (.v (.sl (g.Core.map (cL Span.cs)))), (.v (.sl (g.Odd.map Granule.cs)))]) H (by omega) (by omega) rfl rfl rfl ?_; intro σ H
  refine Ops.assign (v := (.v (.bool false))) rfl rfl ?_
  apply Ops.nil
  replace H := H.all
  apply Runs.then
  refine Runs.drawnH 6 rfl (by kernel_rfl) H ?_; intro b2 σ H B2
  refine Ops.loadHA (off := 0) (cs := [(.v (.int .i64 f.Period)), (.v (.int .i64 f.Count)), (.v (.sl (f.Core.map (cL Span.cs)))), (.v (.sl (f.Odd.map Granule.cs)))]) H 1 rfl rfl rfl rfl rfl rfl rfl (fun _ => .inl ⟨B2 1 _ rfl _ rfl, nofun⟩) rfl ?_
  obtain ⟨x1, q1, h⟩ := bind_some h
  refine Ops.call (ys := [(.agg [(.v (.int .i64 f.Period)), (.v (.int .i64 f.Count)), (.v (.sl (f.Core.map (cL Span.cs)))), (.v (.sl (f.Odd.map Granule.cs)))])]) (r := (.agg [(.v (.int .i64 x1.Period)), (.v (.int .i64 x1.Count)), (.v (.sl (x1.Core.map (cL Span.cs)))), (.v (.sl (x1.Odd.map Granule.cs)))])) rfl (canon_Form_fn q1) rfl ?_
  refine Ops.loadHA (off := 0) (cs := [(.v (.int .i64 g.Period)), (.v (.int .i64 g.Count)), (.v (.sl (g.Core.map (cL Span.cs)))), (.v (.sl (g.Odd.map Granule.cs)))]) H 0 rfl rfl rfl rfl rfl rfl rfl (fun _ => .inl ⟨B2 0 _ rfl _ rfl, nofun⟩) rfl ?_
  obtain ⟨x2, q2, h⟩ := bind_some h
  refine Ops.call (ys := [(.agg [(.v (.int .i64 g.Period)), (.v (.int .i64 g.Count)), (.v (.sl (g.Core.map (cL Span.cs)))), (.v (.sl (g.Odd.map Granule.cs)))])]) (r := (.agg [(.v (.int .i64 x2.Period)), (.v (.int .i64 x2.Count)), (.v (.sl (x2.Core.map (cL Span.cs)))), (.v (.sl (x2.Odd.map Granule.cs)))])) rfl (canon_Form_fn q2) rfl ?_
  obtain ⟨x3, q3, h⟩ := bind_some h
  refine Ops.call (ys := [(.agg [(.v (.int .i64 x1.Period)), (.v (.int .i64 x1.Count)), (.v (.sl (x1.Core.map (cL Span.cs)))), (.v (.sl (x1.Odd.map Granule.cs)))]), (.agg [(.v (.int .i64 x2.Period)), (.v (.int .i64 x2.Count)), (.v (.sl (x2.Core.map (cL Span.cs)))), (.v (.sl (x2.Odd.map Granule.cs)))])]) (r := (.v (.bool x3))) rfl (canon_equal_fn q3) rfl ?_
  refine Ops.assign (v := (.v (.bool x3))) rfl rfl ?_
  apply Ops.nil
  replace H := H.all
  apply Runs.ret
  replace h := Option.some.inj h; subst h
  exact (Ends.H (xs := [(.v (.bool x3))]) (.inr rfl) H (.tmp (v := (.v (.bool x3))) rfl .nil) (.one (.c (.v _))))

set_option maxRecDepth 100000 in
set_option maxHeartbeats 4000000 in
theorem epactlow_Alike_fn {a : (List Span)} {b : (List Span)} {r : Bool} (h : epactlow_Alike a b = some r) : Fn CX 48 [(.v (.sl (a.map Span.cs))), (.v (.sl (b.map Span.cs)))] (.v (.bool r)) := by
  refine Fn.ends Try.func48 rfl rfl rfl rfl rfl rfl ?_
  have H : Hs (⟨0, fun _ => .none⟩ : Heap) [] := Has.nil (Nat.le_refl _)
  generalize (⟨0, fun _ => .none⟩ : Heap) = σ at H ⊢
  unfold epactlow_Alike at h
  apply Runs.then
  refine Runs.regionH 1 rfl H ?_; intro b1 σ H
  refine Ops.assign (v := (.v (.bool false))) rfl rfl ?_
  apply Ops.nil
  replace H := H.all
  apply Runs.then
  apply Runs.then
  refine Runs.regionH 5 rfl H ?_; intro b2 σ H
  refine Ops.move (v := (.v (.sl (a.map Span.cs)))) rfl rfl ?_
  refine Ops.lenPt (c := Span.cs) (xs := a) rfl rfl rfl ?_
  refine Ops.move (v := (.v (.sl (b.map Span.cs)))) rfl rfl ?_
  refine Ops.lenPt (c := Span.cs) (xs := b) rfl rfl rfl ?_
  refine Ops.int (m := (a.length : Int)) (m' := (b.length : Int)) (r := .bool ((a.length : Int) != (b.length : Int))) rfl rfl rfl rfl rfl ?_
  apply Ops.nil
  replace H := H.all
  refine Runs.whether (v := ((a.length : Int) != (b.length : Int))) rfl ?_ ?_ <;> intro hc1
  · replace h := cond_T hc1 h
    apply Runs.then
    refine Runs.regionH 1 rfl H ?_; intro b3 σ H
    refine Ops.assign (v := (.v (.bool false))) rfl rfl ?_
    apply Ops.nil
    replace H := H.all
    apply Runs.ret
    replace h := Option.some.inj h; subst h
    exact (Ends.H (xs := [(.v (.bool false))]) (.inr rfl) H (.tmp (v := (.v (.bool false))) rfl .nil) (.one (.c (.v _))))
  · replace h := cond_F hc1 h
    apply Runs.skip
    apply Runs.then
    apply Runs.then
    refine Runs.regionH 3 rfl H ?_; intro b4 σ H
    refine Ops.move (v := (.v (.sl (a.map Span.cs)))) rfl rfl ?_
    refine Ops.lenPt (c := Span.cs) (xs := a) rfl rfl rfl ?_
    refine Ops.move (v := (.v (.int .i64 0))) rfl rfl ?_
    apply Ops.nil
    replace H := H.all
    apply Runs.inBlock
    obtain ⟨y1, hj1, h⟩ := bind_some h
    obtain ⟨n1, hj1⟩ := loopO_iff.1 hj1
    refine Runs.mono (Runs.loopO hj1 (fun s1 e σ => EnvHas e [(1, (.v (.sl (b.map Span.cs)))), (12, (.v (.sl (a.map Span.cs)))), (13, (.v (.int .i64 (a.length : Int)))), (14, (.v (.int .i64 s1)))] ∧ Hs σ []) (fun y1 x e σ => (∃ a1, y1 = (.go a1) ∧ x = .exit 0 ∧ EnvHas e [] ∧ Hs σ []) ∨ (∃ r', y1 = (.ret r') ∧ x = .ret ∧ Ends CX Try.f48.results.toList (.v (.bool r')) x e σ)) ⟨⟨rfl, rfl, rfl, rfl, trivial⟩, H⟩ ?_) ?_
    · intro s1 e σ hI z h
      obtain ⟨he, H⟩ := hI
      obtain ⟨e, rfl⟩ := he.ex
      unfold epactlow_Alike.s0 at h
      apply Runs.then
      refine Runs.regionH 1 rfl H ?_; intro b5 σ H
      refine Ops.int (m := s1) (m' := (a.length : Int)) (r := .bool (decide (s1 < (a.length : Int)))) rfl rfl rfl rfl rfl ?_
      apply Ops.nil
      replace H := H.all
      apply Runs.then
      refine Runs.whether (v := (decide (s1 < (a.length : Int)))) rfl ?_ ?_ <;> intro hc2
      · replace h := cond_T hc2 h
        apply Runs.skip
        apply Runs.then
        apply Runs.inBlock
        apply Runs.then
        refine Runs.regionH 6 rfl H ?_; intro b6 σ H
        refine Ops.move (v := (.v (.int .i64 s1))) rfl rfl ?_
        obtain ⟨x1, q1, h⟩ := bind_some h
        refine Ops.indexP (c := Span.cs) (u := x1) rfl rfl q1 rfl rfl rfl rfl ?_
        refine Ops.loadPA (cs := [(.int .i64 x1.From), (.int .i64 x1.To)]) rfl rfl rfl rfl rfl rfl ?_
        refine Ops.allocH (cs := [(.v (.int .i64 0)), (.v (.int .i64 0))]) H (by omega) (by omega) rfl rfl ?_; intro σ H
        refine Ops.assign (v := (.v (.int .i64 s1))) rfl rfl ?_
        refine Ops.storeH (off := 0) (v := (.agg [(.v (.int .i64 x1.From)), (.v (.int .i64 x1.To))])) (ys := [(.v (.int .i64 x1.From)), (.v (.int .i64 x1.To))]) (cells' := [(.v (.int .i64 x1.From)), (.v (.int .i64 x1.To))]) H 0 rfl rfl rfl rfl rfl rfl rfl rfl rfl nofun ?_; intro σ H
        apply Ops.nil
        replace H := H.all
        apply Runs.then
        refine Runs.drawnH 6 rfl (by kernel_rfl) H ?_; intro b7 σ H B7
        refine Ops.move (v := (.v (.sl (b.map Span.cs)))) rfl rfl ?_
        refine Ops.move (v := (.v (.int .i64 s1))) rfl rfl ?_
        obtain ⟨x2, q2, h⟩ := bind_some h
        refine Ops.indexP (c := Span.cs) (u := x2) rfl rfl q2 rfl rfl rfl rfl ?_
        refine Ops.loadPA (cs := [(.int .i64 x2.From), (.int .i64 x2.To)]) rfl rfl rfl rfl rfl rfl ?_
        refine Ops.loadHA (off := 0) (cs := [(.v (.int .i64 x1.From)), (.v (.int .i64 x1.To))]) H 0 rfl rfl rfl rfl rfl rfl rfl (fun _ => .inl ⟨B7 0 _ rfl _ rfl, nofun⟩) rfl ?_
        refine Ops.binA (u := (.agg [(.v (.int .i64 x2.From)), (.v (.int .i64 x2.To))])) (w := (.agg [(.v (.int .i64 x1.From)), (.v (.int .i64 x1.To))])) (r := .bool (!((x2.From == x1.From) && ((x2.To == x1.To) && true)))) rfl rfl (by kernel_rfl) (fun _ => ask_eqA rfl rfl rfl rfl) rfl ?_
        apply Ops.nil
        replace H := H.all
        refine Runs.whether (v := (!((x2.From == x1.From) && ((x2.To == x1.To) && true)))) rfl ?_ ?_ <;> intro hc3
        · replace h := cond_T hc3 h
          apply Runs.then
          refine Runs.regionH 1 rfl H ?_; intro b8 σ H
          refine Ops.assign (v := (.v (.bool false))) rfl rfl ?_
          apply Ops.nil
          replace H := H.all
          apply Runs.ret
          replace h := Option.some.inj h; subst h
          exact ⟨nofun, (.inr ⟨_, rfl, rfl, (Ends.H (xs := [(.v (.bool false))]) (.inr rfl) H (.tmp (v := (.v (.bool false))) rfl .nil) (.one (.c (.v _))))⟩)⟩
        · replace h := cond_F hc3 h
          apply Runs.skip
          refine Runs.regionH 2 rfl H ?_; intro b9 σ H
          refine Ops.int (m := s1) (m' := 1) (r := .int .i64 (w64 (s1 + 1))) rfl rfl rfl rfl rfl ?_
          refine Ops.move (v := (.v (.int .i64 (w64 (s1 + 1))))) rfl rfl ?_
          apply Ops.nil
          replace H := H.all
          replace h := Option.some.inj h; subst h
          exact ⟨rfl, ⟨rfl, rfl, rfl, rfl, trivial⟩, (H.erase 0)⟩
      · replace h := cond_F hc2 h
        apply Runs.exit
        replace h := Option.some.inj h; subst h
        exact ⟨nofun, (.inl ⟨_, rfl, rfl, trivial, H⟩)⟩
    · rintro x e σ (⟨a2, rfl, rfl, he, H⟩ | ⟨r', rfl, rfl, hE⟩)
      · skip
        replace h := jgo h
        obtain ⟨e, rfl⟩ := he.ex
        apply Runs.then
        refine Runs.regionH 1 rfl H ?_; intro b10 σ H
        refine Ops.assign (v := (.v (.bool true))) rfl rfl ?_
        apply Ops.nil
        replace H := H.all
        apply Runs.ret
        replace h := Option.some.inj h; subst h
        exact (Ends.H (xs := [(.v (.bool true))]) (.inr rfl) H (.tmp (v := (.v (.bool true))) rfl .nil) (.one (.c (.v _))))
      · skip
        replace h := jret h
        replace h := Option.some.inj h; subst h
        exact hE

set_option maxRecDepth 100000 in
set_option maxHeartbeats 4000000 in
theorem epactlow_AlikeForms_fn {a : Form} {b : Form} {r : Bool} (h : epactlow_AlikeForms a b = some r) : Fn CX 24 [(.agg (vs (Form.cs a))), (.agg (vs (Form.cs b)))] (.v (.bool r)) := by
  refine Fn.ends Try.func24 rfl rfl rfl rfl rfl rfl ?_
  have H : Hs (⟨0, fun _ => .none⟩ : Heap) [] := Has.nil (Nat.le_refl _)
  generalize (⟨0, fun _ => .none⟩ : Heap) = σ at H ⊢
  unfold epactlow_AlikeForms at h
  apply Runs.then
  refine Runs.regionH 3 rfl H ?_; intro b1 σ H
  refine Ops.boxH (v := (.agg [(.v (.int .i64 a.Period)), (.v (.int .i64 a.Count)), (.v (.sl (a.Core.map (cL Span.cs)))), (.v (.sl (a.Odd.map Granule.cs)))])) (cs := [(.v (.int .i64 a.Period)), (.v (.int .i64 a.Count)), (.v (.sl (a.Core.map (cL Span.cs)))), (.v (.sl (a.Odd.map Granule.cs)))]) H (by omega) (by omega) rfl rfl rfl ?_; intro σ H
  refine Ops.boxH (v := (.agg [(.v (.int .i64 b.Period)), (.v (.int .i64 b.Count)), (.v (.sl (b.Core.map (cL Span.cs)))), (.v (.sl (b.Odd.map Granule.cs)))])) (cs := [(.v (.int .i64 b.Period)), (.v (.int .i64 b.Count)), (.v (.sl (b.Core.map (cL Span.cs)))), (.v (.sl (b.Odd.map Granule.cs)))]) H (by omega) (by omega) rfl rfl rfl ?_; intro σ H
  refine Ops.assign (v := (.v (.bool false))) rfl rfl ?_
  apply Ops.nil
  replace H := H.all
  apply Runs.then
  apply Runs.then
  refine Runs.regionH 30 rfl H ?_; intro b2 σ H
  refine Ops.fieldAddrH (off := 0) (fo := 0) H 1 rfl rfl rfl rfl rfl nofun rfl ?_
  refine Ops.loadH (off := 0) (v := (.v (.int .i64 a.Period))) H 1 rfl rfl rfl rfl rfl nofun rfl ?_
  refine Ops.fieldAddrH (off := 0) (fo := 0) H 0 rfl rfl rfl rfl rfl nofun rfl ?_
  refine Ops.loadH (off := 0) (v := (.v (.int .i64 b.Period))) H 0 rfl rfl rfl rfl rfl nofun rfl ?_
  refine Ops.int (m := a.Period) (m' := b.Period) (r := .bool (a.Period != b.Period)) rfl rfl rfl rfl rfl ?_
  refine Ops.move (v := (.v (.bool (a.Period != b.Period)))) rfl rfl ?_
  refine Ops.mid 6 (K1 := fun e σ => EnvHas e [(20, (.v (.bool ((a.Period != b.Period) || (a.Count != b.Count))))), (2, (.ptr (b1 + 0) 4 0)), (3, (.ptr (b1 + 1) 4 0))] ∧ Has σ (b2 + 12) (b2 + 30) [.blk (b1 + 1) 25 [(.v (.int .i64 b.Period)), (.v (.int .i64 b.Count)), (.v (.sl (b.Core.map (cL Span.cs)))), (.v (.sl (b.Odd.map Granule.cs)))], .blk (b1 + 0) 25 [(.v (.int .i64 a.Period)), (.v (.int .i64 a.Count)), (.v (.sl (a.Core.map (cL Span.cs)))), (.v (.sl (a.Odd.map Granule.cs)))]]) rfl ?_ ?_
  · refine Ops.split rfl rfl ?_ ?_ <;> intro hc1
    · skip
      refine Ops.pass rfl rfl rfl ?_
      refine Ops.pass rfl rfl rfl ?_
      refine Ops.pass rfl rfl rfl ?_
      refine Ops.pass rfl rfl rfl ?_
      refine Ops.pass rfl rfl rfl ?_
      refine Ops.pickT (v := (.v (.bool true))) rfl rfl rfl ?_
      apply Ops.nil
      exact ⟨⟨or_T hc1, rfl, rfl, trivial⟩, H.weak (by omega) (Nat.le_refl _)⟩
    · skip
      refine Ops.wanted rfl rfl ?_
      refine Ops.fieldAddrH (off := 0) (fo := 1) H 1 rfl rfl rfl rfl rfl nofun rfl ?_
      refine Ops.wanted rfl rfl ?_
      refine Ops.loadH (off := 1) (v := (.v (.int .i64 a.Count))) H 1 rfl rfl rfl rfl rfl nofun rfl ?_
      refine Ops.wanted rfl rfl ?_
      refine Ops.fieldAddrH (off := 0) (fo := 1) H 0 rfl rfl rfl rfl rfl nofun rfl ?_
      refine Ops.wanted rfl rfl ?_
      refine Ops.loadH (off := 1) (v := (.v (.int .i64 b.Count))) H 0 rfl rfl rfl rfl rfl nofun rfl ?_
      refine Ops.wanted rfl rfl ?_
      refine Ops.int (m := a.Count) (m' := b.Count) (r := .bool (a.Count != b.Count)) rfl rfl rfl rfl rfl ?_
      refine Ops.pickF (v := (.v (.bool (a.Count != b.Count)))) rfl rfl rfl ?_
      apply Ops.nil
      exact ⟨⟨or_F hc1, rfl, rfl, trivial⟩, H.weak (by omega) (Nat.le_refl _)⟩
  · rintro e σ ⟨he, H⟩
    obtain ⟨e, rfl⟩ := he.ex
    refine Ops.move (v := (.v (.bool ((a.Period != b.Period) || (a.Count != b.Count))))) rfl rfl ?_
    refine Ops.mid 8 (K1 := fun e σ => EnvHas e [(29, (.v (.bool (((a.Period != b.Period) || (a.Count != b.Count)) || ((a.Core.length : Int) != (b.Core.length : Int)))))), (2, (.ptr (b1 + 0) 4 0)), (3, (.ptr (b1 + 1) 4 0))] ∧ Has σ (b2 + 21) (b2 + 30) [.blk (b1 + 1) 25 [(.v (.int .i64 b.Period)), (.v (.int .i64 b.Count)), (.v (.sl (b.Core.map (cL Span.cs)))), (.v (.sl (b.Odd.map Granule.cs)))], .blk (b1 + 0) 25 [(.v (.int .i64 a.Period)), (.v (.int .i64 a.Count)), (.v (.sl (a.Core.map (cL Span.cs)))), (.v (.sl (a.Odd.map Granule.cs)))]]) rfl ?_ ?_
    · refine Ops.split rfl rfl ?_ ?_ <;> intro hc2
      · skip
        refine Ops.pass rfl rfl rfl ?_
        refine Ops.pass rfl rfl rfl ?_
        refine Ops.pass rfl rfl rfl ?_
        refine Ops.pass rfl rfl rfl ?_
        refine Ops.pass rfl rfl rfl ?_
        refine Ops.pass rfl rfl rfl ?_
        refine Ops.pass rfl rfl rfl ?_
        refine Ops.pickT (v := (.v (.bool true))) rfl rfl rfl ?_
        apply Ops.nil
        exact ⟨⟨or_T hc2, rfl, rfl, trivial⟩, H.weak (by omega) (Nat.le_refl _)⟩
      · skip
        refine Ops.wanted rfl rfl ?_
        refine Ops.fieldAddrH (off := 0) (fo := 2) H 1 rfl rfl rfl rfl rfl nofun rfl ?_
        refine Ops.wanted rfl rfl ?_
        refine Ops.loadH (off := 2) (v := (.v (.sl (a.Core.map (cL Span.cs))))) H 1 rfl rfl rfl rfl rfl nofun rfl ?_
        refine Ops.wanted rfl rfl ?_
        refine Ops.lenPt (c := (cL Span.cs)) (xs := a.Core) rfl rfl rfl ?_
        refine Ops.wanted rfl rfl ?_
        refine Ops.fieldAddrH (off := 0) (fo := 2) H 0 rfl rfl rfl rfl rfl nofun rfl ?_
        refine Ops.wanted rfl rfl ?_
        refine Ops.loadH (off := 2) (v := (.v (.sl (b.Core.map (cL Span.cs))))) H 0 rfl rfl rfl rfl rfl nofun rfl ?_
        refine Ops.wanted rfl rfl ?_
        refine Ops.lenPt (c := (cL Span.cs)) (xs := b.Core) rfl rfl rfl ?_
        refine Ops.wanted rfl rfl ?_
        refine Ops.int (m := (a.Core.length : Int)) (m' := (b.Core.length : Int)) (r := .bool ((a.Core.length : Int) != (b.Core.length : Int))) rfl rfl rfl rfl rfl ?_
        refine Ops.pickF (v := (.v (.bool ((a.Core.length : Int) != (b.Core.length : Int))))) rfl rfl rfl ?_
        apply Ops.nil
        exact ⟨⟨or_F hc2, rfl, rfl, trivial⟩, H.weak (by omega) (Nat.le_refl _)⟩
    · rintro e σ ⟨he, H⟩
      obtain ⟨e, rfl⟩ := he.ex
      refine Ops.move (v := (.v (.bool (((a.Period != b.Period) || (a.Count != b.Count)) || ((a.Core.length : Int) != (b.Core.length : Int)))))) rfl rfl ?_
      refine Ops.mid 8 (K1 := fun e σ => EnvHas e [(38, (.v (.bool ((((a.Period != b.Period) || (a.Count != b.Count)) || ((a.Core.length : Int) != (b.Core.length : Int))) || ((a.Odd.length : Int) != (b.Odd.length : Int)))))), (2, (.ptr (b1 + 0) 4 0)), (3, (.ptr (b1 + 1) 4 0))] ∧ Has σ (b2 + 30) (b2 + 30) [.blk (b1 + 1) 25 [(.v (.int .i64 b.Period)), (.v (.int .i64 b.Count)), (.v (.sl (b.Core.map (cL Span.cs)))), (.v (.sl (b.Odd.map Granule.cs)))], .blk (b1 + 0) 25 [(.v (.int .i64 a.Period)), (.v (.int .i64 a.Count)), (.v (.sl (a.Core.map (cL Span.cs)))), (.v (.sl (a.Odd.map Granule.cs)))]]) rfl ?_ ?_
      · refine Ops.split rfl rfl ?_ ?_ <;> intro hc3
        · skip
          refine Ops.pass rfl rfl rfl ?_
          refine Ops.pass rfl rfl rfl ?_
          refine Ops.pass rfl rfl rfl ?_
          refine Ops.pass rfl rfl rfl ?_
          refine Ops.pass rfl rfl rfl ?_
          refine Ops.pass rfl rfl rfl ?_
          refine Ops.pass rfl rfl rfl ?_
          refine Ops.pickT (v := (.v (.bool true))) rfl rfl rfl ?_
          apply Ops.nil
          exact ⟨⟨or_T hc3, rfl, rfl, trivial⟩, H.weak (by omega) (Nat.le_refl _)⟩
        · skip
          refine Ops.wanted rfl rfl ?_
          refine Ops.fieldAddrH (off := 0) (fo := 3) H 1 rfl rfl rfl rfl rfl nofun rfl ?_
          refine Ops.wanted rfl rfl ?_
          refine Ops.loadH (off := 3) (v := (.v (.sl (a.Odd.map Granule.cs)))) H 1 rfl rfl rfl rfl rfl nofun rfl ?_
          refine Ops.wanted rfl rfl ?_
          refine Ops.lenPt (c := Granule.cs) (xs := a.Odd) rfl rfl rfl ?_
          refine Ops.wanted rfl rfl ?_
          refine Ops.fieldAddrH (off := 0) (fo := 3) H 0 rfl rfl rfl rfl rfl nofun rfl ?_
          refine Ops.wanted rfl rfl ?_
          refine Ops.loadH (off := 3) (v := (.v (.sl (b.Odd.map Granule.cs)))) H 0 rfl rfl rfl rfl rfl nofun rfl ?_
          refine Ops.wanted rfl rfl ?_
          refine Ops.lenPt (c := Granule.cs) (xs := b.Odd) rfl rfl rfl ?_
          refine Ops.wanted rfl rfl ?_
          refine Ops.int (m := (a.Odd.length : Int)) (m' := (b.Odd.length : Int)) (r := .bool ((a.Odd.length : Int) != (b.Odd.length : Int))) rfl rfl rfl rfl rfl ?_
          refine Ops.pickF (v := (.v (.bool ((a.Odd.length : Int) != (b.Odd.length : Int))))) rfl rfl rfl ?_
          apply Ops.nil
          exact ⟨⟨or_F hc3, rfl, rfl, trivial⟩, H.weak (by omega) (Nat.le_refl _)⟩
      · rintro e σ ⟨he, H⟩
        obtain ⟨e, rfl⟩ := he.ex
        apply Ops.nil
        replace H := H.all
        refine Runs.whether (v := ((((a.Period != b.Period) || (a.Count != b.Count)) || ((a.Core.length : Int) != (b.Core.length : Int))) || ((a.Odd.length : Int) != (b.Odd.length : Int)))) rfl ?_ ?_ <;> intro hc4
        · replace h := cond_T hc4 h
          apply Runs.then
          refine Runs.regionH 1 rfl H ?_; intro b3 σ H
          refine Ops.assign (v := (.v (.bool false))) rfl rfl ?_
          apply Ops.nil
          replace H := H.all
          apply Runs.ret
          replace h := Option.some.inj h; subst h
          exact (Ends.H (xs := [(.v (.bool false))]) (.inr rfl) H (.tmp (v := (.v (.bool false))) rfl .nil) (.one (.c (.v _))))
        · replace h := cond_F hc4 h
          apply Runs.skip
          apply Runs.then
          apply Runs.then
          refine Runs.regionH 4 rfl H ?_; intro b4 σ H
          refine Ops.fieldAddrH (off := 0) (fo := 2) H 1 rfl rfl rfl rfl rfl nofun rfl ?_
          refine Ops.loadH (off := 2) (v := (.v (.sl (a.Core.map (cL Span.cs))))) H 1 rfl rfl rfl rfl rfl nofun rfl ?_
          refine Ops.lenPt (c := (cL Span.cs)) (xs := a.Core) rfl rfl rfl ?_
          refine Ops.move (v := (.v (.int .i64 0))) rfl rfl ?_
          apply Ops.nil
          replace H := H.all
          apply Runs.inBlock
          obtain ⟨y1, hj1, h⟩ := bind_some h
          obtain ⟨n1, hj1⟩ := loopO_iff.1 hj1
          refine Runs.mono (Runs.loopO hj1 (fun s1 e σ => EnvHas e [(2, (.ptr (b1 + 0) 4 0)), (3, (.ptr (b1 + 1) 4 0)), (40, (.v (.sl (a.Core.map (cL Span.cs))))), (41, (.v (.int .i64 (a.Core.length : Int)))), (42, (.v (.int .i64 s1)))] ∧ Hs σ [.blk (b1 + 1) 25 [(.v (.int .i64 b.Period)), (.v (.int .i64 b.Count)), (.v (.sl (b.Core.map (cL Span.cs)))), (.v (.sl (b.Odd.map Granule.cs)))], .blk (b1 + 0) 25 [(.v (.int .i64 a.Period)), (.v (.int .i64 a.Count)), (.v (.sl (a.Core.map (cL Span.cs)))), (.v (.sl (a.Odd.map Granule.cs)))]]) (fun y1 x e σ => (∃ a1, y1 = (.go a1) ∧ x = .exit 0 ∧ EnvHas e [(2, (.ptr (b1 + 0) 4 0)), (3, (.ptr (b1 + 1) 4 0))] ∧ Hs σ [.blk (b1 + 1) 25 [(.v (.int .i64 b.Period)), (.v (.int .i64 b.Count)), (.v (.sl (b.Core.map (cL Span.cs)))), (.v (.sl (b.Odd.map Granule.cs)))], .blk (b1 + 0) 25 [(.v (.int .i64 a.Period)), (.v (.int .i64 a.Count)), (.v (.sl (a.Core.map (cL Span.cs)))), (.v (.sl (a.Odd.map Granule.cs)))]]) ∨ (∃ r', y1 = (.ret r') ∧ x = .ret ∧ Ends CX Try.f24.results.toList (.v (.bool r')) x e σ)) ⟨⟨rfl, rfl, rfl, rfl, rfl, trivial⟩, H⟩ ?_) ?_
          · intro s1 e σ hI z h
            obtain ⟨he, H⟩ := hI
            obtain ⟨e, rfl⟩ := he.ex
            unfold epactlow_AlikeForms.s0 at h
            apply Runs.then
            refine Runs.regionH 1 rfl H ?_; intro b5 σ H
            refine Ops.int (m := s1) (m' := (a.Core.length : Int)) (r := .bool (decide (s1 < (a.Core.length : Int)))) rfl rfl rfl rfl rfl ?_
            apply Ops.nil
            replace H := H.all
            apply Runs.then
            refine Runs.whether (v := (decide (s1 < (a.Core.length : Int)))) rfl ?_ ?_ <;> intro hc5
            · replace h := cond_T hc5 h
              apply Runs.skip
              apply Runs.then
              apply Runs.inBlock
              apply Runs.then
              refine Runs.regionH 5 rfl H ?_; intro b6 σ H
              refine Ops.move (v := (.v (.int .i64 s1))) rfl rfl ?_
              obtain ⟨x1, q1, h⟩ := bind_some h
              refine Ops.indexP (c := (cL Span.cs)) (u := x1) rfl rfl q1 rfl rfl rfl rfl ?_
              refine Ops.loadP (u := (.sl (x1.map Span.cs))) rfl rfl rfl rfl ?_
              refine Ops.assign (v := (.v (.int .i64 s1))) rfl rfl ?_
              refine Ops.assign (v := (.v (.sl (x1.map Span.cs)))) rfl rfl ?_
              apply Ops.nil
              replace H := H.all
              apply Runs.then
              refine Runs.regionH 8 rfl H ?_; intro b7 σ H
              refine Ops.move (v := (.v (.sl (x1.map Span.cs)))) rfl rfl ?_
              refine Ops.fieldAddrH (off := 0) (fo := 2) H 0 rfl rfl rfl rfl rfl nofun rfl ?_
              refine Ops.loadH (off := 2) (v := (.v (.sl (b.Core.map (cL Span.cs))))) H 0 rfl rfl rfl rfl rfl nofun rfl ?_
              refine Ops.move (v := (.v (.int .i64 s1))) rfl rfl ?_
              obtain ⟨x2, q2, h⟩ := bind_some h
              refine Ops.indexP (c := (cL Span.cs)) (u := x2) rfl rfl q2 rfl rfl rfl rfl ?_
              refine Ops.loadP (u := (.sl (x2.map Span.cs))) rfl rfl rfl rfl ?_
              obtain ⟨x3, q3, h⟩ := bind_some h
              refine Ops.call (ys := [(.v (.sl (x1.map Span.cs))), (.v (.sl (x2.map Span.cs)))]) (r := (.v (.bool x3))) rfl (epactlow_Alike_fn q3) rfl ?_
              refine Ops.not (b := x3) rfl rfl ?_
              apply Ops.nil
              replace H := H.all
              refine Runs.whether (v := (!x3)) rfl ?_ ?_ <;> intro hc6
              · replace h := cond_T hc6 h
                apply Runs.then
                refine Runs.regionH 1 rfl H ?_; intro b8 σ H
                refine Ops.assign (v := (.v (.bool false))) rfl rfl ?_
                apply Ops.nil
                replace H := H.all
                apply Runs.ret
                replace h := Option.some.inj h; subst h
                exact ⟨nofun, (.inr ⟨_, rfl, rfl, (Ends.H (xs := [(.v (.bool false))]) (.inr rfl) H (.tmp (v := (.v (.bool false))) rfl .nil) (.one (.c (.v _))))⟩)⟩
              · replace h := cond_F hc6 h
                apply Runs.skip
                refine Runs.regionH 2 rfl H ?_; intro b9 σ H
                refine Ops.int (m := s1) (m' := 1) (r := .int .i64 (w64 (s1 + 1))) rfl rfl rfl rfl rfl ?_
                refine Ops.move (v := (.v (.int .i64 (w64 (s1 + 1))))) rfl rfl ?_
                apply Ops.nil
                replace H := H.all
                replace h := Option.some.inj h; subst h
                exact ⟨rfl, ⟨rfl, rfl, rfl, rfl, rfl, trivial⟩, H⟩
            · replace h := cond_F hc5 h
              apply Runs.exit
              replace h := Option.some.inj h; subst h
              exact ⟨nofun, (.inl ⟨_, rfl, rfl, ⟨rfl, rfl, trivial⟩, H⟩)⟩
          · rintro x e σ (⟨a2, rfl, rfl, he, H⟩ | ⟨r', rfl, rfl, hE⟩)
            · skip
              replace h := jgo h
              obtain ⟨e, rfl⟩ := he.ex
              apply Runs.then
              apply Runs.then
              refine Runs.regionH 4 rfl H ?_; intro b10 σ H
              refine Ops.fieldAddrH (off := 0) (fo := 3) H 1 rfl rfl rfl rfl rfl nofun rfl ?_
              refine Ops.loadH (off := 3) (v := (.v (.sl (a.Odd.map Granule.cs)))) H 1 rfl rfl rfl rfl rfl nofun rfl ?_
              refine Ops.lenPt (c := Granule.cs) (xs := a.Odd) rfl rfl rfl ?_
              refine Ops.move (v := (.v (.int .i64 0))) rfl rfl ?_
              apply Ops.nil
              replace H := H.all
              apply Runs.inBlock
              obtain ⟨y2, hj2, h⟩ := bind_some h
              obtain ⟨n2, hj2⟩ := loopO_iff.1 hj2
              refine Runs.mono (Runs.loopO hj2 (fun s2 e σ => EnvHas e [(3, (.ptr (b1 + 1) 4 0)), (57, (.v (.sl (a.Odd.map Granule.cs)))), (58, (.v (.int .i64 (a.Odd.length : Int)))), (59, (.v (.int .i64 s2)))] ∧ Hs σ [.blk (b1 + 1) 25 [(.v (.int .i64 b.Period)), (.v (.int .i64 b.Count)), (.v (.sl (b.Core.map (cL Span.cs)))), (.v (.sl (b.Odd.map Granule.cs)))]]) (fun y2 x e σ => (∃ a3, y2 = (.go a3) ∧ x = .exit 2 ∧ EnvHas e [] ∧ Hs σ []) ∨ (∃ r', y2 = (.ret r') ∧ x = .ret ∧ Ends CX Try.f24.results.toList (.v (.bool r')) x e σ)) ⟨⟨rfl, rfl, rfl, rfl, trivial⟩, (H.erase 1)⟩ ?_) ?_
              · intro s2 e σ hI z h
                obtain ⟨he, H⟩ := hI
                obtain ⟨e, rfl⟩ := he.ex
                unfold epactlow_AlikeForms.s1 at h
                apply Runs.then
                refine Runs.regionH 1 rfl H ?_; intro b11 σ H
                refine Ops.int (m := s2) (m' := (a.Odd.length : Int)) (r := .bool (decide (s2 < (a.Odd.length : Int)))) rfl rfl rfl rfl rfl ?_
                apply Ops.nil
                replace H := H.all
                apply Runs.then
                refine Runs.whether (v := (decide (s2 < (a.Odd.length : Int)))) rfl ?_ ?_ <;> intro hc7
                · replace h := cond_T hc7 h
                  apply Runs.skip
                  apply Runs.then
                  apply Runs.inBlock
                  apply Runs.then
                  refine Runs.regionH 6 rfl H ?_; intro b12 σ H
                  refine Ops.move (v := (.v (.int .i64 s2))) rfl rfl ?_
                  obtain ⟨x4, q4, h⟩ := bind_some h
                  refine Ops.indexP (c := Granule.cs) (u := x4) rfl rfl q4 rfl rfl rfl rfl ?_
                  refine Ops.loadPA (cs := [(.int .i64 x4.Index), (.sl (x4.Ticks.map Span.cs))]) rfl rfl rfl rfl rfl rfl ?_
                  refine Ops.allocH (cs := [(.v (.int .i64 0)), .nils]) H (by omega) (by omega) rfl rfl ?_; intro σ H
                  refine Ops.assign (v := (.v (.int .i64 s2))) rfl rfl ?_
                  refine Ops.storeH (off := 0) (v := (.agg [(.v (.int .i64 x4.Index)), (.v (.sl (x4.Ticks.map Span.cs)))])) (ys := [(.v (.int .i64 x4.Index)), (.v (.sl (x4.Ticks.map Span.cs)))]) (cells' := [(.v (.int .i64 x4.Index)), (.v (.sl (x4.Ticks.map Span.cs)))]) H 0 rfl rfl rfl rfl rfl rfl rfl rfl rfl nofun ?_; intro σ H
                  apply Ops.nil
                  replace H := H.all
                  apply Runs.then
                  refine Runs.drawnH 21 rfl (by kernel_rfl) H ?_; intro b13 σ H B13
                  refine Ops.fieldAddrH (off := 0) (fo := 0) H 0 rfl rfl rfl rfl rfl (fun _ => .inl ⟨B13 0 _ rfl _ rfl, nofun⟩) rfl ?_
                  refine Ops.loadH (off := 0) (v := (.v (.int .i64 x4.Index))) H 0 rfl rfl rfl rfl rfl (fun _ => .inl ⟨B13 0 _ rfl _ rfl, nofun⟩) rfl ?_
                  refine Ops.fieldAddrH (off := 0) (fo := 3) H 1 rfl rfl rfl rfl rfl (fun _ => .inl ⟨B13 1 _ rfl _ rfl, nofun⟩) rfl ?_
                  refine Ops.loadH (off := 3) (v := (.v (.sl (b.Odd.map Granule.cs)))) H 1 rfl rfl rfl rfl rfl (fun _ => .inl ⟨B13 1 _ rfl _ rfl, nofun⟩) rfl ?_
                  refine Ops.move (v := (.v (.int .i64 s2))) rfl rfl ?_
                  obtain ⟨x5, q5, h⟩ := bind_some h
                  refine Ops.indexP (c := Granule.cs) (u := x5) rfl rfl q5 rfl rfl rfl rfl ?_
                  refine Ops.fieldAddrP rfl rfl rfl rfl ?_
                  refine Ops.loadP (u := (.int .i64 x5.Index)) rfl rfl rfl rfl ?_
                  refine Ops.int (m := x4.Index) (m' := x5.Index) (r := .bool (x4.Index != x5.Index)) rfl rfl rfl rfl rfl ?_
                  refine Ops.move (v := (.v (.bool (x4.Index != x5.Index)))) rfl rfl ?_
                  obtain ⟨y3, hj3, h⟩ := bind_some h
                  refine Ops.mid 11 (K1 := fun e σ => EnvHas e [(84, (.v (.bool y3))), (3, (.ptr (b1 + 1) 4 0)), (57, (.v (.sl (a.Odd.map Granule.cs)))), (58, (.v (.int .i64 (a.Odd.length : Int)))), (59, (.v (.int .i64 s2)))] ∧ Has σ (b13 + 21) (b13 + 21) [.blk (b1 + 1) 25 [(.v (.int .i64 b.Period)), (.v (.int .i64 b.Count)), (.v (.sl (b.Core.map (cL Span.cs)))), (.v (.sl (b.Odd.map Granule.cs)))]]) rfl ?_ ?_
                  · refine Ops.split rfl rfl ?_ ?_ <;> intro hc8
                    · replace h := cond_T hc8 hj3
                      refine Ops.pass rfl rfl rfl ?_
                      refine Ops.pass rfl rfl rfl ?_
                      refine Ops.pass rfl rfl rfl ?_
                      refine Ops.pass rfl rfl rfl ?_
                      refine Ops.pass rfl rfl rfl ?_
                      refine Ops.pass rfl rfl rfl ?_
                      refine Ops.pass rfl rfl rfl ?_
                      refine Ops.pass rfl rfl rfl ?_
                      refine Ops.pass rfl rfl rfl ?_
                      refine Ops.pass rfl rfl rfl ?_
                      refine Ops.pickT (v := (.v (.bool true))) rfl rfl rfl ?_
                      apply Ops.nil
                      replace h := Option.some.inj h; subst h
                      exact ⟨⟨rfl, rfl, rfl, rfl, rfl, trivial⟩, (H.erase 0).weak (by omega) (Nat.le_refl _)⟩
                    · replace h := cond_F hc8 hj3
                      refine Ops.wanted rfl rfl ?_
                      refine Ops.fieldAddrH (off := 0) (fo := 1) H 0 rfl rfl rfl rfl rfl (fun _ => .inl ⟨B13 0 _ rfl _ rfl, nofun⟩) rfl ?_
                      refine Ops.wanted rfl rfl ?_
                      refine Ops.loadH (off := 1) (v := (.v (.sl (x4.Ticks.map Span.cs)))) H 0 rfl rfl rfl rfl rfl (fun _ => .inl ⟨B13 0 _ rfl _ rfl, nofun⟩) rfl ?_
                      refine Ops.wanted rfl rfl ?_
                      refine Ops.fieldAddrH (off := 0) (fo := 3) H 1 rfl rfl rfl rfl rfl (fun _ => .inl ⟨B13 1 _ rfl _ rfl, nofun⟩) rfl ?_
                      refine Ops.wanted rfl rfl ?_
                      refine Ops.loadH (off := 3) (v := (.v (.sl (b.Odd.map Granule.cs)))) H 1 rfl rfl rfl rfl rfl (fun _ => .inl ⟨B13 1 _ rfl _ rfl, nofun⟩) rfl ?_
                      refine Ops.wanted rfl rfl ?_
                      refine Ops.move (v := (.v (.int .i64 s2))) rfl rfl ?_
                      refine Ops.wanted rfl rfl ?_
                      obtain ⟨x6, q6, h⟩ := bind_some h
                      refine Ops.indexP (c := Granule.cs) (u := x6) rfl rfl q6 rfl rfl rfl rfl ?_
                      refine Ops.wanted rfl rfl ?_
                      refine Ops.fieldAddrP rfl rfl rfl rfl ?_
                      refine Ops.wanted rfl rfl ?_
                      refine Ops.loadP (u := (.sl (x6.Ticks.map Span.cs))) rfl rfl rfl rfl ?_
                      refine Ops.wanted rfl rfl ?_
                      obtain ⟨x7, q7, h⟩ := bind_some h
                      refine Ops.call (ys := [(.v (.sl (x4.Ticks.map Span.cs))), (.v (.sl (x6.Ticks.map Span.cs)))]) (r := (.v (.bool x7))) rfl (epactlow_Alike_fn q7) rfl ?_
                      refine Ops.wanted rfl rfl ?_
                      refine Ops.not (b := x7) rfl rfl ?_
                      refine Ops.pickF (v := (.v (.bool (!x7)))) rfl rfl rfl ?_
                      apply Ops.nil
                      replace h := Option.some.inj h; subst h
                      exact ⟨⟨rfl, rfl, rfl, rfl, rfl, trivial⟩, (H.erase 0).weak (by omega) (Nat.le_refl _)⟩
                  · rintro e σ ⟨he, H⟩
                    obtain ⟨e, rfl⟩ := he.ex
                    apply Ops.nil
                    replace H := H.all
                    refine Runs.whether (v := y3) rfl ?_ ?_ <;> intro hc9
                    · replace h := cond_T hc9 h
                      apply Runs.then
                      refine Runs.regionH 1 rfl H ?_; intro b14 σ H
                      refine Ops.assign (v := (.v (.bool false))) rfl rfl ?_
                      apply Ops.nil
                      replace H := H.all
                      apply Runs.ret
                      replace h := Option.some.inj h; subst h
                      exact ⟨nofun, (.inr ⟨_, rfl, rfl, (Ends.H (xs := [(.v (.bool false))]) (.inr rfl) H (.tmp (v := (.v (.bool false))) rfl .nil) (.one (.c (.v _))))⟩)⟩
                    · replace h := cond_F hc9 h
                      apply Runs.skip
                      refine Runs.regionH 2 rfl H ?_; intro b15 σ H
                      refine Ops.int (m := s2) (m' := 1) (r := .int .i64 (w64 (s2 + 1))) rfl rfl rfl rfl rfl ?_
                      refine Ops.move (v := (.v (.int .i64 (w64 (s2 + 1))))) rfl rfl ?_
                      apply Ops.nil
                      replace H := H.all
                      replace h := Option.some.inj h; subst h
                      exact ⟨rfl, ⟨rfl, rfl, rfl, rfl, trivial⟩, H⟩
                · replace h := cond_F hc7 h
                  apply Runs.exit
                  replace h := Option.some.inj h; subst h
                  exact ⟨nofun, (.inl ⟨_, rfl, rfl, trivial, (H.erase 0)⟩)⟩
              · rintro x e σ (⟨a4, rfl, rfl, he, H⟩ | ⟨r', rfl, rfl, hE⟩)
                · skip
                  replace h := jgo h
                  obtain ⟨e, rfl⟩ := he.ex
                  apply Runs.then
                  refine Runs.regionH 1 rfl H ?_; intro b16 σ H
                  refine Ops.assign (v := (.v (.bool true))) rfl rfl ?_
                  apply Ops.nil
                  replace H := H.all
                  apply Runs.ret
                  replace h := Option.some.inj h; subst h
                  exact (Ends.H (xs := [(.v (.bool true))]) (.inr rfl) H (.tmp (v := (.v (.bool true))) rfl .nil) (.one (.c (.v _))))
                · skip
                  replace h := jret h
                  replace h := Option.some.inj h; subst h
                  exact hE
            · skip
              replace h := jret h
              replace h := Option.some.inj h; subst h
              exact hE

set_option maxRecDepth 100000 in
set_option maxHeartbeats 4000000 in
theorem epactlaw06_CanonSame_fn {f : Form} {g : Form} {r : Bool} (h : epactlaw06_CanonSame f g = some r) : Fn CX 8 [(.agg (vs (Form.cs f))), (.agg (vs (Form.cs g)))] (.v (.bool r)) := by
  refine Fn.ends Try.func8 rfl rfl rfl rfl rfl rfl ?_
  have H : Hs (⟨0, fun _ => .none⟩ : Heap) [] := Has.nil (Nat.le_refl _)
  generalize (⟨0, fun _ => .none⟩ : Heap) = σ at H ⊢
  unfold epactlaw06_CanonSame at h
  apply Runs.then
  refine Runs.regionH 3 rfl H ?_; intro b1 σ H
  refine Ops.boxH (v := (.agg [(.v (.int .i64 f.Period)), (.v (.int .i64 f.Count)), (.v (.sl (f.Core.map (cL Span.cs)))), (.v (.sl (f.Odd.map Granule.cs)))])) (cs := [(.v (.int .i64 f.Period)), (.v (.int .i64 f.Count)), (.v (.sl (f.Core.map (cL Span.cs)))), (.v (.sl (f.Odd.map Granule.cs)))]) H (by omega) (by omega) rfl rfl rfl ?_; intro σ H
  refine Ops.boxH (v := (.agg [(.v (.int .i64 g.Period)), (.v (.int .i64 g.Count)), (.v (.sl (g.Core.map (cL Span.cs)))), (.v (.sl (g.Odd.map Granule.cs)))])) (cs := [(.v (.int .i64 g.Period)), (.v (.int .i64 g.Count)), (.v (.sl (g.Core.map (cL Span.cs)))), (.v (.sl (g.Odd.map Granule.cs)))]) H (by omega) (by omega) rfl rfl rfl ?_; intro σ H
  refine Ops.assign (v := (.v (.bool false))) rfl rfl ?_
  apply Ops.nil
  replace H := H.all
  apply Runs.then
  apply Runs.then
  refine Runs.regionH 28 rfl H ?_; intro b2 σ H
  refine Ops.loadHA (off := 0) (cs := [(.v (.int .i64 f.Period)), (.v (.int .i64 f.Count)), (.v (.sl (f.Core.map (cL Span.cs)))), (.v (.sl (f.Odd.map Granule.cs)))]) H 1 rfl rfl rfl rfl rfl rfl rfl nofun rfl ?_
  obtain ⟨x1, q1, h⟩ := bind_some h
  refine Ops.call (ys := [(.agg [(.v (.int .i64 f.Period)), (.v (.int .i64 f.Count)), (.v (.sl (f.Core.map (cL Span.cs)))), (.v (.sl (f.Odd.map Granule.cs)))])]) (r := (.v (.bool x1))) rfl (epactlaw06_right_fn q1) rfl ?_
  refine Ops.not (b := x1) rfl rfl ?_
  refine Ops.move (v := (.v (.bool (!x1)))) rfl rfl ?_
  obtain ⟨y1, hj1, h⟩ := bind_some h
  refine Ops.mid 4 (K1 := fun e σ => EnvHas e [(18, (.v (.bool y1))), (2, (.ptr (b1 + 0) 4 0)), (3, (.ptr (b1 + 1) 4 0))] ∧ Has σ (b2 + 8) (b2 + 28) [.blk (b1 + 1) 25 [(.v (.int .i64 g.Period)), (.v (.int .i64 g.Count)), (.v (.sl (g.Core.map (cL Span.cs)))), (.v (.sl (g.Odd.map Granule.cs)))], .blk (b1 + 0) 25 [(.v (.int .i64 f.Period)), (.v (.int .i64 f.Count)), (.v (.sl (f.Core.map (cL Span.cs)))), (.v (.sl (f.Odd.map Granule.cs)))]]) rfl ?_ ?_
  · refine Ops.split rfl rfl ?_ ?_ <;> intro hc1
    · replace h := cond_T hc1 hj1
      refine Ops.pass rfl rfl rfl ?_
      refine Ops.pass rfl rfl rfl ?_
      refine Ops.pass rfl rfl rfl ?_
      refine Ops.pickT (v := (.v (.bool true))) rfl rfl rfl ?_
      apply Ops.nil
      replace h := Option.some.inj h; subst h
      exact ⟨⟨rfl, rfl, rfl, trivial⟩, H.weak (by omega) (Nat.le_refl _)⟩
    · replace h := cond_F hc1 hj1
      refine Ops.wanted rfl rfl ?_
      refine Ops.loadHA (off := 0) (cs := [(.v (.int .i64 g.Period)), (.v (.int .i64 g.Count)), (.v (.sl (g.Core.map (cL Span.cs)))), (.v (.sl (g.Odd.map Granule.cs)))]) H 0 rfl rfl rfl rfl rfl rfl rfl nofun rfl ?_
      refine Ops.wanted rfl rfl ?_
      obtain ⟨x2, q2, h⟩ := bind_some h
      refine Ops.call (ys := [(.agg [(.v (.int .i64 g.Period)), (.v (.int .i64 g.Count)), (.v (.sl (g.Core.map (cL Span.cs)))), (.v (.sl (g.Odd.map Granule.cs)))])]) (r := (.v (.bool x2))) rfl (epactlaw06_right_fn q2) rfl ?_
      refine Ops.wanted rfl rfl ?_
      refine Ops.not (b := x2) rfl rfl ?_
      refine Ops.pickF (v := (.v (.bool (!x2)))) rfl rfl rfl ?_
      apply Ops.nil
      replace h := Option.some.inj h; subst h
      exact ⟨⟨rfl, rfl, rfl, trivial⟩, H.weak (by omega) (Nat.le_refl _)⟩
  · rintro e σ ⟨he, H⟩
    obtain ⟨e, rfl⟩ := he.ex
    refine Ops.move (v := (.v (.bool y1))) rfl rfl ?_
    obtain ⟨y2, hj2, h⟩ := bind_some h
    refine Ops.mid 4 (K1 := fun e σ => EnvHas e [(23, (.v (.bool y2))), (2, (.ptr (b1 + 0) 4 0)), (3, (.ptr (b1 + 1) 4 0))] ∧ Has σ (b2 + 13) (b2 + 28) [.blk (b1 + 1) 25 [(.v (.int .i64 g.Period)), (.v (.int .i64 g.Count)), (.v (.sl (g.Core.map (cL Span.cs)))), (.v (.sl (g.Odd.map Granule.cs)))], .blk (b1 + 0) 25 [(.v (.int .i64 f.Period)), (.v (.int .i64 f.Count)), (.v (.sl (f.Core.map (cL Span.cs)))), (.v (.sl (f.Odd.map Granule.cs)))]]) rfl ?_ ?_
    · refine Ops.split rfl rfl ?_ ?_ <;> intro hc2
      · replace h := cond_T hc2 hj2
        refine Ops.pass rfl rfl rfl ?_
        refine Ops.pass rfl rfl rfl ?_
        refine Ops.pass rfl rfl rfl ?_
        refine Ops.pickT (v := (.v (.bool true))) rfl rfl rfl ?_
        apply Ops.nil
        replace h := Option.some.inj h; subst h
        exact ⟨⟨rfl, rfl, rfl, trivial⟩, H.weak (by omega) (Nat.le_refl _)⟩
      · replace h := cond_F hc2 hj2
        refine Ops.wanted rfl rfl ?_
        refine Ops.loadHA (off := 0) (cs := [(.v (.int .i64 f.Period)), (.v (.int .i64 f.Count)), (.v (.sl (f.Core.map (cL Span.cs)))), (.v (.sl (f.Odd.map Granule.cs)))]) H 1 rfl rfl rfl rfl rfl rfl rfl nofun rfl ?_
        refine Ops.wanted rfl rfl ?_
        obtain ⟨x3, q3, h⟩ := bind_some h
        refine Ops.call (ys := [(.agg [(.v (.int .i64 f.Period)), (.v (.int .i64 f.Count)), (.v (.sl (f.Core.map (cL Span.cs)))), (.v (.sl (f.Odd.map Granule.cs)))]), (.v (.int .i64 200))]) (r := (.v (.bool x3))) rfl (epactlaw06_near_fn q3) rfl ?_
        refine Ops.wanted rfl rfl ?_
        refine Ops.not (b := x3) rfl rfl ?_
        refine Ops.pickF (v := (.v (.bool (!x3)))) rfl rfl rfl ?_
        apply Ops.nil
        replace h := Option.some.inj h; subst h
        exact ⟨⟨rfl, rfl, rfl, trivial⟩, H.weak (by omega) (Nat.le_refl _)⟩
    · rintro e σ ⟨he, H⟩
      obtain ⟨e, rfl⟩ := he.ex
      refine Ops.move (v := (.v (.bool y2))) rfl rfl ?_
      obtain ⟨y3, hj3, h⟩ := bind_some h
      refine Ops.mid 4 (K1 := fun e σ => EnvHas e [(28, (.v (.bool y3))), (2, (.ptr (b1 + 0) 4 0)), (3, (.ptr (b1 + 1) 4 0))] ∧ Has σ (b2 + 18) (b2 + 28) [.blk (b1 + 1) 25 [(.v (.int .i64 g.Period)), (.v (.int .i64 g.Count)), (.v (.sl (g.Core.map (cL Span.cs)))), (.v (.sl (g.Odd.map Granule.cs)))], .blk (b1 + 0) 25 [(.v (.int .i64 f.Period)), (.v (.int .i64 f.Count)), (.v (.sl (f.Core.map (cL Span.cs)))), (.v (.sl (f.Odd.map Granule.cs)))]]) rfl ?_ ?_
      · refine Ops.split rfl rfl ?_ ?_ <;> intro hc3
        · replace h := cond_T hc3 hj3
          refine Ops.pass rfl rfl rfl ?_
          refine Ops.pass rfl rfl rfl ?_
          refine Ops.pass rfl rfl rfl ?_
          refine Ops.pickT (v := (.v (.bool true))) rfl rfl rfl ?_
          apply Ops.nil
          replace h := Option.some.inj h; subst h
          exact ⟨⟨rfl, rfl, rfl, trivial⟩, H.weak (by omega) (Nat.le_refl _)⟩
        · replace h := cond_F hc3 hj3
          refine Ops.wanted rfl rfl ?_
          refine Ops.loadHA (off := 0) (cs := [(.v (.int .i64 g.Period)), (.v (.int .i64 g.Count)), (.v (.sl (g.Core.map (cL Span.cs)))), (.v (.sl (g.Odd.map Granule.cs)))]) H 0 rfl rfl rfl rfl rfl rfl rfl nofun rfl ?_
          refine Ops.wanted rfl rfl ?_
          obtain ⟨x4, q4, h⟩ := bind_some h
          refine Ops.call (ys := [(.agg [(.v (.int .i64 g.Period)), (.v (.int .i64 g.Count)), (.v (.sl (g.Core.map (cL Span.cs)))), (.v (.sl (g.Odd.map Granule.cs)))]), (.v (.int .i64 200))]) (r := (.v (.bool x4))) rfl (epactlaw06_near_fn q4) rfl ?_
          refine Ops.wanted rfl rfl ?_
          refine Ops.not (b := x4) rfl rfl ?_
          refine Ops.pickF (v := (.v (.bool (!x4)))) rfl rfl rfl ?_
          apply Ops.nil
          replace h := Option.some.inj h; subst h
          exact ⟨⟨rfl, rfl, rfl, trivial⟩, H.weak (by omega) (Nat.le_refl _)⟩
      · rintro e σ ⟨he, H⟩
        obtain ⟨e, rfl⟩ := he.ex
        refine Ops.move (v := (.v (.bool y3))) rfl rfl ?_
        refine Ops.mid 4 (K1 := fun e σ => EnvHas e [(33, (.v (.bool (y3 || (decide (f.Period > 32768)))))), (2, (.ptr (b1 + 0) 4 0)), (3, (.ptr (b1 + 1) 4 0))] ∧ Has σ (b2 + 23) (b2 + 28) [.blk (b1 + 1) 25 [(.v (.int .i64 g.Period)), (.v (.int .i64 g.Count)), (.v (.sl (g.Core.map (cL Span.cs)))), (.v (.sl (g.Odd.map Granule.cs)))], .blk (b1 + 0) 25 [(.v (.int .i64 f.Period)), (.v (.int .i64 f.Count)), (.v (.sl (f.Core.map (cL Span.cs)))), (.v (.sl (f.Odd.map Granule.cs)))]]) rfl ?_ ?_
        · refine Ops.split rfl rfl ?_ ?_ <;> intro hc4
          · skip
            refine Ops.pass rfl rfl rfl ?_
            refine Ops.pass rfl rfl rfl ?_
            refine Ops.pass rfl rfl rfl ?_
            refine Ops.pickT (v := (.v (.bool true))) rfl rfl rfl ?_
            apply Ops.nil
            exact ⟨⟨or_T hc4, rfl, rfl, trivial⟩, H.weak (by omega) (Nat.le_refl _)⟩
          · skip
            refine Ops.wanted rfl rfl ?_
            refine Ops.fieldAddrH (off := 0) (fo := 0) H 1 rfl rfl rfl rfl rfl nofun rfl ?_
            refine Ops.wanted rfl rfl ?_
            refine Ops.loadH (off := 0) (v := (.v (.int .i64 f.Period))) H 1 rfl rfl rfl rfl rfl nofun rfl ?_
            refine Ops.wanted rfl rfl ?_
            refine Ops.int (m := f.Period) (m' := 32768) (r := .bool (decide (f.Period > 32768))) rfl rfl rfl rfl rfl ?_
            refine Ops.pickF (v := (.v (.bool (decide (f.Period > 32768))))) rfl rfl rfl ?_
            apply Ops.nil
            exact ⟨⟨or_F hc4, rfl, rfl, trivial⟩, H.weak (by omega) (Nat.le_refl _)⟩
        · rintro e σ ⟨he, H⟩
          obtain ⟨e, rfl⟩ := he.ex
          refine Ops.move (v := (.v (.bool (y3 || (decide (f.Period > 32768)))))) rfl rfl ?_
          refine Ops.mid 4 (K1 := fun e σ => EnvHas e [(38, (.v (.bool ((y3 || (decide (f.Period > 32768))) || (decide (g.Period > 32768)))))), (2, (.ptr (b1 + 0) 4 0)), (3, (.ptr (b1 + 1) 4 0))] ∧ Has σ (b2 + 28) (b2 + 28) [.blk (b1 + 1) 25 [(.v (.int .i64 g.Period)), (.v (.int .i64 g.Count)), (.v (.sl (g.Core.map (cL Span.cs)))), (.v (.sl (g.Odd.map Granule.cs)))], .blk (b1 + 0) 25 [(.v (.int .i64 f.Period)), (.v (.int .i64 f.Count)), (.v (.sl (f.Core.map (cL Span.cs)))), (.v (.sl (f.Odd.map Granule.cs)))]]) rfl ?_ ?_
          · refine Ops.split rfl rfl ?_ ?_ <;> intro hc5
            · skip
              refine Ops.pass rfl rfl rfl ?_
              refine Ops.pass rfl rfl rfl ?_
              refine Ops.pass rfl rfl rfl ?_
              refine Ops.pickT (v := (.v (.bool true))) rfl rfl rfl ?_
              apply Ops.nil
              exact ⟨⟨or_T hc5, rfl, rfl, trivial⟩, H.weak (by omega) (Nat.le_refl _)⟩
            · skip
              refine Ops.wanted rfl rfl ?_
              refine Ops.fieldAddrH (off := 0) (fo := 0) H 0 rfl rfl rfl rfl rfl nofun rfl ?_
              refine Ops.wanted rfl rfl ?_
              refine Ops.loadH (off := 0) (v := (.v (.int .i64 g.Period))) H 0 rfl rfl rfl rfl rfl nofun rfl ?_
              refine Ops.wanted rfl rfl ?_
              refine Ops.int (m := g.Period) (m' := 32768) (r := .bool (decide (g.Period > 32768))) rfl rfl rfl rfl rfl ?_
              refine Ops.pickF (v := (.v (.bool (decide (g.Period > 32768))))) rfl rfl rfl ?_
              apply Ops.nil
              exact ⟨⟨or_F hc5, rfl, rfl, trivial⟩, H.weak (by omega) (Nat.le_refl _)⟩
          · rintro e σ ⟨he, H⟩
            obtain ⟨e, rfl⟩ := he.ex
            apply Ops.nil
            replace H := H.all
            refine Runs.whether (v := ((y3 || (decide (f.Period > 32768))) || (decide (g.Period > 32768)))) rfl ?_ ?_ <;> intro hc6
            · replace h := cond_T hc6 h
              apply Runs.then
              refine Runs.regionH 2 rfl H ?_; intro b3 σ H
              refine Ops.call (ys := []) (r := (.v (.bool epactlaw06_awake))) rfl (epactlaw06_awake_fn rfl) rfl ?_
              refine Ops.assign (v := (.v (.bool epactlaw06_awake))) rfl rfl ?_
              apply Ops.nil
              replace H := H.all
              apply Runs.ret
              replace h := Option.some.inj h; subst h
              exact (Ends.H (xs := [(.v (.bool epactlaw06_awake))]) (.inr rfl) H (.tmp (v := (.v (.bool epactlaw06_awake))) rfl .nil) (.one (.c (.v _))))
            · replace h := cond_F hc6 h
              apply Runs.skip
              apply Runs.then
              refine Runs.regionH 1 rfl H ?_; intro b4 σ H
              refine Ops.assign (v := (.v (.bool true))) rfl rfl ?_
              apply Ops.nil
              replace H := H.all
              apply Runs.then
              apply Runs.then
              refine Runs.regionH 1 rfl H ?_; intro b5 σ H
              refine Ops.assign (v := (.v (.int .i64 (-2000)))) rfl rfl ?_
              apply Ops.nil
              replace H := H.all
              apply Runs.inBlock
              obtain ⟨y4, hj4, h⟩ := bind_some h
              obtain ⟨n1, hj4⟩ := loopO_iff.1 hj4
              refine Runs.mono (Runs.loopO hj4 (fun s1 e σ => EnvHas e [(2, (.ptr (b1 + 0) 4 0)), (3, (.ptr (b1 + 1) 4 0)), (5, (.v (.bool true))), (6, (.v (.int .i64 s1)))] ∧ Hs σ [.blk (b1 + 1) 25 [(.v (.int .i64 g.Period)), (.v (.int .i64 g.Count)), (.v (.sl (g.Core.map (cL Span.cs)))), (.v (.sl (g.Odd.map Granule.cs)))], .blk (b1 + 0) 25 [(.v (.int .i64 f.Period)), (.v (.int .i64 f.Count)), (.v (.sl (f.Core.map (cL Span.cs)))), (.v (.sl (f.Odd.map Granule.cs)))]]) (fun y4 x e σ => (∃ a1, y4 = (.go a1) ∧ x = .exit 0 ∧ EnvHas e [(2, (.ptr (b1 + 0) 4 0)), (3, (.ptr (b1 + 1) 4 0)), (5, (.v (.bool a1)))] ∧ Hs σ [.blk (b1 + 1) 25 [(.v (.int .i64 g.Period)), (.v (.int .i64 g.Count)), (.v (.sl (g.Core.map (cL Span.cs)))), (.v (.sl (g.Odd.map Granule.cs)))], .blk (b1 + 0) 25 [(.v (.int .i64 f.Period)), (.v (.int .i64 f.Count)), (.v (.sl (f.Core.map (cL Span.cs)))), (.v (.sl (f.Odd.map Granule.cs)))]]) ∨ (∃ r', y4 = (.ret r') ∧ x = .ret ∧ Ends CX Try.f8.results.toList (.v (.bool r')) x e σ)) ⟨⟨rfl, rfl, rfl, rfl, trivial⟩, H⟩ ?_) ?_
              · intro s1 e σ hI z h
                obtain ⟨he, H⟩ := hI
                obtain ⟨e, rfl⟩ := he.ex
                unfold epactlaw06_CanonSame.s0 at h
                apply Runs.then
                apply Runs.then
                refine Runs.regionH 2 rfl H ?_; intro b6 σ H
                refine Ops.move (v := (.v (.int .i64 s1))) rfl rfl ?_
                refine Ops.int (m := s1) (m' := 2000) (r := .bool (decide (s1 ≤ 2000))) rfl rfl rfl rfl rfl ?_
                apply Ops.nil
                replace H := H.all
                refine Runs.whether (v := (decide (s1 ≤ 2000))) rfl ?_ ?_ <;> intro hc7
                · replace h := cond_T hc7 h
                  apply Runs.skip
                  apply Runs.then
                  apply Runs.inBlock
                  apply Runs.then
                  refine Runs.regionH 8 rfl H ?_; intro b7 σ H
                  refine Ops.loadHA (off := 0) (cs := [(.v (.int .i64 f.Period)), (.v (.int .i64 f.Count)), (.v (.sl (f.Core.map (cL Span.cs)))), (.v (.sl (f.Odd.map Granule.cs)))]) H 1 rfl rfl rfl rfl rfl rfl rfl nofun rfl ?_
                  refine Ops.move (v := (.v (.int .i64 s1))) rfl rfl ?_
                  obtain ⟨x5, q5, h⟩ := bind_some h
                  refine Ops.call (ys := [(.agg [(.v (.int .i64 f.Period)), (.v (.int .i64 f.Count)), (.v (.sl (f.Core.map (cL Span.cs)))), (.v (.sl (f.Odd.map Granule.cs)))]), (.v (.int .i64 s1))]) (r := (.tup [(.v (.sl (x5.1.map Span.cs))), (.v (.int .i64 x5.2))])) rfl (gran_Get_fn q5) rfl ?_
                  refine Ops.move (v := (.tup [(.v (.sl (x5.1.map Span.cs))), (.v (.int .i64 x5.2))])) rfl rfl ?_
                  refine Ops.extract (v := (.v (.sl (x5.1.map Span.cs)))) rfl rfl rfl ?_
                  refine Ops.extract (v := (.v (.int .i64 x5.2))) rfl rfl rfl ?_
                  refine Ops.assign (v := (.v (.sl (x5.1.map Span.cs)))) rfl rfl ?_
                  refine Ops.assign (v := (.v (.int .i64 x5.2))) rfl rfl ?_
                  apply Ops.nil
                  replace H := H.all
                  apply Runs.then
                  refine Runs.regionH 8 rfl H ?_; intro b8 σ H
                  refine Ops.loadHA (off := 0) (cs := [(.v (.int .i64 g.Period)), (.v (.int .i64 g.Count)), (.v (.sl (g.Core.map (cL Span.cs)))), (.v (.sl (g.Odd.map Granule.cs)))]) H 0 rfl rfl rfl rfl rfl rfl rfl nofun rfl ?_
                  refine Ops.move (v := (.v (.int .i64 s1))) rfl rfl ?_
                  obtain ⟨x6, q6, h⟩ := bind_some h
                  refine Ops.call (ys := [(.agg [(.v (.int .i64 g.Period)), (.v (.int .i64 g.Count)), (.v (.sl (g.Core.map (cL Span.cs)))), (.v (.sl (g.Odd.map Granule.cs)))]), (.v (.int .i64 s1))]) (r := (.tup [(.v (.sl (x6.1.map Span.cs))), (.v (.int .i64 x6.2))])) rfl (gran_Get_fn q6) rfl ?_
                  refine Ops.move (v := (.tup [(.v (.sl (x6.1.map Span.cs))), (.v (.int .i64 x6.2))])) rfl rfl ?_
                  refine Ops.extract (v := (.v (.sl (x6.1.map Span.cs)))) rfl rfl rfl ?_
                  refine Ops.extract (v := (.v (.int .i64 x6.2))) rfl rfl rfl ?_
                  refine Ops.assign (v := (.v (.sl (x6.1.map Span.cs)))) rfl rfl ?_
                  refine Ops.assign (v := (.v (.int .i64 x6.2))) rfl rfl ?_
                  apply Ops.nil
                  replace H := H.all
                  apply Runs.then
                  apply Runs.then
                  refine Runs.regionH 6 rfl H ?_; intro b9 σ H
                  refine Ops.move (v := (.v (.int .i64 x5.2))) rfl rfl ?_
                  refine Ops.int (m := x5.2) (m' := 0) (r := .bool (x5.2 != 0)) rfl rfl rfl rfl rfl ?_
                  refine Ops.move (v := (.v (.bool (x5.2 != 0)))) rfl rfl ?_
                  refine Ops.mid 3 (K1 := fun e σ => EnvHas e [(61, (.v (.bool ((x5.2 != 0) || (x6.2 != 0))))), (2, (.ptr (b1 + 0) 4 0)), (3, (.ptr (b1 + 1) 4 0)), (5, (.v (.bool true))), (6, (.v (.int .i64 s1))), (7, (.v (.sl (x5.1.map Span.cs)))), (9, (.v (.sl (x6.1.map Span.cs))))] ∧ Has σ (b9 + 6) (b9 + 6) [.blk (b1 + 1) 25 [(.v (.int .i64 g.Period)), (.v (.int .i64 g.Count)), (.v (.sl (g.Core.map (cL Span.cs)))), (.v (.sl (g.Odd.map Granule.cs)))], .blk (b1 + 0) 25 [(.v (.int .i64 f.Period)), (.v (.int .i64 f.Count)), (.v (.sl (f.Core.map (cL Span.cs)))), (.v (.sl (f.Odd.map Granule.cs)))]]) rfl ?_ ?_
                  · refine Ops.split rfl rfl ?_ ?_ <;> intro hc8
                    · skip
                      refine Ops.pass rfl rfl rfl ?_
                      refine Ops.pass rfl rfl rfl ?_
                      refine Ops.pickT (v := (.v (.bool true))) rfl rfl rfl ?_
                      apply Ops.nil
                      exact ⟨⟨or_T hc8, rfl, rfl, rfl, rfl, rfl, rfl, trivial⟩, H.weak (by omega) (Nat.le_refl _)⟩
                    · skip
                      refine Ops.wanted rfl rfl ?_
                      refine Ops.move (v := (.v (.int .i64 x6.2))) rfl rfl ?_
                      refine Ops.wanted rfl rfl ?_
                      refine Ops.int (m := x6.2) (m' := 0) (r := .bool (x6.2 != 0)) rfl rfl rfl rfl rfl ?_
                      refine Ops.pickF (v := (.v (.bool (x6.2 != 0)))) rfl rfl rfl ?_
                      apply Ops.nil
                      exact ⟨⟨or_F hc8, rfl, rfl, rfl, rfl, rfl, rfl, trivial⟩, H.weak (by omega) (Nat.le_refl _)⟩
                  · rintro e σ ⟨he, H⟩
                    obtain ⟨e, rfl⟩ := he.ex
                    apply Ops.nil
                    replace H := H.all
                    refine Runs.whether (v := ((x5.2 != 0) || (x6.2 != 0))) rfl ?_ ?_ <;> intro hc9
                    · replace h := cond_T hc9 h
                      apply Runs.then
                      refine Runs.regionH 2 rfl H ?_; intro b10 σ H
                      refine Ops.call (ys := []) (r := (.v (.bool epactlaw06_awake))) rfl (epactlaw06_awake_fn rfl) rfl ?_
                      refine Ops.assign (v := (.v (.bool epactlaw06_awake))) rfl rfl ?_
                      apply Ops.nil
                      replace H := H.all
                      apply Runs.ret
                      replace h := Option.some.inj h; subst h
                      exact ⟨nofun, (.inr ⟨_, rfl, rfl, (Ends.H (xs := [(.v (.bool epactlaw06_awake))]) (.inr rfl) H (.tmp (v := (.v (.bool epactlaw06_awake))) rfl .nil) (.one (.c (.v _))))⟩)⟩
                    · replace h := cond_F hc9 h
                      apply Runs.skip
                      apply Runs.then
                      refine Runs.regionH 4 rfl H ?_; intro b11 σ H
                      refine Ops.move (v := (.v (.sl (x5.1.map Span.cs)))) rfl rfl ?_
                      refine Ops.move (v := (.v (.sl (x6.1.map Span.cs)))) rfl rfl ?_
                      obtain ⟨x7, q7, h⟩ := bind_some h
                      refine Ops.call (ys := [(.v (.sl (x5.1.map Span.cs))), (.v (.sl (x6.1.map Span.cs)))]) (r := (.v (.bool x7))) rfl (spans_Same_fn q7) rfl ?_
                      refine Ops.not (b := x7) rfl rfl ?_
                      apply Ops.nil
                      replace H := H.all
                      refine Runs.whether (v := (!x7)) rfl ?_ ?_ <;> intro hc10
                      · replace h := cond_T hc10 h
                        apply Runs.then
                        refine Runs.regionH 1 rfl H ?_; intro b12 σ H
                        refine Ops.assign (v := (.v (.bool false))) rfl rfl ?_
                        apply Ops.nil
                        replace H := H.all
                        apply Runs.exit
                        replace h := Option.some.inj h; subst h
                        exact ⟨nofun, (.inl ⟨_, rfl, rfl, ⟨rfl, rfl, rfl, trivial⟩, H⟩)⟩
                      · replace h := cond_F hc10 h
                        apply Runs.skip
                        refine Runs.regionH 3 rfl H ?_; intro b13 σ H
                        refine Ops.move (v := (.v (.int .i64 s1))) rfl rfl ?_
                        refine Ops.int (m := s1) (m' := 1) (r := .int .i64 (w64 (s1 + 1))) rfl rfl rfl rfl rfl ?_
                        refine Ops.assign (v := (.v (.int .i64 (w64 (s1 + 1))))) rfl rfl ?_
                        apply Ops.nil
                        replace H := H.all
                        replace h := Option.some.inj h; subst h
                        exact ⟨rfl, ⟨rfl, rfl, rfl, rfl, trivial⟩, H⟩
                · replace h := cond_F hc7 h
                  apply Runs.exit
                  replace h := Option.some.inj h; subst h
                  exact ⟨nofun, (.inl ⟨_, rfl, rfl, ⟨rfl, rfl, rfl, trivial⟩, H⟩)⟩
              · rintro x e σ (⟨a2, rfl, rfl, he, H⟩ | ⟨r', rfl, rfl, hE⟩)
                · skip
                  replace h := jgo h
                  obtain ⟨e, rfl⟩ := he.ex
                  apply Runs.then
                  refine Runs.drawnH 18 rfl (by kernel_rfl) H ?_; intro b14 σ H B14
                  refine Ops.loadHA (off := 0) (cs := [(.v (.int .i64 f.Period)), (.v (.int .i64 f.Count)), (.v (.sl (f.Core.map (cL Span.cs)))), (.v (.sl (f.Odd.map Granule.cs)))]) H 1 rfl rfl rfl rfl rfl rfl rfl (fun _ => .inl ⟨B14 1 _ rfl _ rfl, nofun⟩) rfl ?_
                  refine Ops.loadHA (off := 0) (cs := [(.v (.int .i64 g.Period)), (.v (.int .i64 g.Count)), (.v (.sl (g.Core.map (cL Span.cs)))), (.v (.sl (g.Odd.map Granule.cs)))]) H 0 rfl rfl rfl rfl rfl rfl rfl (fun _ => .inl ⟨B14 0 _ rfl _ rfl, nofun⟩) rfl ?_
                  obtain ⟨x8, q8, h⟩ := bind_some h
                  refine Ops.call (ys := [(.agg [(.v (.int .i64 f.Period)), (.v (.int .i64 f.Count)), (.v (.sl (f.Core.map (cL Span.cs)))), (.v (.sl (f.Odd.map Granule.cs)))]), (.agg [(.v (.int .i64 g.Period)), (.v (.int .i64 g.Count)), (.v (.sl (g.Core.map (cL Span.cs)))), (.v (.sl (g.Odd.map Granule.cs)))])]) (r := (.v (.bool x8))) rfl (canon_Same_fn q8) rfl ?_
                  refine Ops.move (v := (.v (.bool a2))) rfl rfl ?_
                  refine Ops.eqB (b := x8) (b' := a2) rfl rfl rfl rfl ?_
                  refine Ops.move (v := (.v (.bool (x8 == a2)))) rfl rfl ?_
                  obtain ⟨y5, hj5, h⟩ := bind_some h
                  refine Ops.mid 8 (K1 := fun e σ => EnvHas e [(80, (.v (.bool y5)))] ∧ Has σ (b14 + 14) (b14 + 18) []) rfl ?_ ?_
                  · refine Ops.split rfl rfl ?_ ?_ <;> intro hc11
                    · replace h := cond_T hc11 hj5
                      refine Ops.wanted rfl rfl ?_
                      refine Ops.loadHA (off := 0) (cs := [(.v (.int .i64 f.Period)), (.v (.int .i64 f.Count)), (.v (.sl (f.Core.map (cL Span.cs)))), (.v (.sl (f.Odd.map Granule.cs)))]) H 1 rfl rfl rfl rfl rfl rfl rfl (fun _ => .inl ⟨B14 1 _ rfl _ rfl, nofun⟩) rfl ?_
                      refine Ops.wanted rfl rfl ?_
                      obtain ⟨x9, q9, h⟩ := bind_some h
                      refine Ops.call (ys := [(.agg [(.v (.int .i64 f.Period)), (.v (.int .i64 f.Count)), (.v (.sl (f.Core.map (cL Span.cs)))), (.v (.sl (f.Odd.map Granule.cs)))])]) (r := (.agg [(.v (.int .i64 x9.Period)), (.v (.int .i64 x9.Count)), (.v (.sl (x9.Core.map (cL Span.cs)))), (.v (.sl (x9.Odd.map Granule.cs)))])) rfl (canon_Form_fn q9) rfl ?_
                      refine Ops.wanted rfl rfl ?_
                      refine Ops.loadHA (off := 0) (cs := [(.v (.int .i64 g.Period)), (.v (.int .i64 g.Count)), (.v (.sl (g.Core.map (cL Span.cs)))), (.v (.sl (g.Odd.map Granule.cs)))]) H 0 rfl rfl rfl rfl rfl rfl rfl (fun _ => .inl ⟨B14 0 _ rfl _ rfl, nofun⟩) rfl ?_
                      refine Ops.wanted rfl rfl ?_
                      obtain ⟨x10, q10, h⟩ := bind_some h
                      refine Ops.call (ys := [(.agg [(.v (.int .i64 g.Period)), (.v (.int .i64 g.Count)), (.v (.sl (g.Core.map (cL Span.cs)))), (.v (.sl (g.Odd.map Granule.cs)))])]) (r := (.agg [(.v (.int .i64 x10.Period)), (.v (.int .i64 x10.Count)), (.v (.sl (x10.Core.map (cL Span.cs)))), (.v (.sl (x10.Odd.map Granule.cs)))])) rfl (canon_Form_fn q10) rfl ?_
                      refine Ops.wanted rfl rfl ?_
                      obtain ⟨x11, q11, h⟩ := bind_some h
                      refine Ops.call (ys := [(.agg [(.v (.int .i64 x9.Period)), (.v (.int .i64 x9.Count)), (.v (.sl (x9.Core.map (cL Span.cs)))), (.v (.sl (x9.Odd.map Granule.cs)))]), (.agg [(.v (.int .i64 x10.Period)), (.v (.int .i64 x10.Count)), (.v (.sl (x10.Core.map (cL Span.cs)))), (.v (.sl (x10.Odd.map Granule.cs)))])]) (r := (.v (.bool x11))) rfl (epactlow_AlikeForms_fn q11) rfl ?_
                      refine Ops.wanted rfl rfl ?_
                      refine Ops.move (v := (.v (.bool a2))) rfl rfl ?_
                      refine Ops.wanted rfl rfl ?_
                      refine Ops.eqB (b := x11) (b' := a2) rfl rfl rfl rfl ?_
                      refine Ops.pickT (v := (.v (.bool (x11 == a2)))) rfl rfl rfl ?_
                      apply Ops.nil
                      replace h := Option.some.inj h; subst h
                      exact ⟨⟨rfl, trivial⟩, ((H.erase 1).erase 0).weak (by omega) (Nat.le_refl _)⟩
                    · replace h := cond_F hc11 hj5
                      refine Ops.pass rfl rfl rfl ?_
                      refine Ops.pass rfl rfl rfl ?_
                      refine Ops.pass rfl rfl rfl ?_
                      refine Ops.pass rfl rfl rfl ?_
                      refine Ops.pass rfl rfl rfl ?_
                      refine Ops.pass rfl rfl rfl ?_
                      refine Ops.pass rfl rfl rfl ?_
                      refine Ops.pickF (v := (.v (.bool false))) rfl rfl rfl ?_
                      apply Ops.nil
                      replace h := Option.some.inj h; subst h
                      exact ⟨⟨rfl, trivial⟩, ((H.erase 1).erase 0).weak (by omega) (Nat.le_refl _)⟩
                  · rintro e σ ⟨he, H⟩
                    obtain ⟨e, rfl⟩ := he.ex
                    refine Ops.move (v := (.v (.bool y5))) rfl rfl ?_
                    refine Ops.mid 2 (K1 := fun e σ => EnvHas e [(83, (.v (.bool (y5 && epactlaw06_awake))))] ∧ Has σ (b14 + 17) (b14 + 18) []) rfl ?_ ?_
                    · refine Ops.split rfl rfl ?_ ?_ <;> intro hc12
                      · skip
                        refine Ops.wanted rfl rfl ?_
                        refine Ops.call (ys := []) (r := (.v (.bool epactlaw06_awake))) rfl (epactlaw06_awake_fn rfl) rfl ?_
                        refine Ops.pickT (v := (.v (.bool epactlaw06_awake))) rfl rfl rfl ?_
                        apply Ops.nil
                        exact ⟨⟨and_T hc12, trivial⟩, H.weak (by omega) (Nat.le_refl _)⟩
                      · skip
                        refine Ops.pass rfl rfl rfl ?_
                        refine Ops.pickF (v := (.v (.bool false))) rfl rfl rfl ?_
                        apply Ops.nil
                        exact ⟨⟨and_F hc12, trivial⟩, H.weak (by omega) (Nat.le_refl _)⟩
                    · rintro e σ ⟨he, H⟩
                      obtain ⟨e, rfl⟩ := he.ex
                      refine Ops.assign (v := (.v (.bool (y5 && epactlaw06_awake)))) rfl rfl ?_
                      apply Ops.nil
                      replace H := H.all
                      apply Runs.ret
                      replace h := Option.some.inj h; subst h
                      exact (Ends.H (xs := [(.v (.bool (y5 && epactlaw06_awake)))]) (.inr rfl) H (.tmp (v := (.v (.bool (y5 && epactlaw06_awake)))) rfl .nil) (.one (.c (.v _))))
                · skip
                  replace h := jret h
                  replace h := Option.some.inj h; subst h
                  exact hE

set_option maxRecDepth 100000 in
set_option maxHeartbeats 4000000 in
theorem canon_Is_fn {f : Form} {r : Bool} (h : canon_Is f = some r) : Fn CX 29 [(.agg (vs (Form.cs f)))] (.v (.bool r)) := by
  refine Fn.ends Try.func29 rfl rfl rfl rfl rfl rfl ?_
  have H : Hs (⟨0, fun _ => .none⟩ : Heap) [] := Has.nil (Nat.le_refl _)
  generalize (⟨0, fun _ => .none⟩ : Heap) = σ at H ⊢
  unfold canon_Is at h
  apply Runs.then
  refine Runs.regionH 2 rfl H ?_; intro b1 σ H
  refine Ops.boxH (v := (.agg [(.v (.int .i64 f.Period)), (.v (.int .i64 f.Count)), (.v (.sl (f.Core.map (cL Span.cs)))), (.v (.sl (f.Odd.map Granule.cs)))])) (cs := [(.v (.int .i64 f.Period)), (.v (.int .i64 f.Count)), (.v (.sl (f.Core.map (cL Span.cs)))), (.v (.sl (f.Odd.map Granule.cs)))]) H (by omega) (by omega) rfl rfl rfl ?_; intro σ H
  refine Ops.assign (v := (.v (.bool false))) rfl rfl ?_
  apply Ops.nil
  replace H := H.all
  apply Runs.then
  refine Runs.drawnH 5 rfl (by kernel_rfl) H ?_; intro b2 σ H B2
  refine Ops.loadHA (off := 0) (cs := [(.v (.int .i64 f.Period)), (.v (.int .i64 f.Count)), (.v (.sl (f.Core.map (cL Span.cs)))), (.v (.sl (f.Odd.map Granule.cs)))]) H 0 rfl rfl rfl rfl rfl rfl rfl (fun _ => .inl ⟨B2 0 _ rfl _ rfl, nofun⟩) rfl ?_
  refine Ops.loadHA (off := 0) (cs := [(.v (.int .i64 f.Period)), (.v (.int .i64 f.Count)), (.v (.sl (f.Core.map (cL Span.cs)))), (.v (.sl (f.Odd.map Granule.cs)))]) H 0 rfl rfl rfl rfl rfl rfl rfl (fun _ => .inl ⟨B2 0 _ rfl _ rfl, nofun⟩) rfl ?_
  obtain ⟨x1, q1, h⟩ := bind_some h
  refine Ops.call (ys := [(.agg [(.v (.int .i64 f.Period)), (.v (.int .i64 f.Count)), (.v (.sl (f.Core.map (cL Span.cs)))), (.v (.sl (f.Odd.map Granule.cs)))])]) (r := (.agg [(.v (.int .i64 x1.Period)), (.v (.int .i64 x1.Count)), (.v (.sl (x1.Core.map (cL Span.cs)))), (.v (.sl (x1.Odd.map Granule.cs)))])) rfl (canon_Form_fn q1) rfl ?_
  obtain ⟨x2, q2, h⟩ := bind_some h
  refine Ops.call (ys := [(.agg [(.v (.int .i64 f.Period)), (.v (.int .i64 f.Count)), (.v (.sl (f.Core.map (cL Span.cs)))), (.v (.sl (f.Odd.map Granule.cs)))]), (.agg [(.v (.int .i64 x1.Period)), (.v (.int .i64 x1.Count)), (.v (.sl (x1.Core.map (cL Span.cs)))), (.v (.sl (x1.Odd.map Granule.cs)))])]) (r := (.v (.bool x2))) rfl (canon_equal_fn q2) rfl ?_
  refine Ops.assign (v := (.v (.bool x2))) rfl rfl ?_
  apply Ops.nil
  replace H := H.all
  apply Runs.ret
  replace h := Option.some.inj h; subst h
  exact (Ends.H (xs := [(.v (.bool x2))]) (.inr rfl) H (.tmp (v := (.v (.bool x2))) rfl .nil) (.one (.c (.v _))))

end Go.Dn
