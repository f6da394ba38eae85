/- Part 3 of what the row stands on. -/
import Derived.Test.YtefaoeaohhdhkaaM2
set_option linter.unusedVariables false
set_option linter.unusedSimpArgs false
namespace Go.Dn
open Go Go.Proofs

set_option maxRecDepth 100000 in
set_option maxHeartbeats 4000000 in
theorem gran_Size_fn {f : Form} {r : Int} (h : gran_Size f = some r) : Fn CX 33 [(.agg (vs (Form.cs f)))] (.v (.int .i64 r)) := by
  refine Fn.ends Try.func33 rfl rfl rfl rfl rfl rfl ?_
  have H : Hs (⟨0, fun _ => .none⟩ : Heap) [] := Has.nil (Nat.le_refl _)
  generalize (⟨0, fun _ => .none⟩ : Heap) = σ at H ⊢
  unfold gran_Size at h
  apply Runs.then
  refine Runs.regionH 2 rfl H ?_; intro b1 σ H
  refine Ops.boxH (v := (.agg [(.v (.int .i64 f.Period)), (.v (.int .i64 f.Count)), (.v (.sl (f.Core.map (cL Span.cs)))), (.v (.sl (f.Odd.map Granule.cs)))])) (cs := [(.v (.int .i64 f.Period)), (.v (.int .i64 f.Count)), (.v (.sl (f.Core.map (cL Span.cs)))), (.v (.sl (f.Odd.map Granule.cs)))]) H (by omega) (by omega) rfl rfl rfl ?_; intro σ H
  refine Ops.assign (v := (.v (.int .i64 0))) rfl rfl ?_
  apply Ops.nil
  replace H := H.all
  apply Runs.then
  refine Runs.regionH 1 rfl H ?_; intro b2 σ H
  refine Ops.assign (v := (.v (.int .i64 0))) rfl rfl ?_
  apply Ops.nil
  replace H := H.all
  apply Runs.then
  apply Runs.then
  refine Runs.regionH 4 rfl H ?_; intro b3 σ H
  refine Ops.fieldAddrH (off := 0) (fo := 2) H 0 rfl rfl rfl rfl rfl nofun rfl ?_
  refine Ops.loadH (off := 2) (v := (.v (.sl (f.Core.map (cL Span.cs))))) H 0 rfl rfl rfl rfl rfl nofun rfl ?_
  refine Ops.lenPt (c := (cL Span.cs)) (xs := f.Core) rfl rfl rfl ?_
  refine Ops.move (v := (.v (.int .i64 0))) rfl rfl ?_
  apply Ops.nil
  replace H := H.all
  apply Runs.inBlock
  obtain ⟨y1, hj1, h⟩ := bind_some h
  obtain ⟨n1, hj1⟩ := loopO_iff.1 hj1
  refine Runs.mono (Runs.loopO hj1 (fun s1 e σ => EnvHas e [(1, (.ptr (b1 + 0) 4 0)), (3, (.v (.int .i64 s1.1))), (9, (.v (.sl (f.Core.map (cL Span.cs))))), (10, (.v (.int .i64 (f.Core.length : Int)))), (11, (.v (.int .i64 s1.2)))] ∧ Hs σ [.blk (b1 + 0) 25 [(.v (.int .i64 f.Period)), (.v (.int .i64 f.Count)), (.v (.sl (f.Core.map (cL Span.cs)))), (.v (.sl (f.Odd.map Granule.cs)))]]) (fun y1 x e σ => x = .exit 0 ∧ EnvHas e [(1, (.ptr (b1 + 0) 4 0)), (3, (.v (.int .i64 y1)))] ∧ Hs σ [.blk (b1 + 0) 25 [(.v (.int .i64 f.Period)), (.v (.int .i64 f.Count)), (.v (.sl (f.Core.map (cL Span.cs)))), (.v (.sl (f.Odd.map Granule.cs)))]]) ⟨⟨rfl, rfl, rfl, rfl, rfl, trivial⟩, H⟩ ?_) ?_
  · intro s1 e σ hI z h
    obtain ⟨he, H⟩ := hI
    obtain ⟨e, rfl⟩ := he.ex
    unfold gran_Size.s0 at h
    apply Runs.then
    refine Runs.regionH 1 rfl H ?_; intro b4 σ H
    refine Ops.int (m := s1.2) (m' := (f.Core.length : Int)) (r := .bool (decide (s1.2 < (f.Core.length : Int)))) rfl rfl rfl rfl rfl ?_
    apply Ops.nil
    replace H := H.all
    apply Runs.then
    refine Runs.whether (v := (decide (s1.2 < (f.Core.length : Int)))) rfl ?_ ?_ <;> intro hc1
    · replace h := cond_T hc1 h
      apply Runs.skip
      apply Runs.then
      apply Runs.inBlock
      apply Runs.then
      refine Runs.regionH 3 rfl H ?_; intro b5 σ H
      obtain ⟨x1, q1, h⟩ := bind_some h
      refine Ops.indexP (c := (cL Span.cs)) (u := x1) rfl rfl q1 rfl rfl rfl rfl ?_
      refine Ops.loadP (u := (.sl (x1.map Span.cs))) rfl rfl rfl rfl ?_
      refine Ops.assign (v := (.v (.sl (x1.map Span.cs)))) rfl rfl ?_
      apply Ops.nil
      replace H := H.all
      refine Runs.regionH 5 rfl H ?_; intro b6 σ H
      refine Ops.move (v := (.v (.int .i64 s1.1))) rfl rfl ?_
      refine Ops.move (v := (.v (.sl (x1.map Span.cs)))) rfl rfl ?_
      refine Ops.lenPt (c := Span.cs) (xs := x1) rfl rfl rfl ?_
      refine Ops.int (m := s1.1) (m' := (x1.length : Int)) (r := .int .i64 (w64 (s1.1 + (x1.length : Int)))) rfl rfl rfl rfl rfl ?_
      refine Ops.assign (v := (.v (.int .i64 (w64 (s1.1 + (x1.length : Int)))))) rfl rfl ?_
      apply Ops.nil
      replace H := H.all
      refine Runs.regionH 2 rfl H ?_; intro b7 σ H
      refine Ops.int (m := s1.2) (m' := 1) (r := .int .i64 (w64 (s1.2 + 1))) rfl rfl rfl rfl rfl ?_
      refine Ops.move (v := (.v (.int .i64 (w64 (s1.2 + 1))))) rfl rfl ?_
      apply Ops.nil
      replace H := H.all
      replace h := Option.some.inj h; subst h
      exact ⟨rfl, ⟨rfl, rfl, rfl, rfl, rfl, trivial⟩, H⟩
    · replace h := cond_F hc1 h
      apply Runs.exit
      replace h := Option.some.inj h; subst h
      exact ⟨nofun, ⟨rfl, ⟨rfl, rfl, trivial⟩, H⟩⟩
  · rintro x e σ ⟨rfl, he, H⟩
    obtain ⟨e, rfl⟩ := he.ex
    apply Runs.then
    apply Runs.then
    refine Runs.regionH 4 rfl H ?_; intro b8 σ H
    refine Ops.fieldAddrH (off := 0) (fo := 3) H 0 rfl rfl rfl rfl rfl nofun rfl ?_
    refine Ops.loadH (off := 3) (v := (.v (.sl (f.Odd.map Granule.cs)))) H 0 rfl rfl rfl rfl rfl nofun rfl ?_
    refine Ops.lenPt (c := Granule.cs) (xs := f.Odd) rfl rfl rfl ?_
    refine Ops.move (v := (.v (.int .i64 0))) rfl rfl ?_
    apply Ops.nil
    replace H := H.all
    apply Runs.inBlock
    obtain ⟨y2, hj2, h⟩ := bind_some h
    obtain ⟨n2, hj2⟩ := loopO_iff.1 hj2
    refine Runs.mono (Runs.loopO hj2 (fun s2 e σ => EnvHas e [(3, (.v (.int .i64 s2.1))), (21, (.v (.sl (f.Odd.map Granule.cs)))), (22, (.v (.int .i64 (f.Odd.length : Int)))), (23, (.v (.int .i64 s2.2)))] ∧ Hs σ []) (fun y2 x e σ => x = .exit 2 ∧ EnvHas e [(3, (.v (.int .i64 y2)))] ∧ Hs σ []) ⟨⟨rfl, rfl, rfl, rfl, trivial⟩, (H.erase 0)⟩ ?_) ?_
    · intro s2 e σ hI z h
      obtain ⟨he, H⟩ := hI
      obtain ⟨e, rfl⟩ := he.ex
      unfold gran_Size.s1 at h
      apply Runs.then
      refine Runs.regionH 1 rfl H ?_; intro b9 σ H
      refine Ops.int (m := s2.2) (m' := (f.Odd.length : Int)) (r := .bool (decide (s2.2 < (f.Odd.length : Int)))) rfl rfl rfl rfl rfl ?_
      apply Ops.nil
      replace H := H.all
      apply Runs.then
      refine Runs.whether (v := (decide (s2.2 < (f.Odd.length : Int)))) rfl ?_ ?_ <;> intro hc2
      · replace h := cond_T hc2 h
        apply Runs.skip
        apply Runs.then
        apply Runs.inBlock
        apply Runs.then
        refine Runs.regionH 4 rfl H ?_; intro b10 σ H
        obtain ⟨x2, q2, h⟩ := bind_some h
        refine Ops.indexP (c := Granule.cs) (u := x2) rfl rfl q2 rfl rfl rfl rfl ?_
        refine Ops.loadPA (cs := [(.int .i64 x2.Index), (.sl (x2.Ticks.map Span.cs))]) rfl rfl rfl rfl rfl rfl ?_
        refine Ops.allocH (cs := [(.v (.int .i64 0)), .nils]) H (by omega) (by omega) rfl rfl ?_; intro σ H
        refine Ops.storeH (off := 0) (v := (.agg [(.v (.int .i64 x2.Index)), (.v (.sl (x2.Ticks.map Span.cs)))])) (ys := [(.v (.int .i64 x2.Index)), (.v (.sl (x2.Ticks.map Span.cs)))]) (cells' := [(.v (.int .i64 x2.Index)), (.v (.sl (x2.Ticks.map Span.cs)))]) H 0 rfl rfl rfl rfl rfl rfl rfl rfl rfl nofun ?_; intro σ H
        apply Ops.nil
        replace H := H.all
        refine Runs.regionH 6 rfl H ?_; intro b11 σ H
        refine Ops.move (v := (.v (.int .i64 s2.1))) rfl rfl ?_
        refine Ops.fieldAddrH (off := 0) (fo := 1) H 0 rfl rfl rfl rfl rfl nofun rfl ?_
        refine Ops.loadH (off := 1) (v := (.v (.sl (x2.Ticks.map Span.cs)))) H 0 rfl rfl rfl rfl rfl nofun rfl ?_
        refine Ops.lenPt (c := Span.cs) (xs := x2.Ticks) rfl rfl rfl ?_
        refine Ops.int (m := s2.1) (m' := (x2.Ticks.length : Int)) (r := .int .i64 (w64 (s2.1 + (x2.Ticks.length : Int)))) rfl rfl rfl rfl rfl ?_
        refine Ops.assign (v := (.v (.int .i64 (w64 (s2.1 + (x2.Ticks.length : Int)))))) rfl rfl ?_
        apply Ops.nil
        replace H := H.all
        refine Runs.regionH 2 rfl H ?_; intro b12 σ H
        refine Ops.int (m := s2.2) (m' := 1) (r := .int .i64 (w64 (s2.2 + 1))) rfl rfl rfl rfl rfl ?_
        refine Ops.move (v := (.v (.int .i64 (w64 (s2.2 + 1))))) rfl rfl ?_
        apply Ops.nil
        replace H := H.all
        replace h := Option.some.inj h; subst h
        exact ⟨rfl, ⟨rfl, rfl, rfl, rfl, trivial⟩, (H.erase 0)⟩
      · replace h := cond_F hc2 h
        apply Runs.exit
        replace h := Option.some.inj h; subst h
        exact ⟨nofun, ⟨rfl, ⟨rfl, trivial⟩, H⟩⟩
    · rintro x e σ ⟨rfl, he, H⟩
      obtain ⟨e, rfl⟩ := he.ex
      apply Runs.then
      refine Runs.regionH 2 rfl H ?_; intro b13 σ H
      refine Ops.move (v := (.v (.int .i64 y2))) rfl rfl ?_
      refine Ops.assign (v := (.v (.int .i64 y2))) rfl rfl ?_
      apply Ops.nil
      replace H := H.all
      apply Runs.ret
      replace h := Option.some.inj h; subst h
      exact (Ends.H (xs := [(.v (.int .i64 y2))]) (.inr rfl) H (.tmp (v := (.v (.int .i64 y2))) rfl .nil) (.one (.c (.v _))))

set_option maxRecDepth 100000 in
set_option maxHeartbeats 4000000 in
theorem epactlaw05_Small_fn {f : Form} {r : Bool} (h : epactlaw05_Small f = some r) : Fn CX 36 [(.agg (vs (Form.cs f)))] (.v (.bool r)) := by
  refine Fn.ends Try.func36 rfl rfl rfl rfl rfl rfl ?_
  have H : Hs (⟨0, fun _ => .none⟩ : Heap) [] := Has.nil (Nat.le_refl _)
  generalize (⟨0, fun _ => .none⟩ : Heap) = σ at H ⊢
  unfold epactlaw05_Small at h
  apply Runs.then
  refine Runs.regionH 2 rfl H ?_; intro b1 σ H
  refine Ops.boxH (v := (.agg [(.v (.int .i64 f.Period)), (.v (.int .i64 f.Count)), (.v (.sl (f.Core.map (cL Span.cs)))), (.v (.sl (f.Odd.map Granule.cs)))])) (cs := [(.v (.int .i64 f.Period)), (.v (.int .i64 f.Count)), (.v (.sl (f.Core.map (cL Span.cs)))), (.v (.sl (f.Odd.map Granule.cs)))]) H (by omega) (by omega) rfl rfl rfl ?_; intro σ H
  refine Ops.assign (v := (.v (.bool false))) rfl rfl ?_
  apply Ops.nil
  replace H := H.all
  apply Runs.then
  refine Runs.regionH 16 rfl H ?_; intro b2 σ H
  refine Ops.fieldAddrH (off := 0) (fo := 2) H 0 rfl rfl rfl rfl rfl nofun rfl ?_
  refine Ops.loadH (off := 2) (v := (.v (.sl (f.Core.map (cL Span.cs))))) H 0 rfl rfl rfl rfl rfl nofun rfl ?_
  refine Ops.lenPt (c := (cL Span.cs)) (xs := f.Core) rfl rfl rfl ?_
  refine Ops.int (m := (f.Core.length : Int)) (m' := 12) (r := .bool (decide ((f.Core.length : Int) ≤ 12))) rfl rfl rfl rfl rfl ?_
  refine Ops.move (v := (.v (.bool (decide ((f.Core.length : Int) ≤ 12))))) rfl rfl ?_
  refine Ops.mid 5 (K1 := fun e σ => EnvHas e [(12, (.v (.bool ((decide ((f.Core.length : Int) ≤ 12)) && (decide ((f.Odd.length : Int) ≤ 8)))))), (1, (.ptr (b1 + 0) 4 0))] ∧ Has σ (b2 + 10) (b2 + 16) [.blk (b1 + 0) 25 [(.v (.int .i64 f.Period)), (.v (.int .i64 f.Count)), (.v (.sl (f.Core.map (cL Span.cs)))), (.v (.sl (f.Odd.map Granule.cs)))]]) rfl ?_ ?_
  · refine Ops.split rfl rfl ?_ ?_ <;> intro hc1
    · skip
      refine Ops.wanted rfl rfl ?_
      refine Ops.fieldAddrH (off := 0) (fo := 3) H 0 rfl rfl rfl rfl rfl nofun rfl ?_
      refine Ops.wanted rfl rfl ?_
      refine Ops.loadH (off := 3) (v := (.v (.sl (f.Odd.map Granule.cs)))) H 0 rfl rfl rfl rfl rfl nofun rfl ?_
      refine Ops.wanted rfl rfl ?_
      refine Ops.lenPt (c := Granule.cs) (xs := f.Odd) rfl rfl rfl ?_
      refine Ops.wanted rfl rfl ?_
      refine Ops.int (m := (f.Odd.length : Int)) (m' := 8) (r := .bool (decide ((f.Odd.length : Int) ≤ 8))) rfl rfl rfl rfl rfl ?_
      refine Ops.pickT (v := (.v (.bool (decide ((f.Odd.length : Int) ≤ 8))))) rfl rfl rfl ?_
      apply Ops.nil
      exact ⟨⟨and_T hc1, rfl, trivial⟩, H.weak (by omega) (Nat.le_refl _)⟩
    · skip
      refine Ops.pass rfl rfl rfl ?_
      refine Ops.pass rfl rfl rfl ?_
      refine Ops.pass rfl rfl rfl ?_
      refine Ops.pass rfl rfl rfl ?_
      refine Ops.pickF (v := (.v (.bool false))) rfl rfl rfl ?_
      apply Ops.nil
      exact ⟨⟨and_F hc1, rfl, trivial⟩, H.weak (by omega) (Nat.le_refl _)⟩
  · rintro e σ ⟨he, H⟩
    obtain ⟨e, rfl⟩ := he.ex
    refine Ops.move (v := (.v (.bool ((decide ((f.Core.length : Int) ≤ 12)) && (decide ((f.Odd.length : Int) ≤ 8)))))) rfl rfl ?_
    obtain ⟨y1, hj1, h⟩ := bind_some h
    refine Ops.mid 4 (K1 := fun e σ => EnvHas e [(17, (.v (.bool y1)))] ∧ Has σ (b2 + 15) (b2 + 16) []) rfl ?_ ?_
    · refine Ops.split rfl rfl ?_ ?_ <;> intro hc2
      · replace h := cond_T hc2 hj1
        refine Ops.wanted rfl rfl ?_
        refine Ops.loadHA (off := 0) (cs := [(.v (.int .i64 f.Period)), (.v (.int .i64 f.Count)), (.v (.sl (f.Core.map (cL Span.cs)))), (.v (.sl (f.Odd.map Granule.cs)))]) H 0 rfl rfl rfl rfl rfl rfl rfl nofun rfl ?_
        refine Ops.wanted rfl rfl ?_
        obtain ⟨x1, q1, h⟩ := bind_some h
        refine Ops.call (ys := [(.agg [(.v (.int .i64 f.Period)), (.v (.int .i64 f.Count)), (.v (.sl (f.Core.map (cL Span.cs)))), (.v (.sl (f.Odd.map Granule.cs)))])]) (r := (.v (.int .i64 x1))) rfl (gran_Size_fn q1) rfl ?_
        refine Ops.wanted rfl rfl ?_
        refine Ops.int (m := x1) (m' := 60) (r := .bool (decide (x1 ≤ 60))) rfl rfl rfl rfl rfl ?_
        refine Ops.pickT (v := (.v (.bool (decide (x1 ≤ 60))))) rfl rfl rfl ?_
        apply Ops.nil
        replace h := Option.some.inj h; subst h
        exact ⟨⟨rfl, trivial⟩, (H.erase 0).weak (by omega) (Nat.le_refl _)⟩
      · replace h := cond_F hc2 hj1
        refine Ops.pass rfl rfl rfl ?_
        refine Ops.pass rfl rfl rfl ?_
        refine Ops.pass rfl rfl rfl ?_
        refine Ops.pickF (v := (.v (.bool false))) rfl rfl rfl ?_
        apply Ops.nil
        replace h := Option.some.inj h; subst h
        exact ⟨⟨rfl, trivial⟩, (H.erase 0).weak (by omega) (Nat.le_refl _)⟩
    · rintro e σ ⟨he, H⟩
      obtain ⟨e, rfl⟩ := he.ex
      refine Ops.assign (v := (.v (.bool y1))) rfl rfl ?_
      apply Ops.nil
      replace H := H.all
      apply Runs.ret
      replace h := Option.some.inj h; subst h
      exact (Ends.H (xs := [(.v (.bool y1))]) (.inr rfl) H (.tmp (v := (.v (.bool y1))) rfl .nil) (.one (.c (.v _))))

set_option maxRecDepth 100000 in
set_option maxHeartbeats 4000000 in
theorem spans_tick_fn {t : Int} {r : Bool} (h : spans_tick t = r) : Fn CX 41 [(.v (.int .i64 t))] (.v (.bool r)) := by
  refine Fn.ends Try.func41 rfl rfl rfl rfl rfl rfl ?_
  have H : Hs (⟨0, fun _ => .none⟩ : Heap) [] := Has.nil (Nat.le_refl _)
  generalize (⟨0, fun _ => .none⟩ : Heap) = σ at H ⊢
  unfold spans_tick at h
  apply Runs.then
  refine Runs.regionH 1 rfl H ?_; intro b1 σ H
  refine Ops.assign (v := (.v (.bool false))) rfl rfl ?_
  apply Ops.nil
  replace H := H.all
  apply Runs.then
  refine Runs.regionH 7 rfl H ?_; intro b2 σ H
  refine Ops.move (v := (.v (.int .i64 t))) rfl rfl ?_
  refine Ops.int (m := t) (m' := (-1099511627776)) (r := .bool (decide (t ≥ (-1099511627776)))) rfl rfl rfl rfl rfl ?_
  refine Ops.move (v := (.v (.bool (decide (t ≥ (-1099511627776)))))) rfl rfl ?_
  refine Ops.mid 3 (K1 := fun e σ => EnvHas e [(8, (.v (.bool ((decide (t ≥ (-1099511627776))) && (decide (t ≤ 1099511627776))))))] ∧ Has σ (b2 + 6) (b2 + 7) []) rfl ?_ ?_
  · refine Ops.split rfl rfl ?_ ?_ <;> intro hc1
    · skip
      refine Ops.wanted rfl rfl ?_
      refine Ops.move (v := (.v (.int .i64 t))) rfl rfl ?_
      refine Ops.wanted rfl rfl ?_
      refine Ops.int (m := t) (m' := 1099511627776) (r := .bool (decide (t ≤ 1099511627776))) rfl rfl rfl rfl rfl ?_
      refine Ops.pickT (v := (.v (.bool (decide (t ≤ 1099511627776))))) rfl rfl rfl ?_
      apply Ops.nil
      exact ⟨⟨and_T hc1, trivial⟩, H.weak (by omega) (Nat.le_refl _)⟩
    · skip
      refine Ops.pass rfl rfl rfl ?_
      refine Ops.pass rfl rfl rfl ?_
      refine Ops.pickF (v := (.v (.bool false))) rfl rfl rfl ?_
      apply Ops.nil
      exact ⟨⟨and_F hc1, trivial⟩, H.weak (by omega) (Nat.le_refl _)⟩
  · rintro e σ ⟨he, H⟩
    obtain ⟨e, rfl⟩ := he.ex
    refine Ops.assign (v := (.v (.bool ((decide (t ≥ (-1099511627776))) && (decide (t ≤ 1099511627776)))))) rfl rfl ?_
    apply Ops.nil
    replace H := H.all
    apply Runs.ret
    subst h
    exact (Ends.H (xs := [(.v (.bool ((decide (t ≥ (-1099511627776))) && (decide (t ≤ 1099511627776)))))]) (.inr rfl) H (.tmp (v := (.v (.bool ((decide (t ≥ (-1099511627776))) && (decide (t ≤ 1099511627776)))))) rfl .nil) (.one (.c (.v _))))

set_option maxRecDepth 100000 in
set_option maxHeartbeats 4000000 in
theorem spans_Right_fn {l : (List Span)} {r : Bool} (h : spans_Right l = some r) : Fn CX 17 [(.v (.sl (l.map Span.cs)))] (.v (.bool r)) := by
  refine Fn.ends Try.func17 rfl rfl rfl rfl rfl rfl ?_
  have H : Hs (⟨0, fun _ => .none⟩ : Heap) [] := Has.nil (Nat.le_refl _)
  generalize (⟨0, fun _ => .none⟩ : Heap) = σ at H ⊢
  unfold spans_Right at h
  apply Runs.then
  refine Runs.regionH 1 rfl H ?_; intro b1 σ H
  refine Ops.assign (v := (.v (.bool false))) rfl rfl ?_
  apply Ops.nil
  replace H := H.all
  apply Runs.then
  apply Runs.then
  refine Runs.regionH 3 rfl H ?_; intro b2 σ H
  refine Ops.move (v := (.v (.sl (l.map Span.cs)))) rfl rfl ?_
  refine Ops.lenPt (c := Span.cs) (xs := l) rfl rfl rfl ?_
  refine Ops.move (v := (.v (.int .i64 0))) rfl rfl ?_
  apply Ops.nil
  replace H := H.all
  apply Runs.inBlock
  obtain ⟨y1, hj1, h⟩ := bind_some h
  obtain ⟨n1, hj1⟩ := loopO_iff.1 hj1
  refine Runs.mono (Runs.loopO hj1 (fun s1 e σ => EnvHas e [(0, (.v (.sl (l.map Span.cs)))), (5, (.v (.sl (l.map Span.cs)))), (6, (.v (.int .i64 (l.length : Int)))), (7, (.v (.int .i64 s1)))] ∧ Hs σ []) (fun y1 x e σ => (∃ a1, y1 = (.go a1) ∧ x = .exit 0 ∧ EnvHas e [] ∧ Hs σ []) ∨ (∃ r', y1 = (.ret r') ∧ x = .ret ∧ Ends CX Try.f17.results.toList (.v (.bool r')) x e σ)) ⟨⟨rfl, rfl, rfl, rfl, trivial⟩, H⟩ ?_) ?_
  · intro s1 e σ hI z h
    obtain ⟨he, H⟩ := hI
    obtain ⟨e, rfl⟩ := he.ex
    unfold spans_Right.s0 at h
    apply Runs.then
    refine Runs.regionH 1 rfl H ?_; intro b3 σ H
    refine Ops.int (m := s1) (m' := (l.length : Int)) (r := .bool (decide (s1 < (l.length : Int)))) rfl rfl rfl rfl rfl ?_
    apply Ops.nil
    replace H := H.all
    apply Runs.then
    refine Runs.whether (v := (decide (s1 < (l.length : Int)))) rfl ?_ ?_ <;> intro hc1
    · replace h := cond_T hc1 h
      apply Runs.skip
      apply Runs.then
      apply Runs.inBlock
      apply Runs.then
      refine Runs.regionH 6 rfl H ?_; intro b4 σ H
      refine Ops.move (v := (.v (.int .i64 s1))) rfl rfl ?_
      obtain ⟨x1, q1, h⟩ := bind_some h
      refine Ops.indexP (c := Span.cs) (u := x1) rfl rfl q1 rfl rfl rfl rfl ?_
      refine Ops.loadPA (cs := [(.int .i64 x1.From), (.int .i64 x1.To)]) rfl rfl rfl rfl rfl rfl ?_
      refine Ops.allocH (cs := [(.v (.int .i64 0)), (.v (.int .i64 0))]) H (by omega) (by omega) rfl rfl ?_; intro σ H
      refine Ops.assign (v := (.v (.int .i64 s1))) rfl rfl ?_
      refine Ops.storeH (off := 0) (v := (.agg [(.v (.int .i64 x1.From)), (.v (.int .i64 x1.To))])) (ys := [(.v (.int .i64 x1.From)), (.v (.int .i64 x1.To))]) (cells' := [(.v (.int .i64 x1.From)), (.v (.int .i64 x1.To))]) H 0 rfl rfl rfl rfl rfl rfl rfl rfl rfl nofun ?_; intro σ H
      apply Ops.nil
      replace H := H.all
      apply Runs.then
      refine Runs.drawnH 33 rfl (by kernel_rfl) H ?_; intro b5 σ H B5
      refine Ops.fieldAddrH (off := 0) (fo := 0) H 0 rfl rfl rfl rfl rfl (fun _ => .inl ⟨B5 0 _ rfl _ rfl, nofun⟩) rfl ?_
      refine Ops.loadH (off := 0) (v := (.v (.int .i64 x1.From))) H 0 rfl rfl rfl rfl rfl (fun _ => .inl ⟨B5 0 _ rfl _ rfl, nofun⟩) rfl ?_
      refine Ops.call (ys := [(.v (.int .i64 x1.From))]) (r := (.v (.bool (spans_tick x1.From)))) rfl (spans_tick_fn rfl) rfl ?_
      refine Ops.not (b := (spans_tick x1.From)) rfl rfl ?_
      refine Ops.move (v := (.v (.bool (!(spans_tick x1.From))))) rfl rfl ?_
      refine Ops.mid 5 (K1 := fun e σ => EnvHas e [(21, (.v (.bool ((!(spans_tick x1.From)) || (!(spans_tick x1.To)))))), (0, (.v (.sl (l.map Span.cs)))), (3, (.v (.int .i64 s1))), (4, (.ptr (b4 + 3) 2 0)), (5, (.v (.sl (l.map Span.cs)))), (6, (.v (.int .i64 (l.length : Int)))), (7, (.v (.int .i64 s1)))] ∧ Has σ (b5 + 10) (b5 + 33) [.blk (b4 + 3) 43 [(.v (.int .i64 x1.From)), (.v (.int .i64 x1.To))]]) rfl ?_ ?_
      · refine Ops.split rfl rfl ?_ ?_ <;> intro hc2
        · skip
          refine Ops.pass rfl rfl rfl ?_
          refine Ops.pass rfl rfl rfl ?_
          refine Ops.pass rfl rfl rfl ?_
          refine Ops.pass rfl rfl rfl ?_
          refine Ops.pickT (v := (.v (.bool true))) rfl rfl rfl ?_
          apply Ops.nil
          exact ⟨⟨or_T hc2, rfl, rfl, rfl, rfl, rfl, rfl, trivial⟩, H.weak (by omega) (Nat.le_refl _)⟩
        · skip
          refine Ops.wanted rfl rfl ?_
          refine Ops.fieldAddrH (off := 0) (fo := 1) H 0 rfl rfl rfl rfl rfl (fun _ => .inl ⟨B5 0 _ rfl _ rfl, nofun⟩) rfl ?_
          refine Ops.wanted rfl rfl ?_
          refine Ops.loadH (off := 1) (v := (.v (.int .i64 x1.To))) H 0 rfl rfl rfl rfl rfl (fun _ => .inl ⟨B5 0 _ rfl _ rfl, nofun⟩) rfl ?_
          refine Ops.wanted rfl rfl ?_
          refine Ops.call (ys := [(.v (.int .i64 x1.To))]) (r := (.v (.bool (spans_tick x1.To)))) rfl (spans_tick_fn rfl) rfl ?_
          refine Ops.wanted rfl rfl ?_
          refine Ops.not (b := (spans_tick x1.To)) rfl rfl ?_
          refine Ops.pickF (v := (.v (.bool (!(spans_tick x1.To))))) rfl rfl rfl ?_
          apply Ops.nil
          exact ⟨⟨or_F hc2, rfl, rfl, rfl, rfl, rfl, rfl, trivial⟩, H.weak (by omega) (Nat.le_refl _)⟩
      · rintro e σ ⟨he, H⟩
        obtain ⟨e, rfl⟩ := he.ex
        refine Ops.move (v := (.v (.bool ((!(spans_tick x1.From)) || (!(spans_tick x1.To)))))) rfl rfl ?_
        refine Ops.mid 6 (K1 := fun e σ => EnvHas e [(28, (.v (.bool (((!(spans_tick x1.From)) || (!(spans_tick x1.To))) || (decide (x1.From > x1.To)))))), (0, (.v (.sl (l.map Span.cs)))), (3, (.v (.int .i64 s1))), (4, (.ptr (b4 + 3) 2 0)), (5, (.v (.sl (l.map Span.cs)))), (6, (.v (.int .i64 (l.length : Int)))), (7, (.v (.int .i64 s1)))] ∧ Has σ (b5 + 17) (b5 + 33) [.blk (b4 + 3) 43 [(.v (.int .i64 x1.From)), (.v (.int .i64 x1.To))]]) rfl ?_ ?_
        · refine Ops.split rfl rfl ?_ ?_ <;> intro hc3
          · skip
            refine Ops.pass rfl rfl rfl ?_
            refine Ops.pass rfl rfl rfl ?_
            refine Ops.pass rfl rfl rfl ?_
            refine Ops.pass rfl rfl rfl ?_
            refine Ops.pass rfl rfl rfl ?_
            refine Ops.pickT (v := (.v (.bool true))) rfl rfl rfl ?_
            apply Ops.nil
            exact ⟨⟨or_T hc3, rfl, rfl, rfl, rfl, rfl, rfl, trivial⟩, H.weak (by omega) (Nat.le_refl _)⟩
          · skip
            refine Ops.wanted rfl rfl ?_
            refine Ops.fieldAddrH (off := 0) (fo := 0) H 0 rfl rfl rfl rfl rfl (fun _ => .inl ⟨B5 0 _ rfl _ rfl, nofun⟩) rfl ?_
            refine Ops.wanted rfl rfl ?_
            refine Ops.loadH (off := 0) (v := (.v (.int .i64 x1.From))) H 0 rfl rfl rfl rfl rfl (fun _ => .inl ⟨B5 0 _ rfl _ rfl, nofun⟩) rfl ?_
            refine Ops.wanted rfl rfl ?_
            refine Ops.fieldAddrH (off := 0) (fo := 1) H 0 rfl rfl rfl rfl rfl (fun _ => .inl ⟨B5 0 _ rfl _ rfl, nofun⟩) rfl ?_
            refine Ops.wanted rfl rfl ?_
            refine Ops.loadH (off := 1) (v := (.v (.int .i64 x1.To))) H 0 rfl rfl rfl rfl rfl (fun _ => .inl ⟨B5 0 _ rfl _ rfl, nofun⟩) rfl ?_
            refine Ops.wanted rfl rfl ?_
            refine Ops.int (m := x1.From) (m' := x1.To) (r := .bool (decide (x1.From > x1.To))) rfl rfl rfl rfl rfl ?_
            refine Ops.pickF (v := (.v (.bool (decide (x1.From > x1.To))))) rfl rfl rfl ?_
            apply Ops.nil
            exact ⟨⟨or_F hc3, rfl, rfl, rfl, rfl, rfl, rfl, trivial⟩, H.weak (by omega) (Nat.le_refl _)⟩
        · rintro e σ ⟨he, H⟩
          obtain ⟨e, rfl⟩ := he.ex
          refine Ops.move (v := (.v (.bool (((!(spans_tick x1.From)) || (!(spans_tick x1.To))) || (decide (x1.From > x1.To)))))) rfl rfl ?_
          obtain ⟨y2, hj2, h⟩ := bind_some h
          refine Ops.mid 15 (K1 := fun e σ => EnvHas e [(44, (.v (.bool y2))), (0, (.v (.sl (l.map Span.cs)))), (5, (.v (.sl (l.map Span.cs)))), (6, (.v (.int .i64 (l.length : Int)))), (7, (.v (.int .i64 s1)))] ∧ Has σ (b5 + 33) (b5 + 33) []) rfl ?_ ?_
          · refine Ops.split rfl rfl ?_ ?_ <;> intro hc4
            · replace h := cond_T hc4 hj2
              refine Ops.pass rfl rfl rfl ?_
              refine Ops.pass rfl rfl rfl ?_
              refine Ops.pass rfl rfl rfl ?_
              refine Ops.passU rfl rfl rfl ?_
              refine Ops.passU rfl rfl rfl ?_
              refine Ops.passU rfl rfl rfl ?_
              refine Ops.passU rfl rfl rfl ?_
              refine Ops.passU rfl rfl rfl ?_
              refine Ops.passU rfl rfl rfl ?_
              refine Ops.passU rfl rfl rfl ?_
              refine Ops.passU rfl rfl rfl ?_
              refine Ops.passU rfl rfl rfl ?_
              refine Ops.passU rfl rfl rfl ?_
              refine Ops.pass rfl rfl rfl ?_
              refine Ops.pickT (v := (.v (.bool true))) rfl rfl rfl ?_
              apply Ops.nil
              replace h := Option.some.inj h; subst h
              exact ⟨⟨rfl, rfl, rfl, rfl, rfl, trivial⟩, (H.erase 0).weak (by omega) (Nat.le_refl _)⟩
            · replace h := cond_F hc4 hj2
              refine Ops.wanted rfl rfl ?_
              refine Ops.move (v := (.v (.int .i64 s1))) rfl rfl ?_
              refine Ops.wanted rfl rfl ?_
              refine Ops.int (m := s1) (m' := 0) (r := .bool (decide (s1 > 0))) rfl rfl rfl rfl rfl ?_
              refine Ops.wanted rfl rfl ?_
              refine Ops.move (v := (.v (.bool (decide (s1 > 0))))) rfl rfl ?_
              obtain ⟨y3, hj3, h⟩ := bind_some h
              refine Ops.mid 11 (K1 := fun e σ => EnvHas e [(43, (.v (.bool y3))), (0, (.v (.sl (l.map Span.cs)))), (5, (.v (.sl (l.map Span.cs)))), (6, (.v (.int .i64 (l.length : Int)))), (7, (.v (.int .i64 s1))), (29, (.v (.bool false)))] ∧ Has σ (b5 + 32) (b5 + 33) []) rfl ?_ ?_
              · refine Ops.split rfl rfl ?_ ?_ <;> intro hc5
                · replace h := cond_T hc5 hj3
                  refine Ops.wanted rfl rfl ?_
                  refine Ops.fieldAddrH (off := 0) (fo := 0) H 0 rfl rfl rfl rfl rfl (fun _ => .inl ⟨B5 0 _ rfl _ rfl, nofun⟩) rfl ?_
                  refine Ops.wanted rfl rfl ?_
                  refine Ops.loadH (off := 0) (v := (.v (.int .i64 x1.From))) H 0 rfl rfl rfl rfl rfl (fun _ => .inl ⟨B5 0 _ rfl _ rfl, nofun⟩) rfl ?_
                  refine Ops.wanted rfl rfl ?_
                  refine Ops.move (v := (.v (.sl (l.map Span.cs)))) rfl rfl ?_
                  refine Ops.wanted rfl rfl ?_
                  refine Ops.move (v := (.v (.int .i64 s1))) rfl rfl ?_
                  refine Ops.wanted rfl rfl ?_
                  refine Ops.int (m := s1) (m' := 1) (r := .int .i64 (w64 (s1 - 1))) rfl rfl rfl rfl rfl ?_
                  refine Ops.wanted rfl rfl ?_
                  obtain ⟨x2, q2, h⟩ := bind_some h
                  refine Ops.indexP (c := Span.cs) (u := x2) rfl rfl q2 rfl rfl rfl rfl ?_
                  refine Ops.wanted rfl rfl ?_
                  refine Ops.fieldAddrP rfl rfl rfl rfl ?_
                  refine Ops.wanted rfl rfl ?_
                  refine Ops.loadP (u := (.int .i64 x2.To)) rfl rfl rfl rfl ?_
                  refine Ops.wanted rfl rfl ?_
                  refine Ops.int (m := x2.To) (m' := 2) (r := .int .i64 (w64 (x2.To + 2))) rfl rfl rfl rfl rfl ?_
                  refine Ops.wanted rfl rfl ?_
                  refine Ops.int (m := x1.From) (m' := (w64 (x2.To + 2))) (r := .bool (decide (x1.From < (w64 (x2.To + 2))))) rfl rfl rfl rfl rfl ?_
                  refine Ops.wanted rfl rfl ?_
                  refine Ops.pickT (v := (.v (.bool (decide (x1.From < (w64 (x2.To + 2))))))) rfl rfl rfl ?_
                  apply Ops.nil
                  replace h := Option.some.inj h; subst h
                  exact ⟨⟨rfl, rfl, rfl, rfl, rfl, rfl, trivial⟩, (H.erase 0).weak (by omega) (Nat.le_refl _)⟩
                · replace h := cond_F hc5 hj3
                  refine Ops.pass rfl rfl rfl ?_
                  refine Ops.pass rfl rfl rfl ?_
                  refine Ops.pass rfl rfl rfl ?_
                  refine Ops.pass rfl rfl rfl ?_
                  refine Ops.pass rfl rfl rfl ?_
                  refine Ops.pass rfl rfl rfl ?_
                  refine Ops.pass rfl rfl rfl ?_
                  refine Ops.pass rfl rfl rfl ?_
                  refine Ops.pass rfl rfl rfl ?_
                  refine Ops.pass rfl rfl rfl ?_
                  refine Ops.wanted rfl rfl ?_
                  refine Ops.pickF (v := (.v (.bool false))) rfl rfl rfl ?_
                  apply Ops.nil
                  replace h := Option.some.inj h; subst h
                  exact ⟨⟨rfl, rfl, rfl, rfl, rfl, rfl, trivial⟩, (H.erase 0).weak (by omega) (Nat.le_refl _)⟩
              · rintro e σ ⟨he, H⟩
                obtain ⟨e, rfl⟩ := he.ex
                refine Ops.pickF (v := (.v (.bool y3))) rfl rfl rfl ?_
                apply Ops.nil
                replace h := Option.some.inj h; subst h
                exact ⟨⟨rfl, rfl, rfl, rfl, rfl, trivial⟩, H.weak (by omega) (Nat.le_refl _)⟩
          · rintro e σ ⟨he, H⟩
            obtain ⟨e, rfl⟩ := he.ex
            apply Ops.nil
            replace H := H.all
            refine Runs.whether (v := y2) rfl ?_ ?_ <;> intro hc6
            · replace h := cond_T hc6 h
              apply Runs.then
              refine Runs.regionH 1 rfl H ?_; intro b6 σ H
              refine Ops.assign (v := (.v (.bool false))) rfl rfl ?_
              apply Ops.nil
              replace H := H.all
              apply Runs.ret
              replace h := Option.some.inj h; subst h
              exact ⟨nofun, (.inr ⟨_, rfl, rfl, (Ends.H (xs := [(.v (.bool false))]) (.inr rfl) H (.tmp (v := (.v (.bool false))) rfl .nil) (.one (.c (.v _))))⟩)⟩
            · replace h := cond_F hc6 h
              apply Runs.skip
              refine Runs.regionH 2 rfl H ?_; intro b7 σ H
              refine Ops.int (m := s1) (m' := 1) (r := .int .i64 (w64 (s1 + 1))) rfl rfl rfl rfl rfl ?_
              refine Ops.move (v := (.v (.int .i64 (w64 (s1 + 1))))) rfl rfl ?_
              apply Ops.nil
              replace H := H.all
              replace h := Option.some.inj h; subst h
              exact ⟨rfl, ⟨rfl, rfl, rfl, rfl, trivial⟩, H⟩
    · replace h := cond_F hc1 h
      apply Runs.exit
      replace h := Option.some.inj h; subst h
      exact ⟨nofun, (.inl ⟨_, rfl, rfl, trivial, H⟩)⟩
  · rintro x e σ (⟨a2, rfl, rfl, he, H⟩ | ⟨r', rfl, rfl, hE⟩)
    · skip
      replace h := jgo h
      obtain ⟨e, rfl⟩ := he.ex
      apply Runs.then
      refine Runs.regionH 1 rfl H ?_; intro b8 σ H
      refine Ops.assign (v := (.v (.bool true))) rfl rfl ?_
      apply Ops.nil
      replace H := H.all
      apply Runs.ret
      replace h := Option.some.inj h; subst h
      exact (Ends.H (xs := [(.v (.bool true))]) (.inr rfl) H (.tmp (v := (.v (.bool true))) rfl .nil) (.one (.c (.v _))))
    · skip
      replace h := jret h
      replace h := Option.some.inj h; subst h
      exact hE

set_option maxRecDepth 100000 in
set_option maxHeartbeats 4000000 in
theorem gran_inRange_fn {i : Int} {r : Bool} (h : gran_inRange i = r) : Fn CX 39 [(.v (.int .i64 i))] (.v (.bool r)) := by
  refine Fn.ends Try.func39 rfl rfl rfl rfl rfl rfl ?_
  have H : Hs (⟨0, fun _ => .none⟩ : Heap) [] := Has.nil (Nat.le_refl _)
  generalize (⟨0, fun _ => .none⟩ : Heap) = σ at H ⊢
  unfold gran_inRange at h
  apply Runs.then
  refine Runs.regionH 1 rfl H ?_; intro b1 σ H
  refine Ops.assign (v := (.v (.bool false))) rfl rfl ?_
  apply Ops.nil
  replace H := H.all
  apply Runs.then
  refine Runs.regionH 7 rfl H ?_; intro b2 σ H
  refine Ops.move (v := (.v (.int .i64 i))) rfl rfl ?_
  refine Ops.int (m := i) (m' := (-1099511627776)) (r := .bool (decide (i ≥ (-1099511627776)))) rfl rfl rfl rfl rfl ?_
  refine Ops.move (v := (.v (.bool (decide (i ≥ (-1099511627776)))))) rfl rfl ?_
  refine Ops.mid 3 (K1 := fun e σ => EnvHas e [(8, (.v (.bool ((decide (i ≥ (-1099511627776))) && (decide (i ≤ 1099511627776))))))] ∧ Has σ (b2 + 6) (b2 + 7) []) rfl ?_ ?_
  · refine Ops.split rfl rfl ?_ ?_ <;> intro hc1
    · skip
      refine Ops.wanted rfl rfl ?_
      refine Ops.move (v := (.v (.int .i64 i))) rfl rfl ?_
      refine Ops.wanted rfl rfl ?_
      refine Ops.int (m := i) (m' := 1099511627776) (r := .bool (decide (i ≤ 1099511627776))) rfl rfl rfl rfl rfl ?_
      refine Ops.pickT (v := (.v (.bool (decide (i ≤ 1099511627776))))) rfl rfl rfl ?_
      apply Ops.nil
      exact ⟨⟨and_T hc1, trivial⟩, H.weak (by omega) (Nat.le_refl _)⟩
    · skip
      refine Ops.pass rfl rfl rfl ?_
      refine Ops.pass rfl rfl rfl ?_
      refine Ops.pickF (v := (.v (.bool false))) rfl rfl rfl ?_
      apply Ops.nil
      exact ⟨⟨and_F hc1, trivial⟩, H.weak (by omega) (Nat.le_refl _)⟩
  · rintro e σ ⟨he, H⟩
    obtain ⟨e, rfl⟩ := he.ex
    refine Ops.assign (v := (.v (.bool ((decide (i ≥ (-1099511627776))) && (decide (i ≤ 1099511627776)))))) rfl rfl ?_
    apply Ops.nil
    replace H := H.all
    apply Runs.ret
    subst h
    exact (Ends.H (xs := [(.v (.bool ((decide (i ≥ (-1099511627776))) && (decide (i ≤ 1099511627776)))))]) (.inr rfl) H (.tmp (v := (.v (.bool ((decide (i ≥ (-1099511627776))) && (decide (i ≤ 1099511627776)))))) rfl .nil) (.one (.c (.v _))))

set_option maxRecDepth 100000 in
set_option maxHeartbeats 4000000 in
theorem gran_shape_fn {f : Form} {r : Bool} (h : gran_shape f = some r) : Fn CX 56 [(.agg (vs (Form.cs f)))] (.v (.bool r)) := by
  refine Fn.ends Try.func56 rfl rfl rfl rfl rfl rfl ?_
  have H : Hs (⟨0, fun _ => .none⟩ : Heap) [] := Has.nil (Nat.le_refl _)
  generalize (⟨0, fun _ => .none⟩ : Heap) = σ at H ⊢
  unfold gran_shape at h
  apply Runs.then
  refine Runs.regionH 2 rfl H ?_; intro b1 σ H
  refine Ops.boxH (v := (.agg [(.v (.int .i64 f.Period)), (.v (.int .i64 f.Count)), (.v (.sl (f.Core.map (cL Span.cs)))), (.v (.sl (f.Odd.map Granule.cs)))])) (cs := [(.v (.int .i64 f.Period)), (.v (.int .i64 f.Count)), (.v (.sl (f.Core.map (cL Span.cs)))), (.v (.sl (f.Odd.map Granule.cs)))]) H (by omega) (by omega) rfl rfl rfl ?_; intro σ H
  refine Ops.assign (v := (.v (.bool false))) rfl rfl ?_
  apply Ops.nil
  replace H := H.all
  apply Runs.then
  apply Runs.then
  refine Runs.regionH 25 rfl H ?_; intro b2 σ H
  refine Ops.fieldAddrH (off := 0) (fo := 1) H 0 rfl rfl rfl rfl rfl nofun rfl ?_
  refine Ops.loadH (off := 1) (v := (.v (.int .i64 f.Count))) H 0 rfl rfl rfl rfl rfl nofun rfl ?_
  refine Ops.fieldAddrH (off := 0) (fo := 2) H 0 rfl rfl rfl rfl rfl nofun rfl ?_
  refine Ops.loadH (off := 2) (v := (.v (.sl (f.Core.map (cL Span.cs))))) H 0 rfl rfl rfl rfl rfl nofun rfl ?_
  refine Ops.lenPt (c := (cL Span.cs)) (xs := f.Core) rfl rfl rfl ?_
  refine Ops.int (m := f.Count) (m' := (f.Core.length : Int)) (r := .bool (f.Count != (f.Core.length : Int))) rfl rfl rfl rfl rfl ?_
  refine Ops.move (v := (.v (.bool (f.Count != (f.Core.length : Int))))) rfl rfl ?_
  refine Ops.mid 8 (K1 := fun e σ => EnvHas e [(21, (.v (.bool ((f.Count != (f.Core.length : Int)) || ((f.Count == 0) != (f.Period == 0)))))), (1, (.ptr (b1 + 0) 4 0))] ∧ Has σ (b2 + 15) (b2 + 25) [.blk (b1 + 0) 25 [(.v (.int .i64 f.Period)), (.v (.int .i64 f.Count)), (.v (.sl (f.Core.map (cL Span.cs)))), (.v (.sl (f.Odd.map Granule.cs)))]]) rfl ?_ ?_
  · refine Ops.split rfl rfl ?_ ?_ <;> intro hc1
    · skip
      refine Ops.pass rfl rfl rfl ?_
      refine Ops.pass rfl rfl rfl ?_
      refine Ops.pass rfl rfl rfl ?_
      refine Ops.pass rfl rfl rfl ?_
      refine Ops.pass rfl rfl rfl ?_
      refine Ops.pass rfl rfl rfl ?_
      refine Ops.pass rfl rfl rfl ?_
      refine Ops.pickT (v := (.v (.bool true))) rfl rfl rfl ?_
      apply Ops.nil
      exact ⟨⟨or_T hc1, rfl, trivial⟩, H.weak (by omega) (Nat.le_refl _)⟩
    · skip
      refine Ops.wanted rfl rfl ?_
      refine Ops.fieldAddrH (off := 0) (fo := 1) H 0 rfl rfl rfl rfl rfl nofun rfl ?_
      refine Ops.wanted rfl rfl ?_
      refine Ops.loadH (off := 1) (v := (.v (.int .i64 f.Count))) H 0 rfl rfl rfl rfl rfl nofun rfl ?_
      refine Ops.wanted rfl rfl ?_
      refine Ops.int (m := f.Count) (m' := 0) (r := .bool (f.Count == 0)) rfl rfl rfl rfl rfl ?_
      refine Ops.wanted rfl rfl ?_
      refine Ops.fieldAddrH (off := 0) (fo := 0) H 0 rfl rfl rfl rfl rfl nofun rfl ?_
      refine Ops.wanted rfl rfl ?_
      refine Ops.loadH (off := 0) (v := (.v (.int .i64 f.Period))) H 0 rfl rfl rfl rfl rfl nofun rfl ?_
      refine Ops.wanted rfl rfl ?_
      refine Ops.int (m := f.Period) (m' := 0) (r := .bool (f.Period == 0)) rfl rfl rfl rfl rfl ?_
      refine Ops.wanted rfl rfl ?_
      refine Ops.neB (b := (f.Count == 0)) (b' := (f.Period == 0)) rfl rfl rfl rfl ?_
      refine Ops.pickF (v := (.v (.bool ((f.Count == 0) != (f.Period == 0))))) rfl rfl rfl ?_
      apply Ops.nil
      exact ⟨⟨or_F hc1, rfl, trivial⟩, H.weak (by omega) (Nat.le_refl _)⟩
  · rintro e σ ⟨he, H⟩
    obtain ⟨e, rfl⟩ := he.ex
    refine Ops.move (v := (.v (.bool ((f.Count != (f.Core.length : Int)) || ((f.Count == 0) != (f.Period == 0)))))) rfl rfl ?_
    refine Ops.mid 4 (K1 := fun e σ => EnvHas e [(26, (.v (.bool (((f.Count != (f.Core.length : Int)) || ((f.Count == 0) != (f.Period == 0))) || (decide (f.Period < 0)))))), (1, (.ptr (b1 + 0) 4 0))] ∧ Has σ (b2 + 20) (b2 + 25) [.blk (b1 + 0) 25 [(.v (.int .i64 f.Period)), (.v (.int .i64 f.Count)), (.v (.sl (f.Core.map (cL Span.cs)))), (.v (.sl (f.Odd.map Granule.cs)))]]) rfl ?_ ?_
    · refine Ops.split rfl rfl ?_ ?_ <;> intro hc2
      · skip
        refine Ops.pass rfl rfl rfl ?_
        refine Ops.pass rfl rfl rfl ?_
        refine Ops.pass rfl rfl rfl ?_
        refine Ops.pickT (v := (.v (.bool true))) rfl rfl rfl ?_
        apply Ops.nil
        exact ⟨⟨or_T hc2, rfl, trivial⟩, H.weak (by omega) (Nat.le_refl _)⟩
      · skip
        refine Ops.wanted rfl rfl ?_
        refine Ops.fieldAddrH (off := 0) (fo := 0) H 0 rfl rfl rfl rfl rfl nofun rfl ?_
        refine Ops.wanted rfl rfl ?_
        refine Ops.loadH (off := 0) (v := (.v (.int .i64 f.Period))) H 0 rfl rfl rfl rfl rfl nofun rfl ?_
        refine Ops.wanted rfl rfl ?_
        refine Ops.int (m := f.Period) (m' := 0) (r := .bool (decide (f.Period < 0))) rfl rfl rfl rfl rfl ?_
        refine Ops.pickF (v := (.v (.bool (decide (f.Period < 0))))) rfl rfl rfl ?_
        apply Ops.nil
        exact ⟨⟨or_F hc2, rfl, trivial⟩, H.weak (by omega) (Nat.le_refl _)⟩
    · rintro e σ ⟨he, H⟩
      obtain ⟨e, rfl⟩ := he.ex
      refine Ops.move (v := (.v (.bool (((f.Count != (f.Core.length : Int)) || ((f.Count == 0) != (f.Period == 0))) || (decide (f.Period < 0)))))) rfl rfl ?_
      refine Ops.mid 4 (K1 := fun e σ => EnvHas e [(31, (.v (.bool ((((f.Count != (f.Core.length : Int)) || ((f.Count == 0) != (f.Period == 0))) || (decide (f.Period < 0))) || (decide (f.Period > 1099511627776)))))), (1, (.ptr (b1 + 0) 4 0))] ∧ Has σ (b2 + 25) (b2 + 25) [.blk (b1 + 0) 25 [(.v (.int .i64 f.Period)), (.v (.int .i64 f.Count)), (.v (.sl (f.Core.map (cL Span.cs)))), (.v (.sl (f.Odd.map Granule.cs)))]]) rfl ?_ ?_
      · refine Ops.split rfl rfl ?_ ?_ <;> intro hc3
        · skip
          refine Ops.pass rfl rfl rfl ?_
          refine Ops.pass rfl rfl rfl ?_
          refine Ops.pass rfl rfl rfl ?_
          refine Ops.pickT (v := (.v (.bool true))) rfl rfl rfl ?_
          apply Ops.nil
          exact ⟨⟨or_T hc3, rfl, trivial⟩, H.weak (by omega) (Nat.le_refl _)⟩
        · skip
          refine Ops.wanted rfl rfl ?_
          refine Ops.fieldAddrH (off := 0) (fo := 0) H 0 rfl rfl rfl rfl rfl nofun rfl ?_
          refine Ops.wanted rfl rfl ?_
          refine Ops.loadH (off := 0) (v := (.v (.int .i64 f.Period))) H 0 rfl rfl rfl rfl rfl nofun rfl ?_
          refine Ops.wanted rfl rfl ?_
          refine Ops.int (m := f.Period) (m' := 1099511627776) (r := .bool (decide (f.Period > 1099511627776))) rfl rfl rfl rfl rfl ?_
          refine Ops.pickF (v := (.v (.bool (decide (f.Period > 1099511627776))))) rfl rfl rfl ?_
          apply Ops.nil
          exact ⟨⟨or_F hc3, rfl, trivial⟩, H.weak (by omega) (Nat.le_refl _)⟩
      · rintro e σ ⟨he, H⟩
        obtain ⟨e, rfl⟩ := he.ex
        apply Ops.nil
        replace H := H.all
        refine Runs.whether (v := ((((f.Count != (f.Core.length : Int)) || ((f.Count == 0) != (f.Period == 0))) || (decide (f.Period < 0))) || (decide (f.Period > 1099511627776)))) rfl ?_ ?_ <;> intro hc4
        · replace h := cond_T hc4 h
          apply Runs.then
          refine Runs.regionH 1 rfl H ?_; intro b3 σ H
          refine Ops.assign (v := (.v (.bool false))) rfl rfl ?_
          apply Ops.nil
          replace H := H.all
          apply Runs.ret
          replace h := Option.some.inj h; subst h
          exact (Ends.H (xs := [(.v (.bool false))]) (.inr rfl) H (.tmp (v := (.v (.bool false))) rfl .nil) (.one (.c (.v _))))
        · replace h := cond_F hc4 h
          apply Runs.skip
          apply Runs.then
          apply Runs.then
          refine Runs.regionH 4 rfl H ?_; intro b4 σ H
          refine Ops.fieldAddrH (off := 0) (fo := 2) H 0 rfl rfl rfl rfl rfl nofun rfl ?_
          refine Ops.loadH (off := 2) (v := (.v (.sl (f.Core.map (cL Span.cs))))) H 0 rfl rfl rfl rfl rfl nofun rfl ?_
          refine Ops.lenPt (c := (cL Span.cs)) (xs := f.Core) rfl rfl rfl ?_
          refine Ops.move (v := (.v (.int .i64 0))) rfl rfl ?_
          apply Ops.nil
          replace H := H.all
          apply Runs.inBlock
          obtain ⟨y1, hj1, h⟩ := bind_some h
          obtain ⟨n1, hj1⟩ := loopO_iff.1 hj1
          refine Runs.mono (Runs.loopO hj1 (fun s1 e σ => EnvHas e [(1, (.ptr (b1 + 0) 4 0)), (33, (.v (.sl (f.Core.map (cL Span.cs))))), (34, (.v (.int .i64 (f.Core.length : Int)))), (35, (.v (.int .i64 s1)))] ∧ Hs σ [.blk (b1 + 0) 25 [(.v (.int .i64 f.Period)), (.v (.int .i64 f.Count)), (.v (.sl (f.Core.map (cL Span.cs)))), (.v (.sl (f.Odd.map Granule.cs)))]]) (fun y1 x e σ => (∃ a1, y1 = (.go a1) ∧ x = .exit 0 ∧ EnvHas e [(1, (.ptr (b1 + 0) 4 0))] ∧ Hs σ [.blk (b1 + 0) 25 [(.v (.int .i64 f.Period)), (.v (.int .i64 f.Count)), (.v (.sl (f.Core.map (cL Span.cs)))), (.v (.sl (f.Odd.map Granule.cs)))]]) ∨ (∃ r', y1 = (.ret r') ∧ x = .ret ∧ Ends CX Try.f56.results.toList (.v (.bool r')) x e σ)) ⟨⟨rfl, rfl, rfl, rfl, trivial⟩, H⟩ ?_) ?_
          · intro s1 e σ hI z h
            obtain ⟨he, H⟩ := hI
            obtain ⟨e, rfl⟩ := he.ex
            unfold gran_shape.s0 at h
            apply Runs.then
            refine Runs.regionH 1 rfl H ?_; intro b5 σ H
            refine Ops.int (m := s1) (m' := (f.Core.length : Int)) (r := .bool (decide (s1 < (f.Core.length : Int)))) rfl rfl rfl rfl rfl ?_
            apply Ops.nil
            replace H := H.all
            apply Runs.then
            refine Runs.whether (v := (decide (s1 < (f.Core.length : Int)))) rfl ?_ ?_ <;> intro hc5
            · replace h := cond_T hc5 h
              apply Runs.skip
              apply Runs.then
              apply Runs.inBlock
              apply Runs.then
              refine Runs.regionH 3 rfl H ?_; intro b6 σ H
              obtain ⟨x1, q1, h⟩ := bind_some h
              refine Ops.indexP (c := (cL Span.cs)) (u := x1) rfl rfl q1 rfl rfl rfl rfl ?_
              refine Ops.loadP (u := (.sl (x1.map Span.cs))) rfl rfl rfl rfl ?_
              refine Ops.assign (v := (.v (.sl (x1.map Span.cs)))) rfl rfl ?_
              apply Ops.nil
              replace H := H.all
              apply Runs.then
              refine Runs.regionH 3 rfl H ?_; intro b7 σ H
              refine Ops.move (v := (.v (.sl (x1.map Span.cs)))) rfl rfl ?_
              obtain ⟨x2, q2, h⟩ := bind_some h
              refine Ops.call (ys := [(.v (.sl (x1.map Span.cs)))]) (r := (.v (.bool x2))) rfl (spans_Right_fn q2) rfl ?_
              refine Ops.not (b := x2) rfl rfl ?_
              apply Ops.nil
              replace H := H.all
              refine Runs.whether (v := (!x2)) rfl ?_ ?_ <;> intro hc6
              · replace h := cond_T hc6 h
                apply Runs.then
                refine Runs.regionH 1 rfl H ?_; intro b8 σ H
                refine Ops.assign (v := (.v (.bool false))) rfl rfl ?_
                apply Ops.nil
                replace H := H.all
                apply Runs.ret
                replace h := Option.some.inj h; subst h
                exact ⟨nofun, (.inr ⟨_, rfl, rfl, (Ends.H (xs := [(.v (.bool false))]) (.inr rfl) H (.tmp (v := (.v (.bool false))) rfl .nil) (.one (.c (.v _))))⟩)⟩
              · replace h := cond_F hc6 h
                apply Runs.skip
                refine Runs.regionH 2 rfl H ?_; intro b9 σ H
                refine Ops.int (m := s1) (m' := 1) (r := .int .i64 (w64 (s1 + 1))) rfl rfl rfl rfl rfl ?_
                refine Ops.move (v := (.v (.int .i64 (w64 (s1 + 1))))) rfl rfl ?_
                apply Ops.nil
                replace H := H.all
                replace h := Option.some.inj h; subst h
                exact ⟨rfl, ⟨rfl, rfl, rfl, rfl, trivial⟩, H⟩
            · replace h := cond_F hc5 h
              apply Runs.exit
              replace h := Option.some.inj h; subst h
              exact ⟨nofun, (.inl ⟨_, rfl, rfl, ⟨rfl, trivial⟩, H⟩)⟩
          · rintro x e σ (⟨a2, rfl, rfl, he, H⟩ | ⟨r', rfl, rfl, hE⟩)
            · skip
              replace h := jgo h
              obtain ⟨e, rfl⟩ := he.ex
              apply Runs.then
              apply Runs.then
              refine Runs.regionH 4 rfl H ?_; intro b10 σ H
              refine Ops.fieldAddrH (off := 0) (fo := 3) H 0 rfl rfl rfl rfl rfl nofun rfl ?_
              refine Ops.loadH (off := 3) (v := (.v (.sl (f.Odd.map Granule.cs)))) H 0 rfl rfl rfl rfl rfl nofun rfl ?_
              refine Ops.lenPt (c := Granule.cs) (xs := f.Odd) rfl rfl rfl ?_
              refine Ops.move (v := (.v (.int .i64 0))) rfl rfl ?_
              apply Ops.nil
              replace H := H.all
              apply Runs.inBlock
              obtain ⟨y2, hj2, h⟩ := bind_some h
              obtain ⟨n2, hj2⟩ := loopO_iff.1 hj2
              refine Runs.mono (Runs.loopO hj2 (fun s2 e σ => EnvHas e [(1, (.ptr (b1 + 0) 4 0)), (44, (.v (.sl (f.Odd.map Granule.cs)))), (45, (.v (.int .i64 (f.Odd.length : Int)))), (46, (.v (.int .i64 s2)))] ∧ Hs σ [.blk (b1 + 0) 25 [(.v (.int .i64 f.Period)), (.v (.int .i64 f.Count)), (.v (.sl (f.Core.map (cL Span.cs)))), (.v (.sl (f.Odd.map Granule.cs)))]]) (fun y2 x e σ => (∃ a3, y2 = (.go a3) ∧ x = .exit 2 ∧ EnvHas e [] ∧ Hs σ []) ∨ (∃ r', y2 = (.ret r') ∧ x = .ret ∧ Ends CX Try.f56.results.toList (.v (.bool r')) x e σ)) ⟨⟨rfl, rfl, rfl, rfl, trivial⟩, H⟩ ?_) ?_
              · intro s2 e σ hI z h
                obtain ⟨he, H⟩ := hI
                obtain ⟨e, rfl⟩ := he.ex
                unfold gran_shape.s1 at h
                apply Runs.then
                refine Runs.regionH 1 rfl H ?_; intro b11 σ H
                refine Ops.int (m := s2) (m' := (f.Odd.length : Int)) (r := .bool (decide (s2 < (f.Odd.length : Int)))) rfl rfl rfl rfl rfl ?_
                apply Ops.nil
                replace H := H.all
                apply Runs.then
                refine Runs.whether (v := (decide (s2 < (f.Odd.length : Int)))) rfl ?_ ?_ <;> intro hc7
                · replace h := cond_T hc7 h
                  apply Runs.skip
                  apply Runs.then
                  apply Runs.inBlock
                  apply Runs.then
                  refine Runs.regionH 6 rfl H ?_; intro b12 σ H
                  refine Ops.move (v := (.v (.int .i64 s2))) rfl rfl ?_
                  obtain ⟨x3, q3, h⟩ := bind_some h
                  refine Ops.indexP (c := Granule.cs) (u := x3) rfl rfl q3 rfl rfl rfl rfl ?_
                  refine Ops.loadPA (cs := [(.int .i64 x3.Index), (.sl (x3.Ticks.map Span.cs))]) rfl rfl rfl rfl rfl rfl ?_
                  refine Ops.allocH (cs := [(.v (.int .i64 0)), .nils]) H (by omega) (by omega) rfl rfl ?_; intro σ H
                  refine Ops.assign (v := (.v (.int .i64 s2))) rfl rfl ?_
                  refine Ops.storeH (off := 0) (v := (.agg [(.v (.int .i64 x3.Index)), (.v (.sl (x3.Ticks.map Span.cs)))])) (ys := [(.v (.int .i64 x3.Index)), (.v (.sl (x3.Ticks.map Span.cs)))]) (cells' := [(.v (.int .i64 x3.Index)), (.v (.sl (x3.Ticks.map Span.cs)))]) H 0 rfl rfl rfl rfl rfl rfl rfl rfl rfl nofun ?_; intro σ H
                  apply Ops.nil
                  replace H := H.all
                  apply Runs.then
                  refine Runs.drawnH 26 rfl (by kernel_rfl) H ?_; intro b13 σ H B13
                  refine Ops.fieldAddrH (off := 0) (fo := 1) H 0 rfl rfl rfl rfl rfl (fun _ => .inl ⟨B13 0 _ rfl _ rfl, nofun⟩) rfl ?_
                  refine Ops.loadH (off := 1) (v := (.v (.sl (x3.Ticks.map Span.cs)))) H 0 rfl rfl rfl rfl rfl (fun _ => .inl ⟨B13 0 _ rfl _ rfl, nofun⟩) rfl ?_
                  obtain ⟨x4, q4, h⟩ := bind_some h
                  refine Ops.call (ys := [(.v (.sl (x3.Ticks.map Span.cs)))]) (r := (.v (.bool x4))) rfl (spans_Right_fn q4) rfl ?_
                  refine Ops.not (b := x4) rfl rfl ?_
                  refine Ops.move (v := (.v (.bool (!x4)))) rfl rfl ?_
                  refine Ops.mid 5 (K1 := fun e σ => EnvHas e [(60, (.v (.bool ((!x4) || (!(gran_inRange x3.Index)))))), (1, (.ptr (b1 + 0) 4 0)), (5, (.v (.int .i64 s2))), (6, (.ptr (b12 + 3) 2 0)), (44, (.v (.sl (f.Odd.map Granule.cs)))), (45, (.v (.int .i64 (f.Odd.length : Int)))), (46, (.v (.int .i64 s2)))] ∧ Has σ (b13 + 10) (b13 + 26) [.blk (b12 + 3) 45 [(.v (.int .i64 x3.Index)), (.v (.sl (x3.Ticks.map Span.cs)))], .blk (b1 + 0) 25 [(.v (.int .i64 f.Period)), (.v (.int .i64 f.Count)), (.v (.sl (f.Core.map (cL Span.cs)))), (.v (.sl (f.Odd.map Granule.cs)))]]) rfl ?_ ?_
                  · refine Ops.split rfl rfl ?_ ?_ <;> intro hc8
                    · skip
                      refine Ops.pass rfl rfl rfl ?_
                      refine Ops.pass rfl rfl rfl ?_
                      refine Ops.pass rfl rfl rfl ?_
                      refine Ops.pass rfl rfl rfl ?_
                      refine Ops.pickT (v := (.v (.bool true))) rfl rfl rfl ?_
                      apply Ops.nil
                      exact ⟨⟨or_T hc8, rfl, rfl, rfl, rfl, rfl, rfl, trivial⟩, H.weak (by omega) (Nat.le_refl _)⟩
                    · skip
                      refine Ops.wanted rfl rfl ?_
                      refine Ops.fieldAddrH (off := 0) (fo := 0) H 0 rfl rfl rfl rfl rfl (fun _ => .inl ⟨B13 0 _ rfl _ rfl, nofun⟩) rfl ?_
                      refine Ops.wanted rfl rfl ?_
                      refine Ops.loadH (off := 0) (v := (.v (.int .i64 x3.Index))) H 0 rfl rfl rfl rfl rfl (fun _ => .inl ⟨B13 0 _ rfl _ rfl, nofun⟩) rfl ?_
                      refine Ops.wanted rfl rfl ?_
                      refine Ops.call (ys := [(.v (.int .i64 x3.Index))]) (r := (.v (.bool (gran_inRange x3.Index)))) rfl (gran_inRange_fn rfl) rfl ?_
                      refine Ops.wanted rfl rfl ?_
                      refine Ops.not (b := (gran_inRange x3.Index)) rfl rfl ?_
                      refine Ops.pickF (v := (.v (.bool (!(gran_inRange x3.Index))))) rfl rfl rfl ?_
                      apply Ops.nil
                      exact ⟨⟨or_F hc8, rfl, rfl, rfl, rfl, rfl, rfl, trivial⟩, H.weak (by omega) (Nat.le_refl _)⟩
                  · rintro e σ ⟨he, H⟩
                    obtain ⟨e, rfl⟩ := he.ex
                    refine Ops.move (v := (.v (.bool ((!x4) || (!(gran_inRange x3.Index)))))) rfl rfl ?_
                    obtain ⟨y3, hj3, h⟩ := bind_some h
                    refine Ops.mid 15 (K1 := fun e σ => EnvHas e [(76, (.v (.bool y3))), (1, (.ptr (b1 + 0) 4 0)), (44, (.v (.sl (f.Odd.map Granule.cs)))), (45, (.v (.int .i64 (f.Odd.length : Int)))), (46, (.v (.int .i64 s2)))] ∧ Has σ (b13 + 26) (b13 + 26) [.blk (b1 + 0) 25 [(.v (.int .i64 f.Period)), (.v (.int .i64 f.Count)), (.v (.sl (f.Core.map (cL Span.cs)))), (.v (.sl (f.Odd.map Granule.cs)))]]) rfl ?_ ?_
                    · refine Ops.split rfl rfl ?_ ?_ <;> intro hc9
                      · replace h := cond_T hc9 hj3
                        refine Ops.pass rfl rfl rfl ?_
                        refine Ops.pass rfl rfl rfl ?_
                        refine Ops.pass rfl rfl rfl ?_
                        refine Ops.passU rfl rfl rfl ?_
                        refine Ops.passU rfl rfl rfl ?_
                        refine Ops.passU rfl rfl rfl ?_
                        refine Ops.passU rfl rfl rfl ?_
                        refine Ops.passU rfl rfl rfl ?_
                        refine Ops.passU rfl rfl rfl ?_
                        refine Ops.passU rfl rfl rfl ?_
                        refine Ops.passU rfl rfl rfl ?_
                        refine Ops.passU rfl rfl rfl ?_
                        refine Ops.passU rfl rfl rfl ?_
                        refine Ops.pass rfl rfl rfl ?_
                        refine Ops.pickT (v := (.v (.bool true))) rfl rfl rfl ?_
                        apply Ops.nil
                        replace h := Option.some.inj h; subst h
                        exact ⟨⟨rfl, rfl, rfl, rfl, rfl, trivial⟩, (H.erase 0).weak (by omega) (Nat.le_refl _)⟩
                      · replace h := cond_F hc9 hj3
                        refine Ops.wanted rfl rfl ?_
                        refine Ops.move (v := (.v (.int .i64 s2))) rfl rfl ?_
                        refine Ops.wanted rfl rfl ?_
                        refine Ops.int (m := s2) (m' := 0) (r := .bool (decide (s2 > 0))) rfl rfl rfl rfl rfl ?_
                        refine Ops.wanted rfl rfl ?_
                        refine Ops.move (v := (.v (.bool (decide (s2 > 0))))) rfl rfl ?_
                        obtain ⟨y4, hj4, h⟩ := bind_some h
                        refine Ops.mid 11 (K1 := fun e σ => EnvHas e [(75, (.v (.bool y4))), (1, (.ptr (b1 + 0) 4 0)), (44, (.v (.sl (f.Odd.map Granule.cs)))), (45, (.v (.int .i64 (f.Odd.length : Int)))), (46, (.v (.int .i64 s2))), (61, (.v (.bool false)))] ∧ Has σ (b13 + 25) (b13 + 26) [.blk (b1 + 0) 25 [(.v (.int .i64 f.Period)), (.v (.int .i64 f.Count)), (.v (.sl (f.Core.map (cL Span.cs)))), (.v (.sl (f.Odd.map Granule.cs)))]]) rfl ?_ ?_
                        · refine Ops.split rfl rfl ?_ ?_ <;> intro hc10
                          · replace h := cond_T hc10 hj4
                            refine Ops.wanted rfl rfl ?_
                            refine Ops.fieldAddrH (off := 0) (fo := 0) H 0 rfl rfl rfl rfl rfl (fun _ => .inl ⟨B13 0 _ rfl _ rfl, nofun⟩) rfl ?_
                            refine Ops.wanted rfl rfl ?_
                            refine Ops.loadH (off := 0) (v := (.v (.int .i64 x3.Index))) H 0 rfl rfl rfl rfl rfl (fun _ => .inl ⟨B13 0 _ rfl _ rfl, nofun⟩) rfl ?_
                            refine Ops.wanted rfl rfl ?_
                            refine Ops.fieldAddrH (off := 0) (fo := 3) H 1 rfl rfl rfl rfl rfl (fun _ => .inl ⟨B13 1 _ rfl _ rfl, nofun⟩) rfl ?_
                            refine Ops.wanted rfl rfl ?_
                            refine Ops.loadH (off := 3) (v := (.v (.sl (f.Odd.map Granule.cs)))) H 1 rfl rfl rfl rfl rfl (fun _ => .inl ⟨B13 1 _ rfl _ rfl, nofun⟩) rfl ?_
                            refine Ops.wanted rfl rfl ?_
                            refine Ops.move (v := (.v (.int .i64 s2))) rfl rfl ?_
                            refine Ops.wanted rfl rfl ?_
                            refine Ops.int (m := s2) (m' := 1) (r := .int .i64 (w64 (s2 - 1))) rfl rfl rfl rfl rfl ?_
                            refine Ops.wanted rfl rfl ?_
                            obtain ⟨x5, q5, h⟩ := bind_some h
                            refine Ops.indexP (c := Granule.cs) (u := x5) rfl rfl q5 rfl rfl rfl rfl ?_
                            refine Ops.wanted rfl rfl ?_
                            refine Ops.fieldAddrP rfl rfl rfl rfl ?_
                            refine Ops.wanted rfl rfl ?_
                            refine Ops.loadP (u := (.int .i64 x5.Index)) rfl rfl rfl rfl ?_
                            refine Ops.wanted rfl rfl ?_
                            refine Ops.int (m := x3.Index) (m' := x5.Index) (r := .bool (decide (x3.Index ≤ x5.Index))) rfl rfl rfl rfl rfl ?_
                            refine Ops.wanted rfl rfl ?_
                            refine Ops.pickT (v := (.v (.bool (decide (x3.Index ≤ x5.Index))))) rfl rfl rfl ?_
                            apply Ops.nil
                            replace h := Option.some.inj h; subst h
                            exact ⟨⟨rfl, rfl, rfl, rfl, rfl, rfl, trivial⟩, (H.erase 0).weak (by omega) (Nat.le_refl _)⟩
                          · replace h := cond_F hc10 hj4
                            refine Ops.pass rfl rfl rfl ?_
                            refine Ops.pass rfl rfl rfl ?_
                            refine Ops.pass rfl rfl rfl ?_
                            refine Ops.pass rfl rfl rfl ?_
                            refine Ops.pass rfl rfl rfl ?_
                            refine Ops.pass rfl rfl rfl ?_
                            refine Ops.pass rfl rfl rfl ?_
                            refine Ops.pass rfl rfl rfl ?_
                            refine Ops.pass rfl rfl rfl ?_
                            refine Ops.pass rfl rfl rfl ?_
                            refine Ops.wanted rfl rfl ?_
                            refine Ops.pickF (v := (.v (.bool false))) rfl rfl rfl ?_
                            apply Ops.nil
                            replace h := Option.some.inj h; subst h
                            exact ⟨⟨rfl, rfl, rfl, rfl, rfl, rfl, trivial⟩, (H.erase 0).weak (by omega) (Nat.le_refl _)⟩
                        · rintro e σ ⟨he, H⟩
                          obtain ⟨e, rfl⟩ := he.ex
                          refine Ops.pickF (v := (.v (.bool y4))) rfl rfl rfl ?_
                          apply Ops.nil
                          replace h := Option.some.inj h; subst h
                          exact ⟨⟨rfl, rfl, rfl, rfl, rfl, trivial⟩, H.weak (by omega) (Nat.le_refl _)⟩
                    · rintro e σ ⟨he, H⟩
                      obtain ⟨e, rfl⟩ := he.ex
                      apply Ops.nil
                      replace H := H.all
                      refine Runs.whether (v := y3) rfl ?_ ?_ <;> intro hc11
                      · replace h := cond_T hc11 h
                        apply Runs.then
                        refine Runs.regionH 1 rfl H ?_; intro b14 σ H
                        refine Ops.assign (v := (.v (.bool false))) rfl rfl ?_
                        apply Ops.nil
                        replace H := H.all
                        apply Runs.ret
                        replace h := Option.some.inj h; subst h
                        exact ⟨nofun, (.inr ⟨_, rfl, rfl, (Ends.H (xs := [(.v (.bool false))]) (.inr rfl) H (.tmp (v := (.v (.bool false))) rfl .nil) (.one (.c (.v _))))⟩)⟩
                      · replace h := cond_F hc11 h
                        apply Runs.skip
                        refine Runs.regionH 2 rfl H ?_; intro b15 σ H
                        refine Ops.int (m := s2) (m' := 1) (r := .int .i64 (w64 (s2 + 1))) rfl rfl rfl rfl rfl ?_
                        refine Ops.move (v := (.v (.int .i64 (w64 (s2 + 1))))) rfl rfl ?_
                        apply Ops.nil
                        replace H := H.all
                        replace h := Option.some.inj h; subst h
                        exact ⟨rfl, ⟨rfl, rfl, rfl, rfl, trivial⟩, H⟩
                · replace h := cond_F hc7 h
                  apply Runs.exit
                  replace h := Option.some.inj h; subst h
                  exact ⟨nofun, (.inl ⟨_, rfl, rfl, trivial, (H.erase 0)⟩)⟩
              · rintro x e σ (⟨a4, rfl, rfl, he, H⟩ | ⟨r', rfl, rfl, hE⟩)
                · skip
                  replace h := jgo h
                  obtain ⟨e, rfl⟩ := he.ex
                  apply Runs.then
                  refine Runs.regionH 1 rfl H ?_; intro b16 σ H
                  refine Ops.assign (v := (.v (.bool true))) rfl rfl ?_
                  apply Ops.nil
                  replace H := H.all
                  apply Runs.ret
                  replace h := Option.some.inj h; subst h
                  exact (Ends.H (xs := [(.v (.bool true))]) (.inr rfl) H (.tmp (v := (.v (.bool true))) rfl .nil) (.one (.c (.v _))))
                · skip
                  replace h := jret h
                  replace h := Option.some.inj h; subst h
                  exact hE
            · skip
              replace h := jret h
              replace h := Option.some.inj h; subst h
              exact hE

set_option maxRecDepth 100000 in
set_option maxHeartbeats 4000000 in
theorem gran_turns_fn {f : Form} {r : Bool} (h : gran_turns f = some r) : Fn CX 57 [(.agg (vs (Form.cs f)))] (.v (.bool r)) := by
  refine Fn.ends Try.func57 rfl rfl rfl rfl rfl rfl ?_
  have H : Hs (⟨0, fun _ => .none⟩ : Heap) [] := Has.nil (Nat.le_refl _)
  generalize (⟨0, fun _ => .none⟩ : Heap) = σ at H ⊢
  unfold gran_turns at h
  apply Runs.then
  refine Runs.regionH 2 rfl H ?_; intro b1 σ H
  refine Ops.boxH (v := (.agg [(.v (.int .i64 f.Period)), (.v (.int .i64 f.Count)), (.v (.sl (f.Core.map (cL Span.cs)))), (.v (.sl (f.Odd.map Granule.cs)))])) (cs := [(.v (.int .i64 f.Period)), (.v (.int .i64 f.Count)), (.v (.sl (f.Core.map (cL Span.cs)))), (.v (.sl (f.Odd.map Granule.cs)))]) H (by omega) (by omega) rfl rfl rfl ?_; intro σ H
  refine Ops.assign (v := (.v (.bool false))) rfl rfl ?_
  apply Ops.nil
  replace H := H.all
  apply Runs.then
  refine Runs.regionH 1 rfl H ?_; intro b2 σ H
  refine Ops.assign (v := .nils) rfl rfl ?_
  apply Ops.nil
  replace H := H.all
  apply Runs.then
  apply Runs.then
  refine Runs.regionH 4 rfl H ?_; intro b3 σ H
  refine Ops.fieldAddrH (off := 0) (fo := 2) H 0 rfl rfl rfl rfl rfl nofun rfl ?_
  refine Ops.loadH (off := 2) (v := (.v (.sl (f.Core.map (cL Span.cs))))) H 0 rfl rfl rfl rfl rfl nofun rfl ?_
  refine Ops.lenPt (c := (cL Span.cs)) (xs := f.Core) rfl rfl rfl ?_
  refine Ops.move (v := (.v (.int .i64 0))) rfl rfl ?_
  apply Ops.nil
  replace H := H.all
  apply Runs.inBlock
  replace H := H.pushNil 31 1 true
  obtain ⟨y1, hj1, h⟩ := bind_some h
  obtain ⟨n1, hj1⟩ := loopO_iff.1 hj1
  refine Runs.mono (Runs.loopO hj1 (fun s2 e σ => ∃ (w3 : PV), EnvHas e [(1, (.ptr (b1 + 0) 4 0)), (3, w3), (11, (.v (.sl (f.Core.map (cL Span.cs))))), (12, (.v (.int .i64 (f.Core.length : Int)))), (13, (.v (.int .i64 s2.1)))] ∧ Hs σ [.sl w3 31 1 (s2.2.map (cL Span.cs)) true, .blk (b1 + 0) 25 [(.v (.int .i64 f.Period)), (.v (.int .i64 f.Count)), (.v (.sl (f.Core.map (cL Span.cs)))), (.v (.sl (f.Odd.map Granule.cs)))]]) (fun y1 x e σ => ∃ (w4 : PV), x = .exit 0 ∧ EnvHas e [(1, (.ptr (b1 + 0) 4 0)), (3, w4)] ∧ Hs σ [.sl w4 31 1 (y1.map (cL Span.cs)) true, .blk (b1 + 0) 25 [(.v (.int .i64 f.Period)), (.v (.int .i64 f.Count)), (.v (.sl (f.Core.map (cL Span.cs)))), (.v (.sl (f.Odd.map Granule.cs)))]]) ⟨.nils, ⟨rfl, rfl, rfl, rfl, rfl, trivial⟩, H⟩ ?_) ?_
  · intro s2 e σ hI z h
    obtain ⟨w3, he, H⟩ := hI
    obtain ⟨e, rfl⟩ := he.ex
    unfold gran_turns.s0 at h
    apply Runs.then
    refine Runs.regionH 1 rfl H ?_; intro b4 σ H
    refine Ops.int (m := s2.1) (m' := (f.Core.length : Int)) (r := .bool (decide (s2.1 < (f.Core.length : Int)))) rfl rfl rfl rfl rfl ?_
    apply Ops.nil
    replace H := H.all
    apply Runs.then
    refine Runs.whether (v := (decide (s2.1 < (f.Core.length : Int)))) rfl ?_ ?_ <;> intro hc1
    · replace h := cond_T hc1 h
      apply Runs.skip
      apply Runs.then
      obtain ⟨y2, hj2, h⟩ := bind_some h
      refine Runs.mono (Q := fun x e σ => ∃ (w5 : PV), x = .normal ∧ EnvHas e [(1, (.ptr (b1 + 0) 4 0)), (3, w5), (11, (.v (.sl (f.Core.map (cL Span.cs))))), (12, (.v (.int .i64 (f.Core.length : Int)))), (13, (.v (.int .i64 s2.1)))] ∧ Hs σ [.sl w5 31 1 (y2.map (cL Span.cs)) true, .blk (b1 + 0) 25 [(.v (.int .i64 f.Period)), (.v (.int .i64 f.Count)), (.v (.sl (f.Core.map (cL Span.cs)))), (.v (.sl (f.Odd.map Granule.cs)))]]) ?_ ?_
      · replace h := hj2
        apply Runs.inBlock
        obtain ⟨y3, hj3, h⟩ := bind_some h
        refine Runs.mono (Q := fun x e σ => ∃ (w6 : PV), x = .normal ∧ EnvHas e [(1, (.ptr (b1 + 0) 4 0)), (3, w6), (11, (.v (.sl (f.Core.map (cL Span.cs))))), (12, (.v (.int .i64 (f.Core.length : Int)))), (13, (.v (.int .i64 s2.1)))] ∧ Hs σ [.sl w6 31 1 (y3.map (cL Span.cs)) true, .blk (b1 + 0) 25 [(.v (.int .i64 f.Period)), (.v (.int .i64 f.Count)), (.v (.sl (f.Core.map (cL Span.cs)))), (.v (.sl (f.Odd.map Granule.cs)))]]) ?_ ?_
        · replace h := hj3
          apply Runs.then
          refine Runs.regionH 3 rfl H ?_; intro b5 σ H
          obtain ⟨x1, q1, h⟩ := bind_some h
          refine Ops.indexP (c := (cL Span.cs)) (u := x1) rfl rfl q1 rfl rfl rfl rfl ?_
          refine Ops.loadP (u := (.sl (x1.map Span.cs))) rfl rfl rfl rfl ?_
          refine Ops.assign (v := (.v (.sl (x1.map Span.cs)))) rfl rfl ?_
          apply Ops.nil
          replace H := H.all
          apply Runs.then
          refine Runs.regionH 3 rfl H ?_; intro b6 σ H
          refine Ops.move (v := (.v (.sl (x1.map Span.cs)))) rfl rfl ?_
          refine Ops.lenPt (c := Span.cs) (xs := x1) rfl rfl rfl ?_
          refine Ops.int (m := (x1.length : Int)) (m' := 0) (r := .bool (decide ((x1.length : Int) > 0))) rfl rfl rfl rfl rfl ?_
          apply Ops.nil
          replace H := H.all
          refine Runs.whether (v := (decide ((x1.length : Int) > 0))) rfl ?_ ?_ <;> intro hc2
          · replace h := cond_T hc2 h
            refine Runs.regionH 5 rfl H ?_; intro b7 σ H
            refine Ops.move (v := w3) rfl rfl ?_
            refine Ops.move (v := (.v (.sl (x1.map Span.cs)))) rfl rfl ?_
            refine Ops.buildS (sz := 1) ([x1].map (cL Span.cs)) H (by omega) (by omega) rfl rfl rfl rfl rfl rfl rfl rfl rfl ?_; intro σ H
            obtain ⟨x2, q2, h⟩ := bind_some h
            refine Ops.appendSt (c := (cL Span.cs)) (v := w3) (w := (.buf (b7 + 2) 1 1)) (xs := s2.2) (ys := [x1]) H (by omega) (by omega) 1 rfl rfl rfl (.s 0 rfl) q2 rfl rfl rfl rfl rfl nofun rfl ?_; intro w7 σ H
            refine Ops.assign (v := w7) rfl rfl ?_
            apply Ops.nil
            replace H := H.all
            replace h := Option.some.inj h; subst h
            exact ⟨w7, rfl, ⟨rfl, rfl, rfl, rfl, rfl, trivial⟩, (H.erase 0)⟩
          · replace h := cond_F hc2 h
            apply Runs.skip
            replace h := Option.some.inj h; subst h
            exact ⟨w3, rfl, ⟨rfl, rfl, rfl, rfl, rfl, trivial⟩, H⟩
        · rintro x e σ ⟨w8, rfl, he, H⟩
          obtain ⟨e, rfl⟩ := he.ex
          replace h := Option.some.inj h; subst h
          exact ⟨w8, rfl, ⟨rfl, rfl, rfl, rfl, rfl, trivial⟩, H⟩
      · rintro x e σ ⟨w9, rfl, he, H⟩
        obtain ⟨e, rfl⟩ := he.ex
        refine Runs.regionH 2 rfl H ?_; intro b8 σ H
        refine Ops.int (m := s2.1) (m' := 1) (r := .int .i64 (w64 (s2.1 + 1))) rfl rfl rfl rfl rfl ?_
        refine Ops.move (v := (.v (.int .i64 (w64 (s2.1 + 1))))) rfl rfl ?_
        apply Ops.nil
        replace H := H.all
        replace h := Option.some.inj h; subst h
        exact ⟨rfl, w9, ⟨rfl, rfl, rfl, rfl, rfl, trivial⟩, H⟩
    · replace h := cond_F hc1 h
      apply Runs.exit
      replace h := Option.some.inj h; subst h
      exact ⟨nofun, ⟨w3, rfl, ⟨rfl, rfl, trivial⟩, H⟩⟩
  · rintro x e σ ⟨w10, rfl, he, H⟩
    obtain ⟨e, rfl⟩ := he.ex
    apply Runs.then
    apply Runs.then
    refine Runs.regionH 3 rfl H ?_; intro b9 σ H
    refine Ops.move (v := w10) rfl rfl ?_
    refine Ops.lenSt (c := (cL Span.cs)) (xs := y1) H 0 rfl rfl rfl nofun rfl ?_
    refine Ops.move (v := (.v (.int .i64 0))) rfl rfl ?_
    apply Ops.nil
    replace H := H.all
    apply Runs.inBlock
    obtain ⟨y4, hj4, h⟩ := bind_some h
    obtain ⟨n2, hj4⟩ := loopO_iff.1 hj4
    refine Runs.mono (Runs.loopO hj4 (fun s3 e σ => EnvHas e [(1, (.ptr (b1 + 0) 4 0)), (3, w10), (25, w10), (26, (.v (.int .i64 (y1.length : Int)))), (27, (.v (.int .i64 s3)))] ∧ Hs σ [.sl w10 31 1 (y1.map (cL Span.cs)) true, .blk (b1 + 0) 25 [(.v (.int .i64 f.Period)), (.v (.int .i64 f.Count)), (.v (.sl (f.Core.map (cL Span.cs)))), (.v (.sl (f.Odd.map Granule.cs)))]]) (fun y4 x e σ => (∃ a1, y4 = (.go a1) ∧ x = .exit 2 ∧ EnvHas e [] ∧ Hs σ []) ∨ (∃ r', y4 = (.ret r') ∧ x = .ret ∧ Ends CX Try.f57.results.toList (.v (.bool r')) x e σ)) ⟨⟨rfl, rfl, rfl, rfl, rfl, trivial⟩, H⟩ ?_) ?_
    · intro s3 e σ hI z h
      obtain ⟨he, H⟩ := hI
      obtain ⟨e, rfl⟩ := he.ex
      unfold gran_turns.s1 at h
      apply Runs.then
      refine Runs.regionH 1 rfl H ?_; intro b10 σ H
      refine Ops.int (m := s3) (m' := (y1.length : Int)) (r := .bool (decide (s3 < (y1.length : Int)))) rfl rfl rfl rfl rfl ?_
      apply Ops.nil
      replace H := H.all
      apply Runs.then
      refine Runs.whether (v := (decide (s3 < (y1.length : Int)))) rfl ?_ ?_ <;> intro hc3
      · replace h := cond_T hc3 h
        apply Runs.skip
        apply Runs.then
        obtain ⟨y5, hj5, h⟩ := bind_some h
        refine Runs.mono (Q := fun x e σ => (∃ a2, y5 = (.go a2) ∧ x = .normal ∧ EnvHas e [(1, (.ptr (b1 + 0) 4 0)), (3, w10), (25, w10), (26, (.v (.int .i64 (y1.length : Int)))), (27, (.v (.int .i64 s3)))] ∧ Hs σ [.sl w10 31 1 (y1.map (cL Span.cs)) true, .blk (b1 + 0) 25 [(.v (.int .i64 f.Period)), (.v (.int .i64 f.Count)), (.v (.sl (f.Core.map (cL Span.cs)))), (.v (.sl (f.Odd.map Granule.cs)))]]) ∨ (∃ r', y5 = (.ret r') ∧ x = .ret ∧ Ends CX Try.f57.results.toList (.v (.bool r')) x e σ)) ?_ ?_
        · replace h := hj5
          apply Runs.inBlock
          obtain ⟨y6, hj6, h⟩ := bind_some h
          refine Runs.mono (Q := fun x e σ => (∃ a3, y6 = (.go a3) ∧ x = .normal ∧ EnvHas e [(1, (.ptr (b1 + 0) 4 0)), (3, w10), (25, w10), (26, (.v (.int .i64 (y1.length : Int)))), (27, (.v (.int .i64 s3)))] ∧ Hs σ [.sl w10 31 1 (y1.map (cL Span.cs)) true, .blk (b1 + 0) 25 [(.v (.int .i64 f.Period)), (.v (.int .i64 f.Count)), (.v (.sl (f.Core.map (cL Span.cs)))), (.v (.sl (f.Odd.map Granule.cs)))]]) ∨ (∃ r', y6 = (.ret r') ∧ x = .ret ∧ Ends CX Try.f57.results.toList (.v (.bool r')) x e σ)) ?_ ?_
          · replace h := hj6
            apply Runs.then
            refine Runs.regionH 5 rfl H ?_; intro b11 σ H
            refine Ops.move (v := (.v (.int .i64 s3))) rfl rfl ?_
            obtain ⟨x3, q3, h⟩ := bind_some h
            refine Ops.indexS H 0 rfl rfl rfl (at?_map q3) rfl rfl nofun rfl ?_; intro id1 hv1
            refine Ops.loadS (id := id1) (j := 0) (w := (.sl (x3.map Span.cs))) H 0 rfl hv1 (by simp) (at?_map q3) rfl (by simp) rfl rfl rfl nofun rfl ?_
            refine Ops.assign (v := (.v (.int .i64 s3))) rfl rfl ?_
            refine Ops.assign (v := (.v (.sl (x3.map Span.cs)))) rfl rfl ?_
            apply Ops.nil
            replace H := H.all
            apply Runs.then
            refine Runs.regionH 10 rfl H ?_; intro b12 σ H
            refine Ops.move (v := w10) rfl rfl ?_
            refine Ops.move (v := (.v (.int .i64 s3))) rfl rfl ?_
            refine Ops.int (m := s3) (m' := 1) (r := .int .i64 (w64 (s3 + 1))) rfl rfl rfl rfl rfl ?_
            refine Ops.move (v := w10) rfl rfl ?_
            refine Ops.lenSt (c := (cL Span.cs)) (xs := y1) H 0 rfl rfl rfl nofun rfl ?_
            obtain ⟨u1, q4, h⟩ := bind_some h
            refine Ops.rem (m := (w64 (s3 + 1))) (m' := (y1.length : Int)) rfl rfl (nz_ne q4) rfl ?_
            obtain ⟨x4, q5, h⟩ := bind_some h
            refine Ops.indexS H 0 rfl rfl rfl (at?_map q5) rfl rfl nofun rfl ?_; intro id2 hv2
            refine Ops.loadS (id := id2) (j := 0) (w := (.sl (x4.map Span.cs))) H 0 rfl hv2 (by simp) (at?_map q5) rfl (by simp) rfl rfl rfl nofun rfl ?_
            refine Ops.assign (v := (.v (.sl (x4.map Span.cs)))) rfl rfl ?_
            refine Ops.assign (v := (.v (.int .i64 0))) rfl rfl ?_
            apply Ops.nil
            replace H := H.all
            apply Runs.then
            obtain ⟨y7, hj7, h⟩ := bind_some h
            refine Runs.mono (Q := fun x e σ => x = .normal ∧ EnvHas e [(1, (.ptr (b1 + 0) 4 0)), (3, w10), (7, (.v (.sl (x3.map Span.cs)))), (8, (.v (.sl (x4.map Span.cs)))), (9, (.v (.int .i64 y7))), (25, w10), (26, (.v (.int .i64 (y1.length : Int)))), (27, (.v (.int .i64 s3)))] ∧ Hs σ [.sl w10 31 1 (y1.map (cL Span.cs)) true, .blk (b1 + 0) 25 [(.v (.int .i64 f.Period)), (.v (.int .i64 f.Count)), (.v (.sl (f.Core.map (cL Span.cs)))), (.v (.sl (f.Odd.map Granule.cs)))]]) ?_ ?_
            · replace h := hj7
              apply Runs.then
              refine Runs.regionH 5 rfl H ?_; intro b13 σ H
              refine Ops.move (v := (.v (.int .i64 s3))) rfl rfl ?_
              refine Ops.int (m := s3) (m' := 1) (r := .int .i64 (w64 (s3 + 1))) rfl rfl rfl rfl rfl ?_
              refine Ops.move (v := w10) rfl rfl ?_
              refine Ops.lenSt (c := (cL Span.cs)) (xs := y1) H 0 rfl rfl rfl nofun rfl ?_
              refine Ops.int (m := (w64 (s3 + 1))) (m' := (y1.length : Int)) (r := .bool ((w64 (s3 + 1)) == (y1.length : Int))) rfl rfl rfl rfl rfl ?_
              apply Ops.nil
              replace H := H.all
              refine Runs.whether (v := ((w64 (s3 + 1)) == (y1.length : Int))) rfl ?_ ?_ <;> intro hc4
              · replace h := cond_T hc4 h
                refine Runs.regionH 3 rfl H ?_; intro b14 σ H
                refine Ops.fieldAddrH (off := 0) (fo := 0) H 1 rfl rfl rfl rfl rfl nofun rfl ?_
                refine Ops.loadH (off := 0) (v := (.v (.int .i64 f.Period))) H 1 rfl rfl rfl rfl rfl nofun rfl ?_
                refine Ops.assign (v := (.v (.int .i64 f.Period))) rfl rfl ?_
                apply Ops.nil
                replace H := H.all
                replace h := Option.some.inj h; subst h
                exact ⟨rfl, ⟨rfl, rfl, rfl, rfl, rfl, rfl, rfl, rfl, trivial⟩, H⟩
              · replace h := cond_F hc4 h
                apply Runs.skip
                replace h := Option.some.inj h; subst h
                exact ⟨rfl, ⟨rfl, rfl, rfl, rfl, rfl, rfl, rfl, rfl, trivial⟩, H⟩
            · rintro x e σ ⟨rfl, he, H⟩
              obtain ⟨e, rfl⟩ := he.ex
              apply Runs.then
              refine Runs.drawnH 14 rfl (by kernel_rfl) H ?_; intro b15 σ H B15
              refine Ops.move (v := (.v (.sl (x3.map Span.cs)))) rfl rfl ?_
              refine Ops.move (v := (.v (.sl (x3.map Span.cs)))) rfl rfl ?_
              refine Ops.lenPt (c := Span.cs) (xs := x3) rfl rfl rfl ?_
              refine Ops.int (m := (x3.length : Int)) (m' := 1) (r := .int .i64 (w64 ((x3.length : Int) - 1))) rfl rfl rfl rfl rfl ?_
              obtain ⟨x5, q6, h⟩ := bind_some h
              refine Ops.indexP (c := Span.cs) (u := x5) rfl rfl q6 rfl rfl rfl rfl ?_
              refine Ops.fieldAddrP rfl rfl rfl rfl ?_
              refine Ops.loadP (u := (.int .i64 x5.To)) rfl rfl rfl rfl ?_
              refine Ops.move (v := (.v (.sl (x4.map Span.cs)))) rfl rfl ?_
              obtain ⟨x6, q7, h⟩ := bind_some h
              refine Ops.indexP (c := Span.cs) (u := x6) rfl rfl q7 rfl rfl rfl rfl ?_
              refine Ops.fieldAddrP rfl rfl rfl rfl ?_
              refine Ops.loadP (u := (.int .i64 x6.From)) rfl rfl rfl rfl ?_
              refine Ops.move (v := (.v (.int .i64 y7))) rfl rfl ?_
              refine Ops.int (m := x6.From) (m' := y7) (r := .int .i64 (w64 (x6.From + y7))) rfl rfl rfl rfl rfl ?_
              refine Ops.int (m := x5.To) (m' := (w64 (x6.From + y7))) (r := .bool (decide (x5.To ≥ (w64 (x6.From + y7))))) rfl rfl rfl rfl rfl ?_
              apply Ops.nil
              replace H := H.all
              refine Runs.whether (v := (decide (x5.To ≥ (w64 (x6.From + y7))))) rfl ?_ ?_ <;> intro hc5
              · replace h := cond_T hc5 h
                apply Runs.then
                refine Runs.regionH 1 rfl H ?_; intro b16 σ H
                refine Ops.assign (v := (.v (.bool false))) rfl rfl ?_
                apply Ops.nil
                replace H := H.all
                apply Runs.ret
                replace h := Option.some.inj h; subst h
                exact (.inr ⟨_, rfl, rfl, (Ends.H (xs := [(.v (.bool false))]) (.inr rfl) H (.tmp (v := (.v (.bool false))) rfl .nil) (.one (.c (.v _))))⟩)
              · replace h := cond_F hc5 h
                apply Runs.skip
                replace h := Option.some.inj h; subst h
                exact (.inl ⟨_, rfl, rfl, ⟨rfl, rfl, rfl, rfl, rfl, trivial⟩, H⟩)
          · rintro x e σ (⟨a4, rfl, rfl, he, H⟩ | ⟨r', rfl, rfl, hE⟩)
            · skip
              replace h := jgo h
              obtain ⟨e, rfl⟩ := he.ex
              replace h := Option.some.inj h; subst h
              exact (.inl ⟨_, rfl, rfl, ⟨rfl, rfl, rfl, rfl, rfl, trivial⟩, H⟩)
            · skip
              replace h := jret h
              replace h := Option.some.inj h; subst h
              exact (.inr ⟨_, rfl, rfl, hE⟩)
        · rintro x e σ (⟨a5, rfl, rfl, he, H⟩ | ⟨r', rfl, rfl, hE⟩)
          · skip
            replace h := jgo h
            obtain ⟨e, rfl⟩ := he.ex
            refine Runs.regionH 2 rfl H ?_; intro b17 σ H
            refine Ops.int (m := s3) (m' := 1) (r := .int .i64 (w64 (s3 + 1))) rfl rfl rfl rfl rfl ?_
            refine Ops.move (v := (.v (.int .i64 (w64 (s3 + 1))))) rfl rfl ?_
            apply Ops.nil
            replace H := H.all
            replace h := Option.some.inj h; subst h
            exact ⟨rfl, ⟨rfl, rfl, rfl, rfl, rfl, trivial⟩, H⟩
          · skip
            replace h := jret h
            replace h := Option.some.inj h; subst h
            exact ⟨nofun, (.inr ⟨_, rfl, rfl, hE⟩)⟩
      · replace h := cond_F hc3 h
        apply Runs.exit
        replace h := Option.some.inj h; subst h
        exact ⟨nofun, (.inl ⟨_, rfl, rfl, trivial, ((H.erase 1).erase 0)⟩)⟩
    · rintro x e σ (⟨a6, rfl, rfl, he, H⟩ | ⟨r', rfl, rfl, hE⟩)
      · skip
        replace h := jgo h
        obtain ⟨e, rfl⟩ := he.ex
        apply Runs.then
        refine Runs.regionH 1 rfl H ?_; intro b18 σ H
        refine Ops.assign (v := (.v (.bool true))) rfl rfl ?_
        apply Ops.nil
        replace H := H.all
        apply Runs.ret
        replace h := Option.some.inj h; subst h
        exact (Ends.H (xs := [(.v (.bool true))]) (.inr rfl) H (.tmp (v := (.v (.bool true))) rfl .nil) (.one (.c (.v _))))
      · skip
        replace h := jret h
        replace h := Option.some.inj h; subst h
        exact hE

set_option maxRecDepth 100000 in
set_option maxHeartbeats 4000000 in
theorem slices_BinarySearchFunc_SGranule_Granule_int_fn {x' : (List Granule)} {target : Int} {cmp : Granule → Int → Option Int} {C : List Res} {cv0 : PV} (hs0 : cv0.still = true) (hp0 : cv0.pure = true → C = []) (hf0 : ∀ z0 z1 y, cmp z0 z1 = some y → CloH CX cv0 [(.agg (vs (Granule.cs z0))), (.v (.int .i64 z1))] (.v (.int .i64 y)) C) {r : Int × Bool} (h : slices_BinarySearchFunc_SGranule_Granule_int x' target cmp = some r) : FnH CX 73 [(.v (.sl (x'.map Granule.cs))), (.v (.int .i64 target)), cv0] (.tup [(.v (.int .i64 r.1)), (.v (.bool r.2))]) C := by
  refine FnH.of Try.func73 rfl rfl rfl rfl (all_t rfl (all_t rfl (all_t hs0 all_nil))) rfl (fun h => hp0 (all_get h 2 rfl)) ?_
  intro σ L hC H
  unfold slices_BinarySearchFunc_SGranule_Granule_int at h
  apply Runs.then
  refine Runs.regionH 2 rfl H ?_; intro b1 σ H
  refine Ops.assign (v := (.v (.int .i64 0))) rfl rfl ?_
  refine Ops.assign (v := (.v (.bool false))) rfl rfl ?_
  apply Ops.nil
  replace H := H.all
  apply Runs.then
  refine Runs.regionH 3 rfl H ?_; intro b2 σ H
  refine Ops.move (v := (.v (.sl (x'.map Granule.cs)))) rfl rfl ?_
  refine Ops.lenPt (c := Granule.cs) (xs := x') rfl rfl rfl ?_
  refine Ops.assign (v := (.v (.int .i64 (x'.length : Int)))) rfl rfl ?_
  apply Ops.nil
  replace H := H.all
  apply Runs.then
  refine Runs.regionH 3 rfl H ?_; intro b3 σ H
  refine Ops.move (v := (.v (.int .i64 (x'.length : Int)))) rfl rfl ?_
  refine Ops.assign (v := (.v (.int .i64 0))) rfl rfl ?_
  refine Ops.assign (v := (.v (.int .i64 (x'.length : Int)))) rfl rfl ?_
  apply Ops.nil
  replace H := H.all
  apply Runs.then
  apply Runs.inBlock
  obtain ⟨y1, hj1, h⟩ := bind_some h
  obtain ⟨n1, hj1⟩ := loopO_iff.1 hj1
  refine Runs.mono (Runs.loopO hj1 (fun s1 e σ => EnvHas e [(0, (.v (.sl (x'.map Granule.cs)))), (1, (.v (.int .i64 target))), (2, cv0), (8, (.v (.int .i64 (x'.length : Int)))), (9, (.v (.int .i64 s1.1))), (10, (.v (.int .i64 s1.2)))] ∧ Hs σ (L)) (fun y1 x e σ => x = .exit 0 ∧ EnvHas e [(0, (.v (.sl (x'.map Granule.cs)))), (1, (.v (.int .i64 target))), (2, cv0), (8, (.v (.int .i64 (x'.length : Int)))), (9, (.v (.int .i64 y1)))] ∧ Hs σ (L)) ⟨⟨rfl, rfl, rfl, rfl, rfl, rfl, trivial⟩, H⟩ ?_) ?_
  · intro s1 e σ hI z h
    obtain ⟨he, H⟩ := hI
    obtain ⟨e, rfl⟩ := he.ex
    unfold slices_BinarySearchFunc_SGranule_Granule_int.s0 at h
    apply Runs.then
    apply Runs.then
    refine Runs.regionH 3 rfl H ?_; intro b4 σ H
    refine Ops.move (v := (.v (.int .i64 s1.1))) rfl rfl ?_
    refine Ops.move (v := (.v (.int .i64 s1.2))) rfl rfl ?_
    refine Ops.int (m := s1.1) (m' := s1.2) (r := .bool (decide (s1.1 < s1.2))) rfl rfl rfl rfl rfl ?_
    apply Ops.nil
    replace H := H.all
    refine Runs.whether (v := (decide (s1.1 < s1.2))) rfl ?_ ?_ <;> intro hc1
    · replace h := cond_T hc1 h
      apply Runs.skip
      apply Runs.inBlock
      obtain ⟨y2, hj2, h⟩ := bind_some h
      refine Runs.mono (Q := fun x e σ => x = .normal ∧ EnvHas e [(0, (.v (.sl (x'.map Granule.cs)))), (1, (.v (.int .i64 target))), (2, cv0), (8, (.v (.int .i64 (x'.length : Int)))), (9, (.v (.int .i64 y2.1))), (10, (.v (.int .i64 y2.2)))] ∧ Hs σ (L)) ?_ ?_
      · replace h := hj2
        apply Runs.then
        refine Runs.regionH 7 rfl H ?_; intro b5 σ H
        refine Ops.move (v := (.v (.int .i64 s1.1))) rfl rfl ?_
        refine Ops.move (v := (.v (.int .i64 s1.2))) rfl rfl ?_
        refine Ops.int (m := s1.1) (m' := s1.2) (r := .int .i64 (w64 (s1.1 + s1.2))) rfl rfl rfl rfl rfl ?_
        refine Ops.conv (m := (w64 (s1.1 + s1.2))) rfl rfl rfl rfl ?_
        refine Ops.shr (m := (IntKind.u64.wrap (w64 (s1.1 + s1.2)))) (m' := 1) rfl rfl (by decide) rfl ?_
        refine Ops.conv (m := ((IntKind.u64.wrap (w64 (s1.1 + s1.2))).fdiv (2 ^ 1))) rfl rfl rfl rfl ?_
        refine Ops.assign (v := (.v (.int .i64 (w64 ((IntKind.u64.wrap (w64 (s1.1 + s1.2))).fdiv (2 ^ 1)))))) rfl rfl ?_
        apply Ops.nil
        replace H := H.all
        apply Runs.then
        refine Runs.regionH 8 rfl H ?_; intro b6 σ H
        refine Ops.move (v := cv0) rfl rfl ?_
        refine Ops.move (v := (.v (.sl (x'.map Granule.cs)))) rfl rfl ?_
        refine Ops.move (v := (.v (.int .i64 (w64 ((IntKind.u64.wrap (w64 (s1.1 + s1.2))).fdiv (2 ^ 1)))))) rfl rfl ?_
        obtain ⟨x1, q1, h⟩ := bind_some h
        refine Ops.indexP (c := Granule.cs) (u := x1) rfl rfl q1 rfl rfl rfl rfl ?_
        refine Ops.loadPA (cs := [(.int .i64 x1.Index), (.sl (x1.Ticks.map Span.cs))]) rfl rfl rfl rfl rfl rfl ?_
        refine Ops.move (v := (.v (.int .i64 target))) rfl rfl ?_
        obtain ⟨x2, q2, h⟩ := bind_some h
        refine Ops.callV (cv := cv0) (ys := [(.agg (vs (Granule.cs x1))), (.v (.int .i64 target))]) (r := (.v (.int .i64 x2))) H rfl rfl (hf0 x1 target _ q2) hC nofun rfl ?_; intro σ H
        refine Ops.int (m := x2) (m' := 0) (r := .bool (decide (x2 < 0))) rfl rfl rfl rfl rfl ?_
        apply Ops.nil
        replace H := H.all
        refine Runs.whether (v := (decide (x2 < 0))) rfl ?_ ?_ <;> intro hc2
        · replace h := cond_T hc2 h
          refine Runs.regionH 3 rfl H ?_; intro b7 σ H
          refine Ops.move (v := (.v (.int .i64 (w64 ((IntKind.u64.wrap (w64 (s1.1 + s1.2))).fdiv (2 ^ 1)))))) rfl rfl ?_
          refine Ops.int (m := (w64 ((IntKind.u64.wrap (w64 (s1.1 + s1.2))).fdiv (2 ^ 1)))) (m' := 1) (r := .int .i64 (w64 ((w64 ((IntKind.u64.wrap (w64 (s1.1 + s1.2))).fdiv (2 ^ 1))) + 1))) rfl rfl rfl rfl rfl ?_
          refine Ops.assign (v := (.v (.int .i64 (w64 ((w64 ((IntKind.u64.wrap (w64 (s1.1 + s1.2))).fdiv (2 ^ 1))) + 1))))) rfl rfl ?_
          apply Ops.nil
          replace H := H.all
          replace h := Option.some.inj h; subst h
          exact ⟨rfl, ⟨rfl, rfl, rfl, rfl, rfl, rfl, trivial⟩, H⟩
        · replace h := cond_F hc2 h
          refine Runs.regionH 2 rfl H ?_; intro b8 σ H
          refine Ops.move (v := (.v (.int .i64 (w64 ((IntKind.u64.wrap (w64 (s1.1 + s1.2))).fdiv (2 ^ 1)))))) rfl rfl ?_
          refine Ops.assign (v := (.v (.int .i64 (w64 ((IntKind.u64.wrap (w64 (s1.1 + s1.2))).fdiv (2 ^ 1)))))) rfl rfl ?_
          apply Ops.nil
          replace H := H.all
          replace h := Option.some.inj h; subst h
          exact ⟨rfl, ⟨rfl, rfl, rfl, rfl, rfl, rfl, trivial⟩, H⟩
      · rintro x e σ ⟨rfl, he, H⟩
        obtain ⟨e, rfl⟩ := he.ex
        replace h := Option.some.inj h; subst h
        exact ⟨rfl, ⟨rfl, rfl, rfl, rfl, rfl, rfl, trivial⟩, H⟩
    · replace h := cond_F hc1 h
      apply Runs.exit
      replace h := Option.some.inj h; subst h
      exact ⟨nofun, ⟨rfl, ⟨rfl, rfl, rfl, rfl, rfl, trivial⟩, H⟩⟩
  · rintro x e σ ⟨rfl, he, H⟩
    obtain ⟨e, rfl⟩ := he.ex
    apply Runs.then
    refine Runs.regionH 16 rfl H ?_; intro b9 σ H
    refine Ops.move (v := (.v (.int .i64 y1))) rfl rfl ?_
    refine Ops.move (v := (.v (.int .i64 y1))) rfl rfl ?_
    refine Ops.move (v := (.v (.int .i64 (x'.length : Int)))) rfl rfl ?_
    refine Ops.int (m := y1) (m' := (x'.length : Int)) (r := .bool (decide (y1 < (x'.length : Int)))) rfl rfl rfl rfl rfl ?_
    refine Ops.move (v := (.v (.bool (decide (y1 < (x'.length : Int)))))) rfl rfl ?_
    obtain ⟨y3, hj3, h⟩ := bind_some h
    refine Ops.mid 9 (K1 := fun e σ => EnvHas e [(48, (.v (.bool y3))), (35, (.v (.int .i64 y1)))] ∧ Has σ (b9 + 14) (b9 + 16) (L)) rfl ?_ ?_
    · refine Ops.split rfl rfl ?_ ?_ <;> intro hc3
      · replace h := cond_T hc3 hj3
        refine Ops.wanted rfl rfl ?_
        refine Ops.move (v := cv0) rfl rfl ?_
        refine Ops.wanted rfl rfl ?_
        refine Ops.move (v := (.v (.sl (x'.map Granule.cs)))) rfl rfl ?_
        refine Ops.wanted rfl rfl ?_
        refine Ops.move (v := (.v (.int .i64 y1))) rfl rfl ?_
        refine Ops.wanted rfl rfl ?_
        obtain ⟨x3, q3, h⟩ := bind_some h
        refine Ops.indexP (c := Granule.cs) (u := x3) rfl rfl q3 rfl rfl rfl rfl ?_
        refine Ops.wanted rfl rfl ?_
        refine Ops.loadPA (cs := [(.int .i64 x3.Index), (.sl (x3.Ticks.map Span.cs))]) rfl rfl rfl rfl rfl rfl ?_
        refine Ops.wanted rfl rfl ?_
        refine Ops.move (v := (.v (.int .i64 target))) rfl rfl ?_
        refine Ops.wanted rfl rfl ?_
        obtain ⟨x4, q4, h⟩ := bind_some h
        refine Ops.callV (cv := cv0) (ys := [(.agg (vs (Granule.cs x3))), (.v (.int .i64 target))]) (r := (.v (.int .i64 x4))) H rfl rfl (hf0 x3 target _ q4) hC nofun rfl ?_; intro σ H
        refine Ops.wanted rfl rfl ?_
        refine Ops.int (m := x4) (m' := 0) (r := .bool (x4 == 0)) rfl rfl rfl rfl rfl ?_
        refine Ops.pickT (v := (.v (.bool (x4 == 0)))) rfl rfl rfl ?_
        apply Ops.nil
        replace h := Option.some.inj h; subst h
        exact ⟨⟨rfl, rfl, trivial⟩, H.weak (by omega) (Nat.le_refl _)⟩
      · replace h := cond_F hc3 hj3
        refine Ops.pass rfl rfl rfl ?_
        refine Ops.pass rfl rfl rfl ?_
        refine Ops.pass rfl rfl rfl ?_
        refine Ops.pass rfl rfl rfl ?_
        refine Ops.pass rfl rfl rfl ?_
        refine Ops.pass rfl rfl rfl ?_
        refine Ops.pass rfl rfl rfl ?_
        refine Ops.pass rfl rfl rfl ?_
        refine Ops.pickF (v := (.v (.bool false))) rfl rfl rfl ?_
        apply Ops.nil
        replace h := Option.some.inj h; subst h
        exact ⟨⟨rfl, rfl, trivial⟩, H.weak (by omega) (Nat.le_refl _)⟩
    · rintro e σ ⟨he, H⟩
      obtain ⟨e, rfl⟩ := he.ex
      refine Ops.assign (v := (.v (.int .i64 y1))) rfl rfl ?_
      refine Ops.assign (v := (.v (.bool y3))) rfl rfl ?_
      apply Ops.nil
      replace H := H.all
      apply Runs.ret
      replace h := Option.some.inj h; subst h
      exact (EndsH.H (xs := [(.v (.int .i64 y1)), (.v (.bool y3))]) (.inr rfl) H (.tmp (v := (.v (.int .i64 y1))) rfl (.tmp (v := (.v (.bool y3))) rfl .nil)) (.two (.cons (.c (.v _)) (.cons (.c (.v _)) .nil))) 0 rfl)

set_option maxRecDepth 100000 in
set_option maxHeartbeats 4000000 in
theorem cmp_isNaN_int_fn {x' : Int} {r : Bool} (h : cmp_isNaN_int x' = r) : Fn CX 83 [(.v (.int .i64 x'))] (.v (.bool r)) := by
  refine Fn.ends Try.func83 rfl rfl rfl rfl rfl rfl ?_
  have H : Hs (⟨0, fun _ => .none⟩ : Heap) [] := Has.nil (Nat.le_refl _)
  generalize (⟨0, fun _ => .none⟩ : Heap) = σ at H ⊢
  unfold cmp_isNaN_int at h
  apply Runs.then
  refine Runs.regionH 1 rfl H ?_; intro b1 σ H
  refine Ops.assign (v := (.v (.bool false))) rfl rfl ?_
  apply Ops.nil
  replace H := H.all
  apply Runs.then
  refine Runs.regionH 4 rfl H ?_; intro b2 σ H
  refine Ops.move (v := (.v (.int .i64 x'))) rfl rfl ?_
  refine Ops.move (v := (.v (.int .i64 x'))) rfl rfl ?_
  refine Ops.int (m := x') (m' := x') (r := .bool (x' != x')) rfl rfl rfl rfl rfl ?_
  refine Ops.assign (v := (.v (.bool (x' != x')))) rfl rfl ?_
  apply Ops.nil
  replace H := H.all
  apply Runs.ret
  subst h
  exact (Ends.H (xs := [(.v (.bool (x' != x')))]) (.inr rfl) H (.tmp (v := (.v (.bool (x' != x')))) rfl .nil) (.one (.c (.v _))))

set_option maxRecDepth 100000 in
set_option maxHeartbeats 4000000 in
theorem cmp_Compare_int_fn {x' : Int} {y : Int} {r : Int} (h : cmp_Compare_int x' y = r) : Fn CX 75 [(.v (.int .i64 x')), (.v (.int .i64 y))] (.v (.int .i64 r)) := by
  refine Fn.ends Try.func75 rfl rfl rfl rfl rfl rfl ?_
  have H : Hs (⟨0, fun _ => .none⟩ : Heap) [] := Has.nil (Nat.le_refl _)
  generalize (⟨0, fun _ => .none⟩ : Heap) = σ at H ⊢
  unfold cmp_Compare_int at h
  apply Runs.then
  refine Runs.regionH 1 rfl H ?_; intro b1 σ H
  refine Ops.assign (v := (.v (.int .i64 0))) rfl rfl ?_
  apply Ops.nil
  replace H := H.all
  apply Runs.then
  refine Runs.regionH 3 rfl H ?_; intro b2 σ H
  refine Ops.move (v := (.v (.int .i64 x'))) rfl rfl ?_
  refine Ops.call (ys := [(.v (.int .i64 x'))]) (r := (.v (.bool (cmp_isNaN_int x')))) rfl (cmp_isNaN_int_fn rfl) rfl ?_
  refine Ops.assign (v := (.v (.bool (cmp_isNaN_int x')))) rfl rfl ?_
  apply Ops.nil
  replace H := H.all
  apply Runs.then
  refine Runs.regionH 3 rfl H ?_; intro b3 σ H
  refine Ops.move (v := (.v (.int .i64 y))) rfl rfl ?_
  refine Ops.call (ys := [(.v (.int .i64 y))]) (r := (.v (.bool (cmp_isNaN_int y)))) rfl (cmp_isNaN_int_fn rfl) rfl ?_
  refine Ops.assign (v := (.v (.bool (cmp_isNaN_int y)))) rfl rfl ?_
  apply Ops.nil
  replace H := H.all
  apply Runs.then
  apply Runs.then
  refine Runs.regionH 1 rfl H ?_; intro b4 σ H
  refine Ops.move (v := (.v (.bool (cmp_isNaN_int x')))) rfl rfl ?_
  apply Ops.nil
  replace H := H.all
  refine Runs.whether (v := (cmp_isNaN_int x')) rfl ?_ ?_ <;> intro hc1
  · replace h := cond_T hc1 h
    apply Runs.then
    apply Runs.then
    refine Runs.regionH 1 rfl H ?_; intro b5 σ H
    refine Ops.move (v := (.v (.bool (cmp_isNaN_int y)))) rfl rfl ?_
    apply Ops.nil
    replace H := H.all
    refine Runs.whether (v := (cmp_isNaN_int y)) rfl ?_ ?_ <;> intro hc2
    · replace h := cond_T hc2 h
      apply Runs.then
      refine Runs.regionH 1 rfl H ?_; intro b6 σ H
      refine Ops.assign (v := (.v (.int .i64 0))) rfl rfl ?_
      apply Ops.nil
      replace H := H.all
      apply Runs.ret
      subst h
      exact (Ends.H (xs := [(.v (.int .i64 0))]) (.inr rfl) H (.tmp (v := (.v (.int .i64 0))) rfl .nil) (.one (.c (.v _))))
    · replace h := cond_F hc2 h
      apply Runs.skip
      apply Runs.then
      refine Runs.regionH 1 rfl H ?_; intro b7 σ H
      refine Ops.assign (v := (.v (.int .i64 (-1)))) rfl rfl ?_
      apply Ops.nil
      replace H := H.all
      apply Runs.ret
      subst h
      exact (Ends.H (xs := [(.v (.int .i64 (-1)))]) (.inr rfl) H (.tmp (v := (.v (.int .i64 (-1)))) rfl .nil) (.one (.c (.v _))))
  · replace h := cond_F hc1 h
    apply Runs.skip
    apply Runs.then
    apply Runs.then
    refine Runs.regionH 1 rfl H ?_; intro b8 σ H
    refine Ops.move (v := (.v (.bool (cmp_isNaN_int y)))) rfl rfl ?_
    apply Ops.nil
    replace H := H.all
    refine Runs.whether (v := (cmp_isNaN_int y)) rfl ?_ ?_ <;> intro hc3
    · replace h := cond_T hc3 h
      apply Runs.then
      refine Runs.regionH 1 rfl H ?_; intro b9 σ H
      refine Ops.assign (v := (.v (.int .i64 1))) rfl rfl ?_
      apply Ops.nil
      replace H := H.all
      apply Runs.ret
      subst h
      exact (Ends.H (xs := [(.v (.int .i64 1))]) (.inr rfl) H (.tmp (v := (.v (.int .i64 1))) rfl .nil) (.one (.c (.v _))))
    · replace h := cond_F hc3 h
      apply Runs.skip
      apply Runs.then
      apply Runs.then
      refine Runs.regionH 3 rfl H ?_; intro b10 σ H
      refine Ops.move (v := (.v (.int .i64 x'))) rfl rfl ?_
      refine Ops.move (v := (.v (.int .i64 y))) rfl rfl ?_
      refine Ops.int (m := x') (m' := y) (r := .bool (decide (x' < y))) rfl rfl rfl rfl rfl ?_
      apply Ops.nil
      replace H := H.all
      refine Runs.whether (v := (decide (x' < y))) rfl ?_ ?_ <;> intro hc4
      · replace h := cond_T hc4 h
        apply Runs.then
        refine Runs.regionH 1 rfl H ?_; intro b11 σ H
        refine Ops.assign (v := (.v (.int .i64 (-1)))) rfl rfl ?_
        apply Ops.nil
        replace H := H.all
        apply Runs.ret
        subst h
        exact (Ends.H (xs := [(.v (.int .i64 (-1)))]) (.inr rfl) H (.tmp (v := (.v (.int .i64 (-1)))) rfl .nil) (.one (.c (.v _))))
      · replace h := cond_F hc4 h
        apply Runs.skip
        apply Runs.then
        apply Runs.then
        refine Runs.regionH 3 rfl H ?_; intro b12 σ H
        refine Ops.move (v := (.v (.int .i64 x'))) rfl rfl ?_
        refine Ops.move (v := (.v (.int .i64 y))) rfl rfl ?_
        refine Ops.int (m := x') (m' := y) (r := .bool (decide (x' > y))) rfl rfl rfl rfl rfl ?_
        apply Ops.nil
        replace H := H.all
        refine Runs.whether (v := (decide (x' > y))) rfl ?_ ?_ <;> intro hc5
        · replace h := cond_T hc5 h
          apply Runs.then
          refine Runs.regionH 1 rfl H ?_; intro b13 σ H
          refine Ops.assign (v := (.v (.int .i64 1))) rfl rfl ?_
          apply Ops.nil
          replace H := H.all
          apply Runs.ret
          subst h
          exact (Ends.H (xs := [(.v (.int .i64 1))]) (.inr rfl) H (.tmp (v := (.v (.int .i64 1))) rfl .nil) (.one (.c (.v _))))
        · replace h := cond_F hc5 h
          apply Runs.skip
          apply Runs.then
          refine Runs.regionH 1 rfl H ?_; intro b14 σ H
          refine Ops.assign (v := (.v (.int .i64 0))) rfl rfl ?_
          apply Ops.nil
          replace H := H.all
          apply Runs.ret
          subst h
          exact (Ends.H (xs := [(.v (.int .i64 0))]) (.inr rfl) H (.tmp (v := (.v (.int .i64 0))) rfl .nil) (.one (.c (.v _))))

set_option maxRecDepth 100000 in
set_option maxHeartbeats 4000000 in
theorem gran_odd_1_fn {g : Granule} {i : Int} {r : Int} (h : gran_odd_1 g i = r) : Fn CX 74 [(.agg (vs (Granule.cs g))), (.v (.int .i64 i))] (.v (.int .i64 r)) := by
  refine Fn.ends Try.func74 rfl rfl rfl rfl rfl rfl ?_
  have H : Hs (⟨0, fun _ => .none⟩ : Heap) [] := Has.nil (Nat.le_refl _)
  generalize (⟨0, fun _ => .none⟩ : Heap) = σ at H ⊢
  unfold gran_odd_1 at h
  apply Runs.then
  refine Runs.regionH 2 rfl H ?_; intro b1 σ H
  refine Ops.boxH (v := (.agg [(.v (.int .i64 g.Index)), (.v (.sl (g.Ticks.map Span.cs)))])) (cs := [(.v (.int .i64 g.Index)), (.v (.sl (g.Ticks.map Span.cs)))]) H (by omega) (by omega) rfl rfl rfl ?_; intro σ H
  refine Ops.assign (v := (.v (.int .i64 0))) rfl rfl ?_
  apply Ops.nil
  replace H := H.all
  apply Runs.then
  refine Runs.regionH 5 rfl H ?_; intro b2 σ H
  refine Ops.fieldAddrH (off := 0) (fo := 0) H 0 rfl rfl rfl rfl rfl nofun rfl ?_
  refine Ops.loadH (off := 0) (v := (.v (.int .i64 g.Index))) H 0 rfl rfl rfl rfl rfl nofun rfl ?_
  refine Ops.move (v := (.v (.int .i64 i))) rfl rfl ?_
  refine Ops.call (ys := [(.v (.int .i64 g.Index)), (.v (.int .i64 i))]) (r := (.v (.int .i64 (cmp_Compare_int g.Index i)))) rfl (cmp_Compare_int_fn rfl) rfl ?_
  refine Ops.assign (v := (.v (.int .i64 (cmp_Compare_int g.Index i)))) rfl rfl ?_
  apply Ops.nil
  replace H := H.all
  apply Runs.ret
  subst h
  exact (Ends.H (xs := [(.v (.int .i64 (cmp_Compare_int g.Index i)))]) (.inr rfl) H (.tmp (v := (.v (.int .i64 (cmp_Compare_int g.Index i)))) rfl .nil) (.one (.c (.v _))))

set_option maxRecDepth 100000 in
set_option maxHeartbeats 4000000 in
theorem gran_odd_fn {f : Form} {i : Int} {r : Int × Bool} (h : gran_odd f i = some r) : Fn CX 60 [(.agg (vs (Form.cs f))), (.v (.int .i64 i))] (.tup [(.v (.int .i64 r.1)), (.v (.bool r.2))]) := by
  refine Fn.ends Try.func60 rfl rfl rfl rfl rfl rfl ?_
  have H : Hs (⟨0, fun _ => .none⟩ : Heap) [] := Has.nil (Nat.le_refl _)
  generalize (⟨0, fun _ => .none⟩ : Heap) = σ at H ⊢
  unfold gran_odd at h
  apply Runs.then
  refine Runs.regionH 3 rfl H ?_; intro b1 σ H
  refine Ops.boxH (v := (.agg [(.v (.int .i64 f.Period)), (.v (.int .i64 f.Count)), (.v (.sl (f.Core.map (cL Span.cs)))), (.v (.sl (f.Odd.map Granule.cs)))])) (cs := [(.v (.int .i64 f.Period)), (.v (.int .i64 f.Count)), (.v (.sl (f.Core.map (cL Span.cs)))), (.v (.sl (f.Odd.map Granule.cs)))]) H (by omega) (by omega) rfl rfl rfl ?_; intro σ H
  refine Ops.assign (v := (.v (.int .i64 0))) rfl rfl ?_
  refine Ops.assign (v := (.v (.bool false))) rfl rfl ?_
  apply Ops.nil
  replace H := H.all
  apply Runs.then
  refine Runs.regionH 8 rfl H ?_; intro b2 σ H
  refine Ops.fieldAddrH (off := 0) (fo := 3) H 0 rfl rfl rfl rfl rfl nofun rfl ?_
  refine Ops.loadH (off := 3) (v := (.v (.sl (f.Odd.map Granule.cs)))) H 0 rfl rfl rfl rfl rfl nofun rfl ?_
  refine Ops.move (v := (.v (.int .i64 i))) rfl rfl ?_
  obtain ⟨x1, q1, h⟩ := bind_some h
  refine Ops.callH (ys := [(.v (.sl (f.Odd.map Granule.cs))), (.v (.int .i64 i)), (.v (.fn 74))]) (r := (.tup [(.v (.int .i64 x1.1)), (.v (.bool x1.2))])) H rfl (slices_BinarySearchFunc_SGranule_Granule_int_fn (C := []) rfl (fun _ => rfl) (fun z0 z1 y hz => (CloH.fn (Fn.toH (gran_odd_1_fn (Option.some.inj hz)) _))) q1) .nil nofun rfl ?_; intro σ H
  refine Ops.extract (v := (.v (.int .i64 x1.1))) rfl rfl rfl ?_
  refine Ops.extract (v := (.v (.bool x1.2))) rfl rfl rfl ?_
  refine Ops.assign (v := (.v (.int .i64 x1.1))) rfl rfl ?_
  refine Ops.assign (v := (.v (.bool x1.2))) rfl rfl ?_
  apply Ops.nil
  replace H := H.all
  apply Runs.ret
  replace h := Option.some.inj h; subst h
  exact (Ends.H (xs := [(.v (.int .i64 x1.1)), (.v (.bool x1.2))]) (.inr rfl) H (.tmp (v := (.v (.int .i64 x1.1))) rfl (.tmp (v := (.v (.bool x1.2))) rfl .nil)) (.two (.cons (.c (.v _)) (.cons (.c (.v _)) .nil))))

set_option maxRecDepth 100000 in
set_option maxHeartbeats 4000000 in
theorem safe_Floor_fn {a : Int} {b : Int} {r : Int × Int × Int} (h : safe_Floor a b = some r) : Fn CX 62 [(.v (.int .i64 a)), (.v (.int .i64 b))] (.tup [(.v (.int .i64 r.1)), (.v (.int .i64 r.2.1)), (.v (.int .i64 r.2.2))]) := by
  refine Fn.ends Try.func62 rfl rfl rfl rfl rfl rfl ?_
  have H : Hs (⟨0, fun _ => .none⟩ : Heap) [] := Has.nil (Nat.le_refl _)
  generalize (⟨0, fun _ => .none⟩ : Heap) = σ at H ⊢
  unfold safe_Floor at h
  apply Runs.then
  refine Runs.regionH 3 rfl H ?_; intro b1 σ H
  refine Ops.assign (v := (.v (.int .i64 0))) rfl rfl ?_
  refine Ops.assign (v := (.v (.int .i64 0))) rfl rfl ?_
  refine Ops.assign (v := (.v (.int .i64 0))) rfl rfl ?_
  apply Ops.nil
  replace H := H.all
  apply Runs.then
  apply Runs.inBlock
  apply Runs.then
  refine Runs.regionH 3 rfl H ?_; intro b2 σ H
  refine Ops.move (v := (.v (.int .i64 b))) rfl rfl ?_
  refine Ops.int (m := b) (m' := 0) (r := .bool (b == 0)) rfl rfl rfl rfl rfl ?_
  refine Ops.assign (v := (.v (.bool (b == 0)))) rfl rfl ?_
  apply Ops.nil
  replace H := H.all
  refine Runs.whether (v := (b == 0)) rfl ?_ ?_ <;> intro hc1
  · replace h := cond_T hc1 h
    apply Runs.then
    refine Runs.regionH 3 rfl H ?_; intro b3 σ H
    refine Ops.assign (v := (.v (.int .i64 0))) rfl rfl ?_
    refine Ops.assign (v := (.v (.int .i64 0))) rfl rfl ?_
    refine Ops.assign (v := (.v (.int .i64 11))) rfl rfl ?_
    apply Ops.nil
    replace H := H.all
    apply Runs.ret
    replace h := Option.some.inj h; subst h
    exact (Ends.H (xs := [(.v (.int .i64 0)), (.v (.int .i64 0)), (.v (.int .i64 11))]) (.inr rfl) H (.tmp (v := (.v (.int .i64 0))) rfl (.tmp (v := (.v (.int .i64 0))) rfl (.tmp (v := (.v (.int .i64 11))) rfl .nil))) (.two (.cons (.c (.v _)) (.cons (.c (.v _)) (.cons (.c (.v _)) .nil)))))
  · replace h := cond_F hc1 h
    apply Runs.then
    refine Runs.regionH 7 rfl H ?_; intro b4 σ H
    refine Ops.move (v := (.v (.int .i64 b))) rfl rfl ?_
    refine Ops.int (m := b) (m' := (-1)) (r := .bool (b == (-1))) rfl rfl rfl rfl rfl ?_
    refine Ops.move (v := (.v (.bool (b == (-1))))) rfl rfl ?_
    refine Ops.mid 3 (K1 := fun e σ => EnvHas e [(18, (.v (.bool ((b == (-1)) && (a == (-9223372036854775808)))))), (0, (.v (.int .i64 a))), (1, (.v (.int .i64 b)))] ∧ Has σ (b4 + 6) (b4 + 7) []) rfl ?_ ?_
    · refine Ops.split rfl rfl ?_ ?_ <;> intro hc2
      · skip
        refine Ops.wanted rfl rfl ?_
        refine Ops.move (v := (.v (.int .i64 a))) rfl rfl ?_
        refine Ops.wanted rfl rfl ?_
        refine Ops.int (m := a) (m' := (-9223372036854775808)) (r := .bool (a == (-9223372036854775808))) rfl rfl rfl rfl rfl ?_
        refine Ops.pickT (v := (.v (.bool (a == (-9223372036854775808))))) rfl rfl rfl ?_
        apply Ops.nil
        exact ⟨⟨and_T hc2, rfl, rfl, trivial⟩, H.weak (by omega) (Nat.le_refl _)⟩
      · skip
        refine Ops.pass rfl rfl rfl ?_
        refine Ops.pass rfl rfl rfl ?_
        refine Ops.pickF (v := (.v (.bool false))) rfl rfl rfl ?_
        apply Ops.nil
        exact ⟨⟨and_F hc2, rfl, rfl, trivial⟩, H.weak (by omega) (Nat.le_refl _)⟩
    · rintro e σ ⟨he, H⟩
      obtain ⟨e, rfl⟩ := he.ex
      refine Ops.assign (v := (.v (.bool ((b == (-1)) && (a == (-9223372036854775808)))))) rfl rfl ?_
      apply Ops.nil
      replace H := H.all
      refine Runs.whether (v := ((b == (-1)) && (a == (-9223372036854775808)))) rfl ?_ ?_ <;> intro hc3
      · replace h := cond_T hc3 h
        apply Runs.then
        refine Runs.regionH 3 rfl H ?_; intro b5 σ H
        refine Ops.assign (v := (.v (.int .i64 0))) rfl rfl ?_
        refine Ops.assign (v := (.v (.int .i64 0))) rfl rfl ?_
        refine Ops.assign (v := (.v (.int .i64 10))) rfl rfl ?_
        apply Ops.nil
        replace H := H.all
        apply Runs.ret
        replace h := Option.some.inj h; subst h
        exact (Ends.H (xs := [(.v (.int .i64 0)), (.v (.int .i64 0)), (.v (.int .i64 10))]) (.inr rfl) H (.tmp (v := (.v (.int .i64 0))) rfl (.tmp (v := (.v (.int .i64 0))) rfl (.tmp (v := (.v (.int .i64 10))) rfl .nil))) (.two (.cons (.c (.v _)) (.cons (.c (.v _)) (.cons (.c (.v _)) .nil)))))
      · replace h := cond_F hc3 h
        apply Runs.skip
        apply Runs.then
        refine Runs.drawnH 8 rfl (by kernel_rfl) H ?_; intro b6 σ H B6
        refine Ops.move (v := (.v (.int .i64 a))) rfl rfl ?_
        refine Ops.move (v := (.v (.int .i64 b))) rfl rfl ?_
        obtain ⟨u1, q1, h⟩ := bind_some h
        refine Ops.quo (m := a) (m' := b) rfl rfl (nz_ne q1) rfl ?_
        refine Ops.move (v := (.v (.int .i64 a))) rfl rfl ?_
        refine Ops.move (v := (.v (.int .i64 b))) rfl rfl ?_
        obtain ⟨u2, q2, h⟩ := bind_some h
        refine Ops.rem (m := a) (m' := b) rfl rfl (nz_ne q2) rfl ?_
        refine Ops.assign (v := (.v (.int .i64 (w64 (a.tdiv b))))) rfl rfl ?_
        refine Ops.assign (v := (.v (.int .i64 (a.tmod b)))) rfl rfl ?_
        apply Ops.nil
        replace H := H.all
        apply Runs.then
        obtain ⟨y1, hj1, h⟩ := bind_some h
        refine Runs.mono (Q := fun x e σ => x = .normal ∧ EnvHas e [(7, (.v (.int .i64 y1.1))), (8, (.v (.int .i64 y1.2)))] ∧ Hs σ []) ?_ ?_
        · replace h := hj1
          apply Runs.then
          refine Runs.regionH 9 rfl H ?_; intro b7 σ H
          refine Ops.move (v := (.v (.int .i64 (a.tmod b)))) rfl rfl ?_
          refine Ops.int (m := (a.tmod b)) (m' := 0) (r := .bool ((a.tmod b) != 0)) rfl rfl rfl rfl rfl ?_
          refine Ops.move (v := (.v (.bool ((a.tmod b) != 0)))) rfl rfl ?_
          refine Ops.mid 6 (K1 := fun e σ => EnvHas e [(33, (.v (.bool (((a.tmod b) != 0) && ((decide ((a.tmod b) < 0)) != (decide (b < 0))))))), (1, (.v (.int .i64 b))), (7, (.v (.int .i64 (w64 (a.tdiv b))))), (8, (.v (.int .i64 (a.tmod b))))] ∧ Has σ (b7 + 9) (b7 + 9) []) rfl ?_ ?_
          · refine Ops.split rfl rfl ?_ ?_ <;> intro hc4
            · skip
              refine Ops.wanted rfl rfl ?_
              refine Ops.move (v := (.v (.int .i64 (a.tmod b)))) rfl rfl ?_
              refine Ops.wanted rfl rfl ?_
              refine Ops.int (m := (a.tmod b)) (m' := 0) (r := .bool (decide ((a.tmod b) < 0))) rfl rfl rfl rfl rfl ?_
              refine Ops.wanted rfl rfl ?_
              refine Ops.move (v := (.v (.int .i64 b))) rfl rfl ?_
              refine Ops.wanted rfl rfl ?_
              refine Ops.int (m := b) (m' := 0) (r := .bool (decide (b < 0))) rfl rfl rfl rfl rfl ?_
              refine Ops.wanted rfl rfl ?_
              refine Ops.neB (b := (decide ((a.tmod b) < 0))) (b' := (decide (b < 0))) rfl rfl rfl rfl ?_
              refine Ops.pickT (v := (.v (.bool ((decide ((a.tmod b) < 0)) != (decide (b < 0)))))) rfl rfl rfl ?_
              apply Ops.nil
              exact ⟨⟨and_T hc4, rfl, rfl, rfl, trivial⟩, H.weak (by omega) (Nat.le_refl _)⟩
            · skip
              refine Ops.pass rfl rfl rfl ?_
              refine Ops.pass rfl rfl rfl ?_
              refine Ops.pass rfl rfl rfl ?_
              refine Ops.pass rfl rfl rfl ?_
              refine Ops.pass rfl rfl rfl ?_
              refine Ops.pickF (v := (.v (.bool false))) rfl rfl rfl ?_
              apply Ops.nil
              exact ⟨⟨and_F hc4, rfl, rfl, rfl, trivial⟩, H.weak (by omega) (Nat.le_refl _)⟩
          · rintro e σ ⟨he, H⟩
            obtain ⟨e, rfl⟩ := he.ex
            apply Ops.nil
            replace H := H.all
            refine Runs.whether (v := (((a.tmod b) != 0) && ((decide ((a.tmod b) < 0)) != (decide (b < 0))))) rfl ?_ ?_ <;> intro hc5
            · replace h := cond_T hc5 h
              refine Runs.regionH 7 rfl H ?_; intro b8 σ H
              refine Ops.move (v := (.v (.int .i64 (w64 (a.tdiv b))))) rfl rfl ?_
              refine Ops.int (m := (w64 (a.tdiv b))) (m' := 1) (r := .int .i64 (w64 ((w64 (a.tdiv b)) - 1))) rfl rfl rfl rfl rfl ?_
              refine Ops.move (v := (.v (.int .i64 (a.tmod b)))) rfl rfl ?_
              refine Ops.move (v := (.v (.int .i64 b))) rfl rfl ?_
              refine Ops.int (m := (a.tmod b)) (m' := b) (r := .int .i64 (w64 ((a.tmod b) + b))) rfl rfl rfl rfl rfl ?_
              refine Ops.assign (v := (.v (.int .i64 (w64 ((w64 (a.tdiv b)) - 1))))) rfl rfl ?_
              refine Ops.assign (v := (.v (.int .i64 (w64 ((a.tmod b) + b))))) rfl rfl ?_
              apply Ops.nil
              replace H := H.all
              replace h := Option.some.inj h; subst h
              exact ⟨rfl, ⟨rfl, rfl, trivial⟩, H⟩
            · replace h := cond_F hc5 h
              apply Runs.skip
              replace h := Option.some.inj h; subst h
              exact ⟨rfl, ⟨rfl, rfl, trivial⟩, H⟩
        · rintro x e σ ⟨rfl, he, H⟩
          obtain ⟨e, rfl⟩ := he.ex
          apply Runs.then
          refine Runs.regionH 5 rfl H ?_; intro b9 σ H
          refine Ops.move (v := (.v (.int .i64 y1.1))) rfl rfl ?_
          refine Ops.move (v := (.v (.int .i64 y1.2))) rfl rfl ?_
          refine Ops.assign (v := (.v (.int .i64 y1.1))) rfl rfl ?_
          refine Ops.assign (v := (.v (.int .i64 y1.2))) rfl rfl ?_
          refine Ops.assign (v := (.v (.int .i64 0))) rfl rfl ?_
          apply Ops.nil
          replace H := H.all
          apply Runs.ret
          replace h := Option.some.inj h; subst h
          exact (Ends.H (xs := [(.v (.int .i64 y1.1)), (.v (.int .i64 y1.2)), (.v (.int .i64 0))]) (.inr rfl) H (.tmp (v := (.v (.int .i64 y1.1))) rfl (.tmp (v := (.v (.int .i64 y1.2))) rfl (.tmp (v := (.v (.int .i64 0))) rfl .nil))) (.two (.cons (.c (.v _)) (.cons (.c (.v _)) (.cons (.c (.v _)) .nil)))))

set_option maxRecDepth 100000 in
set_option maxHeartbeats 4000000 in
theorem safe_size_fn {a : Int} {r : Int} (h : safe_size a = r) : Fn CX 77 [(.v (.int .i64 a))] (.v (.int .u64 r)) := by
  refine Fn.ends Try.func77 rfl rfl rfl rfl rfl rfl ?_
  have H : Hs (⟨0, fun _ => .none⟩ : Heap) [] := Has.nil (Nat.le_refl _)
  generalize (⟨0, fun _ => .none⟩ : Heap) = σ at H ⊢
  unfold safe_size at h
  apply Runs.then
  refine Runs.regionH 1 rfl H ?_; intro b1 σ H
  refine Ops.assign (v := (.v (.int .u64 0))) rfl rfl ?_
  apply Ops.nil
  replace H := H.all
  apply Runs.then
  apply Runs.then
  refine Runs.regionH 2 rfl H ?_; intro b2 σ H
  refine Ops.move (v := (.v (.int .i64 a))) rfl rfl ?_
  refine Ops.int (m := a) (m' := 0) (r := .bool (decide (a < 0))) rfl rfl rfl rfl rfl ?_
  apply Ops.nil
  replace H := H.all
  refine Runs.whether (v := (decide (a < 0))) rfl ?_ ?_ <;> intro hc1
  · replace h := cond_T hc1 h
    apply Runs.then
    refine Runs.regionH 4 rfl H ?_; intro b3 σ H
    refine Ops.move (v := (.v (.int .i64 a))) rfl rfl ?_
    refine Ops.conv (m := a) rfl rfl rfl rfl ?_
    refine Ops.neg (m := (IntKind.u64.wrap a)) rfl rfl ?_
    refine Ops.assign (v := (.v (.int .u64 (IntKind.u64.wrap (0 - (IntKind.u64.wrap a)))))) rfl rfl ?_
    apply Ops.nil
    replace H := H.all
    apply Runs.ret
    subst h
    exact (Ends.H (xs := [(.v (.int .u64 (IntKind.u64.wrap (0 - (IntKind.u64.wrap a)))))]) (.inr rfl) H (.tmp (v := (.v (.int .u64 (IntKind.u64.wrap (0 - (IntKind.u64.wrap a)))))) rfl .nil) (.one (.c (.v _))))
  · replace h := cond_F hc1 h
    apply Runs.skip
    apply Runs.then
    refine Runs.regionH 3 rfl H ?_; intro b4 σ H
    refine Ops.move (v := (.v (.int .i64 a))) rfl rfl ?_
    refine Ops.conv (m := a) rfl rfl rfl rfl ?_
    refine Ops.assign (v := (.v (.int .u64 (IntKind.u64.wrap a)))) rfl rfl ?_
    apply Ops.nil
    replace H := H.all
    apply Runs.ret
    subst h
    exact (Ends.H (xs := [(.v (.int .u64 (IntKind.u64.wrap a)))]) (.inr rfl) H (.tmp (v := (.v (.int .u64 (IntKind.u64.wrap a)))) rfl .nil) (.one (.c (.v _))))

set_option maxRecDepth 100000 in
set_option maxHeartbeats 4000000 in
theorem math_bits_Mul64_fn {x' : Int} {y : Int} {r : Int × Int} (h : math_bits_Mul64 x' y = r) : Fn CX 76 [(.v (.int .u64 x')), (.v (.int .u64 y))] (.tup [(.v (.int .u64 r.1)), (.v (.int .u64 r.2))]) := by
  refine Fn.ends Try.func76 rfl rfl rfl rfl rfl rfl ?_
  have H : Hs (⟨0, fun _ => .none⟩ : Heap) [] := Has.nil (Nat.le_refl _)
  generalize (⟨0, fun _ => .none⟩ : Heap) = σ at H ⊢
  unfold math_bits_Mul64 at h
  apply Runs.then
  refine Runs.regionH 2 rfl H ?_; intro b1 σ H
  refine Ops.assign (v := (.v (.int .u64 0))) rfl rfl ?_
  refine Ops.assign (v := (.v (.int .u64 0))) rfl rfl ?_
  apply Ops.nil
  replace H := H.all
  apply Runs.then
  refine Runs.regionH 3 rfl H ?_; intro b2 σ H
  refine Ops.move (v := (.v (.int .u64 x'))) rfl rfl ?_
  refine Ops.int (m := x') (m' := 4294967295) (r := .int .u64 (iAnd .u64 x' 4294967295)) rfl rfl rfl rfl rfl ?_
  refine Ops.assign (v := (.v (.int .u64 (iAnd .u64 x' 4294967295)))) rfl rfl ?_
  apply Ops.nil
  replace H := H.all
  apply Runs.then
  refine Runs.regionH 3 rfl H ?_; intro b3 σ H
  refine Ops.move (v := (.v (.int .u64 x'))) rfl rfl ?_
  refine Ops.shr (m := x') (m' := 32) rfl rfl (by decide) rfl ?_
  refine Ops.assign (v := (.v (.int .u64 (x'.fdiv (2 ^ 32))))) rfl rfl ?_
  apply Ops.nil
  replace H := H.all
  apply Runs.then
  refine Runs.regionH 3 rfl H ?_; intro b4 σ H
  refine Ops.move (v := (.v (.int .u64 y))) rfl rfl ?_
  refine Ops.int (m := y) (m' := 4294967295) (r := .int .u64 (iAnd .u64 y 4294967295)) rfl rfl rfl rfl rfl ?_
  refine Ops.assign (v := (.v (.int .u64 (iAnd .u64 y 4294967295)))) rfl rfl ?_
  apply Ops.nil
  replace H := H.all
  apply Runs.then
  refine Runs.regionH 3 rfl H ?_; intro b5 σ H
  refine Ops.move (v := (.v (.int .u64 y))) rfl rfl ?_
  refine Ops.shr (m := y) (m' := 32) rfl rfl (by decide) rfl ?_
  refine Ops.assign (v := (.v (.int .u64 (y.fdiv (2 ^ 32))))) rfl rfl ?_
  apply Ops.nil
  replace H := H.all
  apply Runs.then
  refine Runs.regionH 4 rfl H ?_; intro b6 σ H
  refine Ops.move (v := (.v (.int .u64 (iAnd .u64 x' 4294967295)))) rfl rfl ?_
  refine Ops.move (v := (.v (.int .u64 (iAnd .u64 y 4294967295)))) rfl rfl ?_
  refine Ops.int (m := (iAnd .u64 x' 4294967295)) (m' := (iAnd .u64 y 4294967295)) (r := .int .u64 (IntKind.u64.wrap ((iAnd .u64 x' 4294967295) * (iAnd .u64 y 4294967295)))) rfl rfl rfl rfl rfl ?_
  refine Ops.assign (v := (.v (.int .u64 (IntKind.u64.wrap ((iAnd .u64 x' 4294967295) * (iAnd .u64 y 4294967295)))))) rfl rfl ?_
  apply Ops.nil
  replace H := H.all
  apply Runs.then
  refine Runs.regionH 7 rfl H ?_; intro b7 σ H
  refine Ops.move (v := (.v (.int .u64 (x'.fdiv (2 ^ 32))))) rfl rfl ?_
  refine Ops.move (v := (.v (.int .u64 (iAnd .u64 y 4294967295)))) rfl rfl ?_
  refine Ops.int (m := (x'.fdiv (2 ^ 32))) (m' := (iAnd .u64 y 4294967295)) (r := .int .u64 (IntKind.u64.wrap ((x'.fdiv (2 ^ 32)) * (iAnd .u64 y 4294967295)))) rfl rfl rfl rfl rfl ?_
  refine Ops.move (v := (.v (.int .u64 (IntKind.u64.wrap ((iAnd .u64 x' 4294967295) * (iAnd .u64 y 4294967295)))))) rfl rfl ?_
  refine Ops.shr (m := (IntKind.u64.wrap ((iAnd .u64 x' 4294967295) * (iAnd .u64 y 4294967295)))) (m' := 32) rfl rfl (by decide) rfl ?_
  refine Ops.int (m := (IntKind.u64.wrap ((x'.fdiv (2 ^ 32)) * (iAnd .u64 y 4294967295)))) (m' := ((IntKind.u64.wrap ((iAnd .u64 x' 4294967295) * (iAnd .u64 y 4294967295))).fdiv (2 ^ 32))) (r := .int .u64 (IntKind.u64.wrap ((IntKind.u64.wrap ((x'.fdiv (2 ^ 32)) * (iAnd .u64 y 4294967295))) + ((IntKind.u64.wrap ((iAnd .u64 x' 4294967295) * (iAnd .u64 y 4294967295))).fdiv (2 ^ 32))))) rfl rfl rfl rfl rfl ?_
  refine Ops.assign (v := (.v (.int .u64 (IntKind.u64.wrap ((IntKind.u64.wrap ((x'.fdiv (2 ^ 32)) * (iAnd .u64 y 4294967295))) + ((IntKind.u64.wrap ((iAnd .u64 x' 4294967295) * (iAnd .u64 y 4294967295))).fdiv (2 ^ 32))))))) rfl rfl ?_
  apply Ops.nil
  replace H := H.all
  apply Runs.then
  refine Runs.regionH 3 rfl H ?_; intro b8 σ H
  refine Ops.move (v := (.v (.int .u64 (IntKind.u64.wrap ((IntKind.u64.wrap ((x'.fdiv (2 ^ 32)) * (iAnd .u64 y 4294967295))) + ((IntKind.u64.wrap ((iAnd .u64 x' 4294967295) * (iAnd .u64 y 4294967295))).fdiv (2 ^ 32))))))) rfl rfl ?_
  refine Ops.int (m := (IntKind.u64.wrap ((IntKind.u64.wrap ((x'.fdiv (2 ^ 32)) * (iAnd .u64 y 4294967295))) + ((IntKind.u64.wrap ((iAnd .u64 x' 4294967295) * (iAnd .u64 y 4294967295))).fdiv (2 ^ 32))))) (m' := 4294967295) (r := .int .u64 (iAnd .u64 (IntKind.u64.wrap ((IntKind.u64.wrap ((x'.fdiv (2 ^ 32)) * (iAnd .u64 y 4294967295))) + ((IntKind.u64.wrap ((iAnd .u64 x' 4294967295) * (iAnd .u64 y 4294967295))).fdiv (2 ^ 32)))) 4294967295)) rfl rfl rfl rfl rfl ?_
  refine Ops.assign (v := (.v (.int .u64 (iAnd .u64 (IntKind.u64.wrap ((IntKind.u64.wrap ((x'.fdiv (2 ^ 32)) * (iAnd .u64 y 4294967295))) + ((IntKind.u64.wrap ((iAnd .u64 x' 4294967295) * (iAnd .u64 y 4294967295))).fdiv (2 ^ 32)))) 4294967295)))) rfl rfl ?_
  apply Ops.nil
  replace H := H.all
  apply Runs.then
  refine Runs.regionH 3 rfl H ?_; intro b9 σ H
  refine Ops.move (v := (.v (.int .u64 (IntKind.u64.wrap ((IntKind.u64.wrap ((x'.fdiv (2 ^ 32)) * (iAnd .u64 y 4294967295))) + ((IntKind.u64.wrap ((iAnd .u64 x' 4294967295) * (iAnd .u64 y 4294967295))).fdiv (2 ^ 32))))))) rfl rfl ?_
  refine Ops.shr (m := (IntKind.u64.wrap ((IntKind.u64.wrap ((x'.fdiv (2 ^ 32)) * (iAnd .u64 y 4294967295))) + ((IntKind.u64.wrap ((iAnd .u64 x' 4294967295) * (iAnd .u64 y 4294967295))).fdiv (2 ^ 32))))) (m' := 32) rfl rfl (by decide) rfl ?_
  refine Ops.assign (v := (.v (.int .u64 ((IntKind.u64.wrap ((IntKind.u64.wrap ((x'.fdiv (2 ^ 32)) * (iAnd .u64 y 4294967295))) + ((IntKind.u64.wrap ((iAnd .u64 x' 4294967295) * (iAnd .u64 y 4294967295))).fdiv (2 ^ 32)))).fdiv (2 ^ 32))))) rfl rfl ?_
  apply Ops.nil
  replace H := H.all
  apply Runs.then
  refine Runs.regionH 6 rfl H ?_; intro b10 σ H
  refine Ops.move (v := (.v (.int .u64 (iAnd .u64 (IntKind.u64.wrap ((IntKind.u64.wrap ((x'.fdiv (2 ^ 32)) * (iAnd .u64 y 4294967295))) + ((IntKind.u64.wrap ((iAnd .u64 x' 4294967295) * (iAnd .u64 y 4294967295))).fdiv (2 ^ 32)))) 4294967295)))) rfl rfl ?_
  refine Ops.move (v := (.v (.int .u64 (iAnd .u64 x' 4294967295)))) rfl rfl ?_
  refine Ops.move (v := (.v (.int .u64 (y.fdiv (2 ^ 32))))) rfl rfl ?_
  refine Ops.int (m := (iAnd .u64 x' 4294967295)) (m' := (y.fdiv (2 ^ 32))) (r := .int .u64 (IntKind.u64.wrap ((iAnd .u64 x' 4294967295) * (y.fdiv (2 ^ 32))))) rfl rfl rfl rfl rfl ?_
  refine Ops.int (m := (iAnd .u64 (IntKind.u64.wrap ((IntKind.u64.wrap ((x'.fdiv (2 ^ 32)) * (iAnd .u64 y 4294967295))) + ((IntKind.u64.wrap ((iAnd .u64 x' 4294967295) * (iAnd .u64 y 4294967295))).fdiv (2 ^ 32)))) 4294967295)) (m' := (IntKind.u64.wrap ((iAnd .u64 x' 4294967295) * (y.fdiv (2 ^ 32))))) (r := .int .u64 (IntKind.u64.wrap ((iAnd .u64 (IntKind.u64.wrap ((IntKind.u64.wrap ((x'.fdiv (2 ^ 32)) * (iAnd .u64 y 4294967295))) + ((IntKind.u64.wrap ((iAnd .u64 x' 4294967295) * (iAnd .u64 y 4294967295))).fdiv (2 ^ 32)))) 4294967295) + (IntKind.u64.wrap ((iAnd .u64 x' 4294967295) * (y.fdiv (2 ^ 32))))))) rfl rfl rfl rfl rfl ?_
  refine Ops.assign (v := (.v (.int .u64 (IntKind.u64.wrap ((iAnd .u64 (IntKind.u64.wrap ((IntKind.u64.wrap ((x'.fdiv (2 ^ 32)) * (iAnd .u64 y 4294967295))) + ((IntKind.u64.wrap ((iAnd .u64 x' 4294967295) * (iAnd .u64 y 4294967295))).fdiv (2 ^ 32)))) 4294967295) + (IntKind.u64.wrap ((iAnd .u64 x' 4294967295) * (y.fdiv (2 ^ 32))))))))) rfl rfl ?_
  apply Ops.nil
  replace H := H.all
  apply Runs.then
  refine Runs.regionH 9 rfl H ?_; intro b11 σ H
  refine Ops.move (v := (.v (.int .u64 (x'.fdiv (2 ^ 32))))) rfl rfl ?_
  refine Ops.move (v := (.v (.int .u64 (y.fdiv (2 ^ 32))))) rfl rfl ?_
  refine Ops.int (m := (x'.fdiv (2 ^ 32))) (m' := (y.fdiv (2 ^ 32))) (r := .int .u64 (IntKind.u64.wrap ((x'.fdiv (2 ^ 32)) * (y.fdiv (2 ^ 32))))) rfl rfl rfl rfl rfl ?_
  refine Ops.move (v := (.v (.int .u64 ((IntKind.u64.wrap ((IntKind.u64.wrap ((x'.fdiv (2 ^ 32)) * (iAnd .u64 y 4294967295))) + ((IntKind.u64.wrap ((iAnd .u64 x' 4294967295) * (iAnd .u64 y 4294967295))).fdiv (2 ^ 32)))).fdiv (2 ^ 32))))) rfl rfl ?_
  refine Ops.int (m := (IntKind.u64.wrap ((x'.fdiv (2 ^ 32)) * (y.fdiv (2 ^ 32))))) (m' := ((IntKind.u64.wrap ((IntKind.u64.wrap ((x'.fdiv (2 ^ 32)) * (iAnd .u64 y 4294967295))) + ((IntKind.u64.wrap ((iAnd .u64 x' 4294967295) * (iAnd .u64 y 4294967295))).fdiv (2 ^ 32)))).fdiv (2 ^ 32))) (r := .int .u64 (IntKind.u64.wrap ((IntKind.u64.wrap ((x'.fdiv (2 ^ 32)) * (y.fdiv (2 ^ 32)))) + ((IntKind.u64.wrap ((IntKind.u64.wrap ((x'.fdiv (2 ^ 32)) * (iAnd .u64 y 4294967295))) + ((IntKind.u64.wrap ((iAnd .u64 x' 4294967295) * (iAnd .u64 y 4294967295))).fdiv (2 ^ 32)))).fdiv (2 ^ 32))))) rfl rfl rfl rfl rfl ?_
  refine Ops.move (v := (.v (.int .u64 (IntKind.u64.wrap ((iAnd .u64 (IntKind.u64.wrap ((IntKind.u64.wrap ((x'.fdiv (2 ^ 32)) * (iAnd .u64 y 4294967295))) + ((IntKind.u64.wrap ((iAnd .u64 x' 4294967295) * (iAnd .u64 y 4294967295))).fdiv (2 ^ 32)))) 4294967295) + (IntKind.u64.wrap ((iAnd .u64 x' 4294967295) * (y.fdiv (2 ^ 32))))))))) rfl rfl ?_
  refine Ops.shr (m := (IntKind.u64.wrap ((iAnd .u64 (IntKind.u64.wrap ((IntKind.u64.wrap ((x'.fdiv (2 ^ 32)) * (iAnd .u64 y 4294967295))) + ((IntKind.u64.wrap ((iAnd .u64 x' 4294967295) * (iAnd .u64 y 4294967295))).fdiv (2 ^ 32)))) 4294967295) + (IntKind.u64.wrap ((iAnd .u64 x' 4294967295) * (y.fdiv (2 ^ 32))))))) (m' := 32) rfl rfl (by decide) rfl ?_
  refine Ops.int (m := (IntKind.u64.wrap ((IntKind.u64.wrap ((x'.fdiv (2 ^ 32)) * (y.fdiv (2 ^ 32)))) + ((IntKind.u64.wrap ((IntKind.u64.wrap ((x'.fdiv (2 ^ 32)) * (iAnd .u64 y 4294967295))) + ((IntKind.u64.wrap ((iAnd .u64 x' 4294967295) * (iAnd .u64 y 4294967295))).fdiv (2 ^ 32)))).fdiv (2 ^ 32))))) (m' := ((IntKind.u64.wrap ((iAnd .u64 (IntKind.u64.wrap ((IntKind.u64.wrap ((x'.fdiv (2 ^ 32)) * (iAnd .u64 y 4294967295))) + ((IntKind.u64.wrap ((iAnd .u64 x' 4294967295) * (iAnd .u64 y 4294967295))).fdiv (2 ^ 32)))) 4294967295) + (IntKind.u64.wrap ((iAnd .u64 x' 4294967295) * (y.fdiv (2 ^ 32)))))).fdiv (2 ^ 32))) (r := .int .u64 (IntKind.u64.wrap ((IntKind.u64.wrap ((IntKind.u64.wrap ((x'.fdiv (2 ^ 32)) * (y.fdiv (2 ^ 32)))) + ((IntKind.u64.wrap ((IntKind.u64.wrap ((x'.fdiv (2 ^ 32)) * (iAnd .u64 y 4294967295))) + ((IntKind.u64.wrap ((iAnd .u64 x' 4294967295) * (iAnd .u64 y 4294967295))).fdiv (2 ^ 32)))).fdiv (2 ^ 32)))) + ((IntKind.u64.wrap ((iAnd .u64 (IntKind.u64.wrap ((IntKind.u64.wrap ((x'.fdiv (2 ^ 32)) * (iAnd .u64 y 4294967295))) + ((IntKind.u64.wrap ((iAnd .u64 x' 4294967295) * (iAnd .u64 y 4294967295))).fdiv (2 ^ 32)))) 4294967295) + (IntKind.u64.wrap ((iAnd .u64 x' 4294967295) * (y.fdiv (2 ^ 32)))))).fdiv (2 ^ 32))))) rfl rfl rfl rfl rfl ?_
  refine Ops.assign (v := (.v (.int .u64 (IntKind.u64.wrap ((IntKind.u64.wrap ((IntKind.u64.wrap ((x'.fdiv (2 ^ 32)) * (y.fdiv (2 ^ 32)))) + ((IntKind.u64.wrap ((IntKind.u64.wrap ((x'.fdiv (2 ^ 32)) * (iAnd .u64 y 4294967295))) + ((IntKind.u64.wrap ((iAnd .u64 x' 4294967295) * (iAnd .u64 y 4294967295))).fdiv (2 ^ 32)))).fdiv (2 ^ 32)))) + ((IntKind.u64.wrap ((iAnd .u64 (IntKind.u64.wrap ((IntKind.u64.wrap ((x'.fdiv (2 ^ 32)) * (iAnd .u64 y 4294967295))) + ((IntKind.u64.wrap ((iAnd .u64 x' 4294967295) * (iAnd .u64 y 4294967295))).fdiv (2 ^ 32)))) 4294967295) + (IntKind.u64.wrap ((iAnd .u64 x' 4294967295) * (y.fdiv (2 ^ 32)))))).fdiv (2 ^ 32))))))) rfl rfl ?_
  apply Ops.nil
  replace H := H.all
  apply Runs.then
  refine Runs.regionH 4 rfl H ?_; intro b12 σ H
  refine Ops.move (v := (.v (.int .u64 x'))) rfl rfl ?_
  refine Ops.move (v := (.v (.int .u64 y))) rfl rfl ?_
  refine Ops.int (m := x') (m' := y) (r := .int .u64 (IntKind.u64.wrap (x' * y))) rfl rfl rfl rfl rfl ?_
  refine Ops.assign (v := (.v (.int .u64 (IntKind.u64.wrap (x' * y))))) rfl rfl ?_
  apply Ops.nil
  replace H := H.all
  apply Runs.ret
  subst h
  exact (Ends.H (xs := [(.v (.int .u64 (IntKind.u64.wrap ((IntKind.u64.wrap ((IntKind.u64.wrap ((x'.fdiv (2 ^ 32)) * (y.fdiv (2 ^ 32)))) + ((IntKind.u64.wrap ((IntKind.u64.wrap ((x'.fdiv (2 ^ 32)) * (iAnd .u64 y 4294967295))) + ((IntKind.u64.wrap ((iAnd .u64 x' 4294967295) * (iAnd .u64 y 4294967295))).fdiv (2 ^ 32)))).fdiv (2 ^ 32)))) + ((IntKind.u64.wrap ((iAnd .u64 (IntKind.u64.wrap ((IntKind.u64.wrap ((x'.fdiv (2 ^ 32)) * (iAnd .u64 y 4294967295))) + ((IntKind.u64.wrap ((iAnd .u64 x' 4294967295) * (iAnd .u64 y 4294967295))).fdiv (2 ^ 32)))) 4294967295) + (IntKind.u64.wrap ((iAnd .u64 x' 4294967295) * (y.fdiv (2 ^ 32)))))).fdiv (2 ^ 32)))))), (.v (.int .u64 (IntKind.u64.wrap (x' * y))))]) (.inr rfl) H (.tmp (v := (.v (.int .u64 (IntKind.u64.wrap ((IntKind.u64.wrap ((IntKind.u64.wrap ((x'.fdiv (2 ^ 32)) * (y.fdiv (2 ^ 32)))) + ((IntKind.u64.wrap ((IntKind.u64.wrap ((x'.fdiv (2 ^ 32)) * (iAnd .u64 y 4294967295))) + ((IntKind.u64.wrap ((iAnd .u64 x' 4294967295) * (iAnd .u64 y 4294967295))).fdiv (2 ^ 32)))).fdiv (2 ^ 32)))) + ((IntKind.u64.wrap ((iAnd .u64 (IntKind.u64.wrap ((IntKind.u64.wrap ((x'.fdiv (2 ^ 32)) * (iAnd .u64 y 4294967295))) + ((IntKind.u64.wrap ((iAnd .u64 x' 4294967295) * (iAnd .u64 y 4294967295))).fdiv (2 ^ 32)))) 4294967295) + (IntKind.u64.wrap ((iAnd .u64 x' 4294967295) * (y.fdiv (2 ^ 32)))))).fdiv (2 ^ 32))))))) rfl (.tmp (v := (.v (.int .u64 (IntKind.u64.wrap (x' * y))))) rfl .nil)) (.two (.cons (.c (.v _)) (.cons (.c (.v _)) .nil))))

set_option maxRecDepth 100000 in
set_option maxHeartbeats 4000000 in
theorem safe_signed_fn {n : Int} {minus : Bool} {r : Int × Int} (h : safe_signed n minus = r) : Fn CX 78 [(.v (.int .u64 n)), (.v (.bool minus))] (.tup [(.v (.int .i64 r.1)), (.v (.int .i64 r.2))]) := by
  refine Fn.ends Try.func78 rfl rfl rfl rfl rfl rfl ?_
  have H : Hs (⟨0, fun _ => .none⟩ : Heap) [] := Has.nil (Nat.le_refl _)
  generalize (⟨0, fun _ => .none⟩ : Heap) = σ at H ⊢
  unfold safe_signed at h
  apply Runs.then
  refine Runs.regionH 2 rfl H ?_; intro b1 σ H
  refine Ops.assign (v := (.v (.int .i64 0))) rfl rfl ?_
  refine Ops.assign (v := (.v (.int .i64 0))) rfl rfl ?_
  apply Ops.nil
  replace H := H.all
  apply Runs.then
  apply Runs.inBlock
  apply Runs.then
  refine Runs.regionH 6 rfl H ?_; intro b2 σ H
  refine Ops.move (v := (.v (.bool minus))) rfl rfl ?_
  refine Ops.move (v := (.v (.bool minus))) rfl rfl ?_
  refine Ops.mid 3 (K1 := fun e σ => EnvHas e [(11, (.v (.bool (minus && (decide (n ≤ 9223372036854775808)))))), (0, (.v (.int .u64 n))), (1, (.v (.bool minus)))] ∧ Has σ (b2 + 5) (b2 + 6) []) rfl ?_ ?_
  · refine Ops.split rfl rfl ?_ ?_ <;> intro hc1
    · skip
      refine Ops.wanted rfl rfl ?_
      refine Ops.move (v := (.v (.int .u64 n))) rfl rfl ?_
      refine Ops.wanted rfl rfl ?_
      refine Ops.int (m := n) (m' := 9223372036854775808) (r := .bool (decide (n ≤ 9223372036854775808))) rfl rfl rfl rfl rfl ?_
      refine Ops.pickT (v := (.v (.bool (decide (n ≤ 9223372036854775808))))) rfl rfl rfl ?_
      apply Ops.nil
      exact ⟨⟨and_T hc1, rfl, rfl, trivial⟩, H.weak (by omega) (Nat.le_refl _)⟩
    · skip
      refine Ops.pass rfl rfl rfl ?_
      refine Ops.pass rfl rfl rfl ?_
      refine Ops.pickF (v := (.v (.bool false))) rfl rfl rfl ?_
      apply Ops.nil
      exact ⟨⟨and_F hc1, rfl, rfl, trivial⟩, H.weak (by omega) (Nat.le_refl _)⟩
  · rintro e σ ⟨he, H⟩
    obtain ⟨e, rfl⟩ := he.ex
    refine Ops.assign (v := (.v (.bool (minus && (decide (n ≤ 9223372036854775808)))))) rfl rfl ?_
    apply Ops.nil
    replace H := H.all
    refine Runs.whether (v := (minus && (decide (n ≤ 9223372036854775808)))) rfl ?_ ?_ <;> intro hc2
    · replace h := cond_T hc2 h
      apply Runs.then
      refine Runs.regionH 5 rfl H ?_; intro b3 σ H
      refine Ops.move (v := (.v (.int .u64 n))) rfl rfl ?_
      refine Ops.neg (m := n) rfl rfl ?_
      refine Ops.conv (m := (IntKind.u64.wrap (0 - n))) rfl rfl rfl rfl ?_
      refine Ops.assign (v := (.v (.int .i64 (w64 (IntKind.u64.wrap (0 - n)))))) rfl rfl ?_
      refine Ops.assign (v := (.v (.int .i64 0))) rfl rfl ?_
      apply Ops.nil
      replace H := H.all
      apply Runs.ret
      subst h
      exact (Ends.H (xs := [(.v (.int .i64 (w64 (IntKind.u64.wrap (0 - n))))), (.v (.int .i64 0))]) (.inr rfl) H (.tmp (v := (.v (.int .i64 (w64 (IntKind.u64.wrap (0 - n)))))) rfl (.tmp (v := (.v (.int .i64 0))) rfl .nil)) (.two (.cons (.c (.v _)) (.cons (.c (.v _)) .nil))))
    · replace h := cond_F hc2 h
      apply Runs.then
      refine Runs.regionH 7 rfl H ?_; intro b4 σ H
      refine Ops.move (v := (.v (.bool minus))) rfl rfl ?_
      refine Ops.not (b := minus) rfl rfl ?_
      refine Ops.move (v := (.v (.bool (!minus)))) rfl rfl ?_
      refine Ops.mid 3 (K1 := fun e σ => EnvHas e [(21, (.v (.bool ((!minus) && (decide (n ≤ 9223372036854775807)))))), (0, (.v (.int .u64 n)))] ∧ Has σ (b4 + 6) (b4 + 7) []) rfl ?_ ?_
      · refine Ops.split rfl rfl ?_ ?_ <;> intro hc3
        · skip
          refine Ops.wanted rfl rfl ?_
          refine Ops.move (v := (.v (.int .u64 n))) rfl rfl ?_
          refine Ops.wanted rfl rfl ?_
          refine Ops.int (m := n) (m' := 9223372036854775807) (r := .bool (decide (n ≤ 9223372036854775807))) rfl rfl rfl rfl rfl ?_
          refine Ops.pickT (v := (.v (.bool (decide (n ≤ 9223372036854775807))))) rfl rfl rfl ?_
          apply Ops.nil
          exact ⟨⟨and_T hc3, rfl, trivial⟩, H.weak (by omega) (Nat.le_refl _)⟩
        · skip
          refine Ops.pass rfl rfl rfl ?_
          refine Ops.pass rfl rfl rfl ?_
          refine Ops.pickF (v := (.v (.bool false))) rfl rfl rfl ?_
          apply Ops.nil
          exact ⟨⟨and_F hc3, rfl, trivial⟩, H.weak (by omega) (Nat.le_refl _)⟩
      · rintro e σ ⟨he, H⟩
        obtain ⟨e, rfl⟩ := he.ex
        refine Ops.assign (v := (.v (.bool ((!minus) && (decide (n ≤ 9223372036854775807)))))) rfl rfl ?_
        apply Ops.nil
        replace H := H.all
        refine Runs.whether (v := ((!minus) && (decide (n ≤ 9223372036854775807)))) rfl ?_ ?_ <;> intro hc4
        · replace h := cond_T hc4 h
          apply Runs.then
          refine Runs.regionH 4 rfl H ?_; intro b5 σ H
          refine Ops.move (v := (.v (.int .u64 n))) rfl rfl ?_
          refine Ops.conv (m := n) rfl rfl rfl rfl ?_
          refine Ops.assign (v := (.v (.int .i64 (w64 n)))) rfl rfl ?_
          refine Ops.assign (v := (.v (.int .i64 0))) rfl rfl ?_
          apply Ops.nil
          replace H := H.all
          apply Runs.ret
          subst h
          exact (Ends.H (xs := [(.v (.int .i64 (w64 n))), (.v (.int .i64 0))]) (.inr rfl) H (.tmp (v := (.v (.int .i64 (w64 n)))) rfl (.tmp (v := (.v (.int .i64 0))) rfl .nil)) (.two (.cons (.c (.v _)) (.cons (.c (.v _)) .nil))))
        · replace h := cond_F hc4 h
          apply Runs.skip
          apply Runs.then
          refine Runs.regionH 2 rfl H ?_; intro b6 σ H
          refine Ops.assign (v := (.v (.int .i64 0))) rfl rfl ?_
          refine Ops.assign (v := (.v (.int .i64 10))) rfl rfl ?_
          apply Ops.nil
          replace H := H.all
          apply Runs.ret
          subst h
          exact (Ends.H (xs := [(.v (.int .i64 0)), (.v (.int .i64 10))]) (.inr rfl) H (.tmp (v := (.v (.int .i64 0))) rfl (.tmp (v := (.v (.int .i64 10))) rfl .nil)) (.two (.cons (.c (.v _)) (.cons (.c (.v _)) .nil))))

set_option maxRecDepth 100000 in
set_option maxHeartbeats 4000000 in
theorem safe_Mul_fn {a : Int} {b : Int} {r : Int × Int} (h : safe_Mul a b = r) : Fn CX 63 [(.v (.int .i64 a)), (.v (.int .i64 b))] (.tup [(.v (.int .i64 r.1)), (.v (.int .i64 r.2))]) := by
  refine Fn.ends Try.func63 rfl rfl rfl rfl rfl rfl ?_
  have H : Hs (⟨0, fun _ => .none⟩ : Heap) [] := Has.nil (Nat.le_refl _)
  generalize (⟨0, fun _ => .none⟩ : Heap) = σ at H ⊢
  unfold safe_Mul at h
  apply Runs.then
  refine Runs.regionH 2 rfl H ?_; intro b1 σ H
  refine Ops.assign (v := (.v (.int .i64 0))) rfl rfl ?_
  refine Ops.assign (v := (.v (.int .i64 0))) rfl rfl ?_
  apply Ops.nil
  replace H := H.all
  apply Runs.then
  refine Runs.regionH 10 rfl H ?_; intro b2 σ H
  refine Ops.move (v := (.v (.int .i64 a))) rfl rfl ?_
  refine Ops.call (ys := [(.v (.int .i64 a))]) (r := (.v (.int .u64 (safe_size a)))) rfl (safe_size_fn rfl) rfl ?_
  refine Ops.move (v := (.v (.int .i64 b))) rfl rfl ?_
  refine Ops.call (ys := [(.v (.int .i64 b))]) (r := (.v (.int .u64 (safe_size b)))) rfl (safe_size_fn rfl) rfl ?_
  refine Ops.call (ys := [(.v (.int .u64 (safe_size a))), (.v (.int .u64 (safe_size b)))]) (r := (.tup [(.v (.int .u64 (math_bits_Mul64 (safe_size a) (safe_size b)).1)), (.v (.int .u64 (math_bits_Mul64 (safe_size a) (safe_size b)).2))])) rfl (math_bits_Mul64_fn rfl) rfl ?_
  refine Ops.move (v := (.tup [(.v (.int .u64 (math_bits_Mul64 (safe_size a) (safe_size b)).1)), (.v (.int .u64 (math_bits_Mul64 (safe_size a) (safe_size b)).2))])) rfl rfl ?_
  refine Ops.extract (v := (.v (.int .u64 (math_bits_Mul64 (safe_size a) (safe_size b)).1))) rfl rfl rfl ?_
  refine Ops.extract (v := (.v (.int .u64 (math_bits_Mul64 (safe_size a) (safe_size b)).2))) rfl rfl rfl ?_
  refine Ops.assign (v := (.v (.int .u64 (math_bits_Mul64 (safe_size a) (safe_size b)).1))) rfl rfl ?_
  refine Ops.assign (v := (.v (.int .u64 (math_bits_Mul64 (safe_size a) (safe_size b)).2))) rfl rfl ?_
  apply Ops.nil
  replace H := H.all
  apply Runs.then
  apply Runs.then
  refine Runs.regionH 2 rfl H ?_; intro b3 σ H
  refine Ops.move (v := (.v (.int .u64 (math_bits_Mul64 (safe_size a) (safe_size b)).1))) rfl rfl ?_
  refine Ops.int (m := (math_bits_Mul64 (safe_size a) (safe_size b)).1) (m' := 0) (r := .bool (((math_bits_Mul64 (safe_size a) (safe_size b)).1) != 0)) rfl rfl rfl rfl rfl ?_
  apply Ops.nil
  replace H := H.all
  refine Runs.whether (v := (((math_bits_Mul64 (safe_size a) (safe_size b)).1) != 0)) rfl ?_ ?_ <;> intro hc1
  · replace h := cond_T hc1 h
    apply Runs.then
    refine Runs.regionH 2 rfl H ?_; intro b4 σ H
    refine Ops.assign (v := (.v (.int .i64 0))) rfl rfl ?_
    refine Ops.assign (v := (.v (.int .i64 10))) rfl rfl ?_
    apply Ops.nil
    replace H := H.all
    apply Runs.ret
    subst h
    exact (Ends.H (xs := [(.v (.int .i64 0)), (.v (.int .i64 10))]) (.inr rfl) H (.tmp (v := (.v (.int .i64 0))) rfl (.tmp (v := (.v (.int .i64 10))) rfl .nil)) (.two (.cons (.c (.v _)) (.cons (.c (.v _)) .nil))))
  · replace h := cond_F hc1 h
    apply Runs.skip
    apply Runs.then
    refine Runs.regionH 11 rfl H ?_; intro b5 σ H
    refine Ops.move (v := (.v (.int .u64 (math_bits_Mul64 (safe_size a) (safe_size b)).2))) rfl rfl ?_
    refine Ops.move (v := (.v (.int .i64 a))) rfl rfl ?_
    refine Ops.int (m := a) (m' := 0) (r := .bool (decide (a < 0))) rfl rfl rfl rfl rfl ?_
    refine Ops.move (v := (.v (.int .i64 b))) rfl rfl ?_
    refine Ops.int (m := b) (m' := 0) (r := .bool (decide (b < 0))) rfl rfl rfl rfl rfl ?_
    refine Ops.neB (b := (decide (a < 0))) (b' := (decide (b < 0))) rfl rfl rfl rfl ?_
    refine Ops.call (ys := [(.v (.int .u64 (math_bits_Mul64 (safe_size a) (safe_size b)).2)), (.v (.bool ((decide (a < 0)) != (decide (b < 0)))))]) (r := (.tup [(.v (.int .i64 (safe_signed ((math_bits_Mul64 (safe_size a) (safe_size b)).2) ((decide (a < 0)) != (decide (b < 0)))).1)), (.v (.int .i64 (safe_signed ((math_bits_Mul64 (safe_size a) (safe_size b)).2) ((decide (a < 0)) != (decide (b < 0)))).2))])) rfl (safe_signed_fn rfl) rfl ?_
    refine Ops.extract (v := (.v (.int .i64 (safe_signed ((math_bits_Mul64 (safe_size a) (safe_size b)).2) ((decide (a < 0)) != (decide (b < 0)))).1))) rfl rfl rfl ?_
    refine Ops.extract (v := (.v (.int .i64 (safe_signed ((math_bits_Mul64 (safe_size a) (safe_size b)).2) ((decide (a < 0)) != (decide (b < 0)))).2))) rfl rfl rfl ?_
    refine Ops.assign (v := (.v (.int .i64 (safe_signed ((math_bits_Mul64 (safe_size a) (safe_size b)).2) ((decide (a < 0)) != (decide (b < 0)))).1))) rfl rfl ?_
    refine Ops.assign (v := (.v (.int .i64 (safe_signed ((math_bits_Mul64 (safe_size a) (safe_size b)).2) ((decide (a < 0)) != (decide (b < 0)))).2))) rfl rfl ?_
    apply Ops.nil
    replace H := H.all
    apply Runs.ret
    subst h
    exact (Ends.H (xs := [(.v (.int .i64 (safe_signed ((math_bits_Mul64 (safe_size a) (safe_size b)).2) ((decide (a < 0)) != (decide (b < 0)))).1)), (.v (.int .i64 (safe_signed ((math_bits_Mul64 (safe_size a) (safe_size b)).2) ((decide (a < 0)) != (decide (b < 0)))).2))]) (.inr rfl) H (.tmp (v := (.v (.int .i64 (safe_signed ((math_bits_Mul64 (safe_size a) (safe_size b)).2) ((decide (a < 0)) != (decide (b < 0)))).1))) rfl (.tmp (v := (.v (.int .i64 (safe_signed ((math_bits_Mul64 (safe_size a) (safe_size b)).2) ((decide (a < 0)) != (decide (b < 0)))).2))) rfl .nil)) (.two (.cons (.c (.v _)) (.cons (.c (.v _)) .nil))))

set_option maxRecDepth 100000 in
set_option maxHeartbeats 4000000 in
theorem gran_kept_fn {f : Form} {i : Int} {r : (List Span) × Int × Int} (h : gran_kept f i = some r) : Fn CX 40 [(.agg (vs (Form.cs f))), (.v (.int .i64 i))] (.tup [(.v (.sl (r.1.map Span.cs))), (.v (.int .i64 r.2.1)), (.v (.int .i64 r.2.2))]) := by
  refine Fn.ends Try.func40 rfl rfl rfl rfl rfl rfl ?_
  have H : Hs (⟨0, fun _ => .none⟩ : Heap) [] := Has.nil (Nat.le_refl _)
  generalize (⟨0, fun _ => .none⟩ : Heap) = σ at H ⊢
  unfold gran_kept at h
  apply Runs.then
  refine Runs.regionH 4 rfl H ?_; intro b1 σ H
  refine Ops.boxH (v := (.agg [(.v (.int .i64 f.Period)), (.v (.int .i64 f.Count)), (.v (.sl (f.Core.map (cL Span.cs)))), (.v (.sl (f.Odd.map Granule.cs)))])) (cs := [(.v (.int .i64 f.Period)), (.v (.int .i64 f.Count)), (.v (.sl (f.Core.map (cL Span.cs)))), (.v (.sl (f.Odd.map Granule.cs)))]) H (by omega) (by omega) rfl rfl rfl ?_; intro σ H
  refine Ops.assign (v := .nils) rfl rfl ?_
  refine Ops.assign (v := (.v (.int .i64 0))) rfl rfl ?_
  refine Ops.assign (v := (.v (.int .i64 0))) rfl rfl ?_
  apply Ops.nil
  replace H := H.all
  apply Runs.then
  apply Runs.then
  refine Runs.regionH 8 rfl H ?_; intro b2 σ H
  refine Ops.loadHA (off := 0) (cs := [(.v (.int .i64 f.Period)), (.v (.int .i64 f.Count)), (.v (.sl (f.Core.map (cL Span.cs)))), (.v (.sl (f.Odd.map Granule.cs)))]) H 0 rfl rfl rfl rfl rfl rfl rfl nofun rfl ?_
  refine Ops.move (v := (.v (.int .i64 i))) rfl rfl ?_
  obtain ⟨x1, q1, h⟩ := bind_some h
  refine Ops.call (ys := [(.agg [(.v (.int .i64 f.Period)), (.v (.int .i64 f.Count)), (.v (.sl (f.Core.map (cL Span.cs)))), (.v (.sl (f.Odd.map Granule.cs)))]), (.v (.int .i64 i))]) (r := (.tup [(.v (.int .i64 x1.1)), (.v (.bool x1.2))])) rfl (gran_odd_fn q1) rfl ?_
  refine Ops.move (v := (.tup [(.v (.int .i64 x1.1)), (.v (.bool x1.2))])) rfl rfl ?_
  refine Ops.extract (v := (.v (.int .i64 x1.1))) rfl rfl rfl ?_
  refine Ops.extract (v := (.v (.bool x1.2))) rfl rfl rfl ?_
  refine Ops.assign (v := (.v (.int .i64 x1.1))) rfl rfl ?_
  refine Ops.assign (v := (.v (.bool x1.2))) rfl rfl ?_
  apply Ops.nil
  replace H := H.all
  apply Runs.then
  refine Runs.regionH 1 rfl H ?_; intro b3 σ H
  refine Ops.move (v := (.v (.bool x1.2))) rfl rfl ?_
  apply Ops.nil
  replace H := H.all
  refine Runs.whether (v := x1.2) rfl ?_ ?_ <;> intro hc1
  · replace h := cond_T hc1 h
    apply Runs.then
    refine Runs.regionH 9 rfl H ?_; intro b4 σ H
    refine Ops.fieldAddrH (off := 0) (fo := 3) H 0 rfl rfl rfl rfl rfl nofun rfl ?_
    refine Ops.loadH (off := 3) (v := (.v (.sl (f.Odd.map Granule.cs)))) H 0 rfl rfl rfl rfl rfl nofun rfl ?_
    refine Ops.move (v := (.v (.int .i64 x1.1))) rfl rfl ?_
    obtain ⟨x2, q2, h⟩ := bind_some h
    refine Ops.indexP (c := Granule.cs) (u := x2) rfl rfl q2 rfl rfl rfl rfl ?_
    refine Ops.fieldAddrP rfl rfl rfl rfl ?_
    refine Ops.loadP (u := (.sl (x2.Ticks.map Span.cs))) rfl rfl rfl rfl ?_
    refine Ops.assign (v := (.v (.sl (x2.Ticks.map Span.cs)))) rfl rfl ?_
    refine Ops.assign (v := (.v (.int .i64 0))) rfl rfl ?_
    refine Ops.assign (v := (.v (.int .i64 0))) rfl rfl ?_
    apply Ops.nil
    replace H := H.all
    apply Runs.ret
    replace h := Option.some.inj h; subst h
    exact (Ends.H (xs := [(.v (.sl (x2.Ticks.map Span.cs))), (.v (.int .i64 0)), (.v (.int .i64 0))]) (.inr rfl) H (.tmp (v := (.v (.sl (x2.Ticks.map Span.cs)))) rfl (.tmp (v := (.v (.int .i64 0))) rfl (.tmp (v := (.v (.int .i64 0))) rfl .nil))) (.two (.cons (.c (.v _)) (.cons (.c (.v _)) (.cons (.c (.v _)) .nil)))))
  · replace h := cond_F hc1 h
    apply Runs.skip
    apply Runs.then
    apply Runs.then
    refine Runs.regionH 3 rfl H ?_; intro b5 σ H
    refine Ops.fieldAddrH (off := 0) (fo := 1) H 0 rfl rfl rfl rfl rfl nofun rfl ?_
    refine Ops.loadH (off := 1) (v := (.v (.int .i64 f.Count))) H 0 rfl rfl rfl rfl rfl nofun rfl ?_
    refine Ops.int (m := f.Count) (m' := 0) (r := .bool (f.Count == 0)) rfl rfl rfl rfl rfl ?_
    apply Ops.nil
    replace H := H.all
    refine Runs.whether (v := (f.Count == 0)) rfl ?_ ?_ <;> intro hc2
    · replace h := cond_T hc2 h
      apply Runs.then
      refine Runs.regionH 3 rfl H ?_; intro b6 σ H
      refine Ops.assign (v := .nils) rfl rfl ?_
      refine Ops.assign (v := (.v (.int .i64 0))) rfl rfl ?_
      refine Ops.assign (v := (.v (.int .i64 0))) rfl rfl ?_
      apply Ops.nil
      replace H := H.all
      apply Runs.ret
      replace h := Option.some.inj h; subst h
      exact (Ends.H (xs := [.nils, (.v (.int .i64 0)), (.v (.int .i64 0))]) (.inr rfl) H (.tmp (v := .nils) rfl (.tmp (v := (.v (.int .i64 0))) rfl (.tmp (v := (.v (.int .i64 0))) rfl .nil))) (.two (.cons (.c .n) (.cons (.c (.v _)) (.cons (.c (.v _)) .nil)))))
    · replace h := cond_F hc2 h
      apply Runs.skip
      apply Runs.then
      refine Runs.regionH 11 rfl H ?_; intro b7 σ H
      refine Ops.move (v := (.v (.int .i64 i))) rfl rfl ?_
      refine Ops.fieldAddrH (off := 0) (fo := 1) H 0 rfl rfl rfl rfl rfl nofun rfl ?_
      refine Ops.loadH (off := 1) (v := (.v (.int .i64 f.Count))) H 0 rfl rfl rfl rfl rfl nofun rfl ?_
      obtain ⟨x3, q3, h⟩ := bind_some h
      refine Ops.call (ys := [(.v (.int .i64 i)), (.v (.int .i64 f.Count))]) (r := (.tup [(.v (.int .i64 x3.1)), (.v (.int .i64 x3.2.1)), (.v (.int .i64 x3.2.2))])) rfl (safe_Floor_fn q3) rfl ?_
      refine Ops.move (v := (.tup [(.v (.int .i64 x3.1)), (.v (.int .i64 x3.2.1)), (.v (.int .i64 x3.2.2))])) rfl rfl ?_
      refine Ops.extract (v := (.v (.int .i64 x3.1))) rfl rfl rfl ?_
      refine Ops.extract (v := (.v (.int .i64 x3.2.1))) rfl rfl rfl ?_
      refine Ops.extract (v := (.v (.int .i64 x3.2.2))) rfl rfl rfl ?_
      refine Ops.assign (v := (.v (.int .i64 x3.1))) rfl rfl ?_
      refine Ops.assign (v := (.v (.int .i64 x3.2.1))) rfl rfl ?_
      refine Ops.assign (v := (.v (.int .i64 x3.2.2))) rfl rfl ?_
      apply Ops.nil
      replace H := H.all
      apply Runs.then
      refine Runs.regionH 9 rfl H ?_; intro b8 σ H
      refine Ops.move (v := (.v (.int .i64 x3.1))) rfl rfl ?_
      refine Ops.fieldAddrH (off := 0) (fo := 0) H 0 rfl rfl rfl rfl rfl nofun rfl ?_
      refine Ops.loadH (off := 0) (v := (.v (.int .i64 f.Period))) H 0 rfl rfl rfl rfl rfl nofun rfl ?_
      refine Ops.call (ys := [(.v (.int .i64 x3.1)), (.v (.int .i64 f.Period))]) (r := (.tup [(.v (.int .i64 (safe_Mul x3.1 f.Period).1)), (.v (.int .i64 (safe_Mul x3.1 f.Period).2))])) rfl (safe_Mul_fn rfl) rfl ?_
      refine Ops.move (v := (.tup [(.v (.int .i64 (safe_Mul x3.1 f.Period).1)), (.v (.int .i64 (safe_Mul x3.1 f.Period).2))])) rfl rfl ?_
      refine Ops.extract (v := (.v (.int .i64 (safe_Mul x3.1 f.Period).1))) rfl rfl rfl ?_
      refine Ops.extract (v := (.v (.int .i64 (safe_Mul x3.1 f.Period).2))) rfl rfl rfl ?_
      refine Ops.assign (v := (.v (.int .i64 (safe_Mul x3.1 f.Period).1))) rfl rfl ?_
      refine Ops.assign (v := (.v (.int .i64 (safe_Mul x3.1 f.Period).2))) rfl rfl ?_
      apply Ops.nil
      replace H := H.all
      apply Runs.then
      refine Runs.regionH 10 rfl H ?_; intro b9 σ H
      refine Ops.fieldAddrH (off := 0) (fo := 2) H 0 rfl rfl rfl rfl rfl nofun rfl ?_
      refine Ops.loadH (off := 2) (v := (.v (.sl (f.Core.map (cL Span.cs))))) H 0 rfl rfl rfl rfl rfl nofun rfl ?_
      refine Ops.move (v := (.v (.int .i64 x3.2.1))) rfl rfl ?_
      obtain ⟨x4, q4, h⟩ := bind_some h
      refine Ops.indexP (c := (cL Span.cs)) (u := x4) rfl rfl q4 rfl rfl rfl rfl ?_
      refine Ops.loadP (u := (.sl (x4.map Span.cs))) rfl rfl rfl rfl ?_
      refine Ops.move (v := (.v (.int .i64 (safe_Mul x3.1 f.Period).1))) rfl rfl ?_
      refine Ops.move (v := (.v (.int .i64 (safe_Mul x3.1 f.Period).2))) rfl rfl ?_
      refine Ops.assign (v := (.v (.sl (x4.map Span.cs)))) rfl rfl ?_
      refine Ops.assign (v := (.v (.int .i64 (safe_Mul x3.1 f.Period).1))) rfl rfl ?_
      refine Ops.assign (v := (.v (.int .i64 (safe_Mul x3.1 f.Period).2))) rfl rfl ?_
      apply Ops.nil
      replace H := H.all
      apply Runs.ret
      replace h := Option.some.inj h; subst h
      exact (Ends.H (xs := [(.v (.sl (x4.map Span.cs))), (.v (.int .i64 (safe_Mul x3.1 f.Period).1)), (.v (.int .i64 (safe_Mul x3.1 f.Period).2))]) (.inr rfl) H (.tmp (v := (.v (.sl (x4.map Span.cs)))) rfl (.tmp (v := (.v (.int .i64 (safe_Mul x3.1 f.Period).1))) rfl (.tmp (v := (.v (.int .i64 (safe_Mul x3.1 f.Period).2))) rfl .nil))) (.two (.cons (.c (.v _)) (.cons (.c (.v _)) (.cons (.c (.v _)) .nil)))))

set_option maxRecDepth 100000 in
set_option maxHeartbeats 4000000 in
theorem safe_Add_fn {a : Int} {b : Int} {r : Int × Int} (h : safe_Add a b = r) : Fn CX 43 [(.v (.int .i64 a)), (.v (.int .i64 b))] (.tup [(.v (.int .i64 r.1)), (.v (.int .i64 r.2))]) := by
  refine Fn.ends Try.func43 rfl rfl rfl rfl rfl rfl ?_
  have H : Hs (⟨0, fun _ => .none⟩ : Heap) [] := Has.nil (Nat.le_refl _)
  generalize (⟨0, fun _ => .none⟩ : Heap) = σ at H ⊢
  unfold safe_Add at h
  apply Runs.then
  refine Runs.regionH 2 rfl H ?_; intro b1 σ H
  refine Ops.assign (v := (.v (.int .i64 0))) rfl rfl ?_
  refine Ops.assign (v := (.v (.int .i64 0))) rfl rfl ?_
  apply Ops.nil
  replace H := H.all
  apply Runs.then
  refine Runs.regionH 4 rfl H ?_; intro b2 σ H
  refine Ops.move (v := (.v (.int .i64 a))) rfl rfl ?_
  refine Ops.move (v := (.v (.int .i64 b))) rfl rfl ?_
  refine Ops.int (m := a) (m' := b) (r := .int .i64 (w64 (a + b))) rfl rfl rfl rfl rfl ?_
  refine Ops.assign (v := (.v (.int .i64 (w64 (a + b))))) rfl rfl ?_
  apply Ops.nil
  replace H := H.all
  apply Runs.then
  apply Runs.then
  refine Runs.regionH 10 rfl H ?_; intro b3 σ H
  refine Ops.move (v := (.v (.int .i64 (w64 (a + b))))) rfl rfl ?_
  refine Ops.move (v := (.v (.int .i64 a))) rfl rfl ?_
  refine Ops.int (m := (w64 (a + b))) (m' := a) (r := .bool (decide ((w64 (a + b)) > a))) rfl rfl rfl rfl rfl ?_
  refine Ops.move (v := (.v (.int .i64 b))) rfl rfl ?_
  refine Ops.int (m := b) (m' := 0) (r := .bool (decide (b > 0))) rfl rfl rfl rfl rfl ?_
  refine Ops.neB (b := (decide ((w64 (a + b)) > a))) (b' := (decide (b > 0))) rfl rfl rfl rfl ?_
  refine Ops.move (v := (.v (.bool ((decide ((w64 (a + b)) > a)) != (decide (b > 0)))))) rfl rfl ?_
  refine Ops.mid 3 (K1 := fun e σ => EnvHas e [(19, (.v (.bool (((decide ((w64 (a + b)) > a)) != (decide (b > 0))) && (b != 0))))), (6, (.v (.int .i64 (w64 (a + b)))))] ∧ Has σ (b3 + 10) (b3 + 10) []) rfl ?_ ?_
  · refine Ops.split rfl rfl ?_ ?_ <;> intro hc1
    · skip
      refine Ops.wanted rfl rfl ?_
      refine Ops.move (v := (.v (.int .i64 b))) rfl rfl ?_
      refine Ops.wanted rfl rfl ?_
      refine Ops.int (m := b) (m' := 0) (r := .bool (b != 0)) rfl rfl rfl rfl rfl ?_
      refine Ops.pickT (v := (.v (.bool (b != 0)))) rfl rfl rfl ?_
      apply Ops.nil
      exact ⟨⟨and_T hc1, rfl, trivial⟩, H.weak (by omega) (Nat.le_refl _)⟩
    · skip
      refine Ops.pass rfl rfl rfl ?_
      refine Ops.pass rfl rfl rfl ?_
      refine Ops.pickF (v := (.v (.bool false))) rfl rfl rfl ?_
      apply Ops.nil
      exact ⟨⟨and_F hc1, rfl, trivial⟩, H.weak (by omega) (Nat.le_refl _)⟩
  · rintro e σ ⟨he, H⟩
    obtain ⟨e, rfl⟩ := he.ex
    apply Ops.nil
    replace H := H.all
    refine Runs.whether (v := (((decide ((w64 (a + b)) > a)) != (decide (b > 0))) && (b != 0))) rfl ?_ ?_ <;> intro hc2
    · replace h := cond_T hc2 h
      apply Runs.then
      refine Runs.regionH 2 rfl H ?_; intro b4 σ H
      refine Ops.assign (v := (.v (.int .i64 0))) rfl rfl ?_
      refine Ops.assign (v := (.v (.int .i64 10))) rfl rfl ?_
      apply Ops.nil
      replace H := H.all
      apply Runs.ret
      subst h
      exact (Ends.H (xs := [(.v (.int .i64 0)), (.v (.int .i64 10))]) (.inr rfl) H (.tmp (v := (.v (.int .i64 0))) rfl (.tmp (v := (.v (.int .i64 10))) rfl .nil)) (.two (.cons (.c (.v _)) (.cons (.c (.v _)) .nil))))
    · replace h := cond_F hc2 h
      apply Runs.skip
      apply Runs.then
      refine Runs.regionH 3 rfl H ?_; intro b5 σ H
      refine Ops.move (v := (.v (.int .i64 (w64 (a + b))))) rfl rfl ?_
      refine Ops.assign (v := (.v (.int .i64 (w64 (a + b))))) rfl rfl ?_
      refine Ops.assign (v := (.v (.int .i64 0))) rfl rfl ?_
      apply Ops.nil
      replace H := H.all
      apply Runs.ret
      subst h
      exact (Ends.H (xs := [(.v (.int .i64 (w64 (a + b)))), (.v (.int .i64 0))]) (.inr rfl) H (.tmp (v := (.v (.int .i64 (w64 (a + b))))) rfl (.tmp (v := (.v (.int .i64 0))) rfl .nil)) (.two (.cons (.c (.v _)) (.cons (.c (.v _)) .nil))))

end Go.Dn

set_option linter.unusedVariables false
set_option linter.unusedSimpArgs false
namespace Go.Dn
open Go Go.Proofs

set_option maxRecDepth 100000 in
set_option maxHeartbeats 4000000 in
theorem spans_Move_fn {l : (List Span)} {by' : Int} {r : (List Span) × Int} (h : spans_Move l by' = some r) : Fn CX 21 [(.v (.sl (l.map Span.cs))), (.v (.int .i64 by'))] (.tup [(.v (.sl (r.1.map Span.cs))), (.v (.int .i64 r.2))]) := by
  refine Fn.ends Try.func21 rfl rfl rfl rfl rfl rfl ?_
  have H : Hs (⟨0, fun _ => .none⟩ : Heap) [] := Has.nil (Nat.le_refl _)
  generalize (⟨0, fun _ => .none⟩ : Heap) = σ at H ⊢
  unfold spans_Move at h
  apply Runs.then
  refine Runs.regionH 2 rfl H ?_; intro b1 σ H
  refine Ops.assign (v := .nils) rfl rfl ?_
  refine Ops.assign (v := (.v (.int .i64 0))) rfl rfl ?_
  apply Ops.nil
  replace H := H.all
  apply Runs.then
  refine Runs.regionH 1 rfl H ?_; intro b2 σ H
  refine Ops.assign (v := .nils) rfl rfl ?_
  apply Ops.nil
  replace H := H.all
  apply Runs.then
  apply Runs.then
  refine Runs.regionH 3 rfl H ?_; intro b3 σ H
  refine Ops.move (v := (.v (.sl (l.map Span.cs)))) rfl rfl ?_
  refine Ops.lenPt (c := Span.cs) (xs := l) rfl rfl rfl ?_
  refine Ops.move (v := (.v (.int .i64 0))) rfl rfl ?_
  apply Ops.nil
  replace H := H.all
  apply Runs.inBlock
  replace H := H.pushNil 43 2 true
  obtain ⟨y1, hj1, h⟩ := bind_some h
  obtain ⟨n1, hj1⟩ := loopO_iff.1 hj1
  refine Runs.mono (Runs.loopO hj1 (fun s2 e σ => ∃ (w3 : PV), EnvHas e [(1, (.v (.int .i64 by'))), (6, w3), (13, (.v (.sl (l.map Span.cs)))), (14, (.v (.int .i64 (l.length : Int)))), (15, (.v (.int .i64 s2.1)))] ∧ Hs σ [.sl w3 43 2 (s2.2.map Span.cs) true]) (fun y1 x e σ => (∃ a1, ∃ (w4 : PV), y1 = (.go a1) ∧ x = .exit 0 ∧ EnvHas e [(6, w4)] ∧ Hs σ [.sl w4 43 2 (a1.map Span.cs) true]) ∨ (∃ r', y1 = (.ret r') ∧ x = .ret ∧ Ends CX Try.f21.results.toList (.tup [(.v (.sl (r'.1.map Span.cs))), (.v (.int .i64 r'.2))]) x e σ)) ⟨.nils, ⟨rfl, rfl, rfl, rfl, rfl, trivial⟩, H⟩ ?_) ?_
  · intro s2 e σ hI z h
    obtain ⟨w3, he, H⟩ := hI
    obtain ⟨e, rfl⟩ := he.ex
    unfold spans_Move.s0 at h
    apply Runs.then
    refine Runs.regionH 1 rfl H ?_; intro b4 σ H
    refine Ops.int (m := s2.1) (m' := (l.length : Int)) (r := .bool (decide (s2.1 < (l.length : Int)))) rfl rfl rfl rfl rfl ?_
    apply Ops.nil
    replace H := H.all
    apply Runs.then
    refine Runs.whether (v := (decide (s2.1 < (l.length : Int)))) rfl ?_ ?_ <;> intro hc1
    · replace h := cond_T hc1 h
      apply Runs.skip
      apply Runs.then
      apply Runs.inBlock
      apply Runs.then
      refine Runs.regionH 4 rfl H ?_; intro b5 σ H
      obtain ⟨x1, q1, h⟩ := bind_some h
      refine Ops.indexP (c := Span.cs) (u := x1) rfl rfl q1 rfl rfl rfl rfl ?_
      refine Ops.loadPA (cs := [(.int .i64 x1.From), (.int .i64 x1.To)]) rfl rfl rfl rfl rfl rfl ?_
      refine Ops.allocH (cs := [(.v (.int .i64 0)), (.v (.int .i64 0))]) H (by omega) (by omega) rfl rfl ?_; intro σ H
      refine Ops.storeH (off := 0) (v := (.agg [(.v (.int .i64 x1.From)), (.v (.int .i64 x1.To))])) (ys := [(.v (.int .i64 x1.From)), (.v (.int .i64 x1.To))]) (cells' := [(.v (.int .i64 x1.From)), (.v (.int .i64 x1.To))]) H 0 rfl rfl rfl rfl rfl rfl rfl rfl rfl nofun ?_; intro σ H
      apply Ops.nil
      replace H := H.all
      apply Runs.then
      refine Runs.regionH 9 rfl H ?_; intro b6 σ H
      refine Ops.fieldAddrH (off := 0) (fo := 0) H 0 rfl rfl rfl rfl rfl nofun rfl ?_
      refine Ops.loadH (off := 0) (v := (.v (.int .i64 x1.From))) H 0 rfl rfl rfl rfl rfl nofun rfl ?_
      refine Ops.move (v := (.v (.int .i64 by'))) rfl rfl ?_
      refine Ops.call (ys := [(.v (.int .i64 x1.From)), (.v (.int .i64 by'))]) (r := (.tup [(.v (.int .i64 (safe_Add x1.From by').1)), (.v (.int .i64 (safe_Add x1.From by').2))])) rfl (safe_Add_fn rfl) rfl ?_
      refine Ops.move (v := (.tup [(.v (.int .i64 (safe_Add x1.From by').1)), (.v (.int .i64 (safe_Add x1.From by').2))])) rfl rfl ?_
      refine Ops.extract (v := (.v (.int .i64 (safe_Add x1.From by').1))) rfl rfl rfl ?_
      refine Ops.extract (v := (.v (.int .i64 (safe_Add x1.From by').2))) rfl rfl rfl ?_
      refine Ops.assign (v := (.v (.int .i64 (safe_Add x1.From by').1))) rfl rfl ?_
      refine Ops.assign (v := (.v (.int .i64 (safe_Add x1.From by').2))) rfl rfl ?_
      apply Ops.nil
      replace H := H.all
      apply Runs.then
      refine Runs.regionH 9 rfl H ?_; intro b7 σ H
      refine Ops.fieldAddrH (off := 0) (fo := 1) H 0 rfl rfl rfl rfl rfl nofun rfl ?_
      refine Ops.loadH (off := 1) (v := (.v (.int .i64 x1.To))) H 0 rfl rfl rfl rfl rfl nofun rfl ?_
      refine Ops.move (v := (.v (.int .i64 by'))) rfl rfl ?_
      refine Ops.call (ys := [(.v (.int .i64 x1.To)), (.v (.int .i64 by'))]) (r := (.tup [(.v (.int .i64 (safe_Add x1.To by').1)), (.v (.int .i64 (safe_Add x1.To by').2))])) rfl (safe_Add_fn rfl) rfl ?_
      refine Ops.move (v := (.tup [(.v (.int .i64 (safe_Add x1.To by').1)), (.v (.int .i64 (safe_Add x1.To by').2))])) rfl rfl ?_
      refine Ops.extract (v := (.v (.int .i64 (safe_Add x1.To by').1))) rfl rfl rfl ?_
      refine Ops.extract (v := (.v (.int .i64 (safe_Add x1.To by').2))) rfl rfl rfl ?_
      refine Ops.assign (v := (.v (.int .i64 (safe_Add x1.To by').1))) rfl rfl ?_
      refine Ops.assign (v := (.v (.int .i64 (safe_Add x1.To by').2))) rfl rfl ?_
      apply Ops.nil
      replace H := H.all
      apply Runs.then
      apply Runs.then
      refine Runs.regionH 16 rfl H ?_; intro b8 σ H
      refine Ops.move (v := (.v (.int .i64 (safe_Add x1.From by').2))) rfl rfl ?_
      refine Ops.int (m := (safe_Add x1.From by').2) (m' := 0) (r := .bool (((safe_Add x1.From by').2) != 0)) rfl rfl rfl rfl rfl ?_
      refine Ops.move (v := (.v (.bool (((safe_Add x1.From by').2) != 0)))) rfl rfl ?_
      refine Ops.mid 3 (K1 := fun e σ => EnvHas e [(38, (.v (.bool ((((safe_Add x1.From by').2) != 0) || (((safe_Add x1.To by').2) != 0))))), (1, (.v (.int .i64 by'))), (6, w3), (9, (.v (.int .i64 (safe_Add x1.From by').1))), (11, (.v (.int .i64 (safe_Add x1.To by').1))), (13, (.v (.sl (l.map Span.cs)))), (14, (.v (.int .i64 (l.length : Int)))), (15, (.v (.int .i64 s2.1)))] ∧ Has σ (b8 + 6) (b8 + 16) [.sl w3 43 2 (s2.2.map Span.cs) true]) rfl ?_ ?_
      · refine Ops.split rfl rfl ?_ ?_ <;> intro hc2
        · skip
          refine Ops.pass rfl rfl rfl ?_
          refine Ops.pass rfl rfl rfl ?_
          refine Ops.pickT (v := (.v (.bool true))) rfl rfl rfl ?_
          apply Ops.nil
          exact ⟨⟨or_T hc2, rfl, rfl, rfl, rfl, rfl, rfl, rfl, trivial⟩, (H.erase 0).weak (by omega) (Nat.le_refl _)⟩
        · skip
          refine Ops.wanted rfl rfl ?_
          refine Ops.move (v := (.v (.int .i64 (safe_Add x1.To by').2))) rfl rfl ?_
          refine Ops.wanted rfl rfl ?_
          refine Ops.int (m := (safe_Add x1.To by').2) (m' := 0) (r := .bool (((safe_Add x1.To by').2) != 0)) rfl rfl rfl rfl rfl ?_
          refine Ops.pickF (v := (.v (.bool (((safe_Add x1.To by').2) != 0)))) rfl rfl rfl ?_
          apply Ops.nil
          exact ⟨⟨or_F hc2, rfl, rfl, rfl, rfl, rfl, rfl, rfl, trivial⟩, (H.erase 0).weak (by omega) (Nat.le_refl _)⟩
      · rintro e σ ⟨he, H⟩
        obtain ⟨e, rfl⟩ := he.ex
        refine Ops.move (v := (.v (.bool ((((safe_Add x1.From by').2) != 0) || (((safe_Add x1.To by').2) != 0))))) rfl rfl ?_
        refine Ops.mid 4 (K1 := fun e σ => EnvHas e [(43, (.v (.bool (((((safe_Add x1.From by').2) != 0) || (((safe_Add x1.To by').2) != 0)) || (!(spans_tick ((safe_Add x1.From by').1))))))), (1, (.v (.int .i64 by'))), (6, w3), (9, (.v (.int .i64 (safe_Add x1.From by').1))), (11, (.v (.int .i64 (safe_Add x1.To by').1))), (13, (.v (.sl (l.map Span.cs)))), (14, (.v (.int .i64 (l.length : Int)))), (15, (.v (.int .i64 s2.1)))] ∧ Has σ (b8 + 11) (b8 + 16) [.sl w3 43 2 (s2.2.map Span.cs) true]) rfl ?_ ?_
        · refine Ops.split rfl rfl ?_ ?_ <;> intro hc3
          · skip
            refine Ops.pass rfl rfl rfl ?_
            refine Ops.pass rfl rfl rfl ?_
            refine Ops.pass rfl rfl rfl ?_
            refine Ops.pickT (v := (.v (.bool true))) rfl rfl rfl ?_
            apply Ops.nil
            exact ⟨⟨or_T hc3, rfl, rfl, rfl, rfl, rfl, rfl, rfl, trivial⟩, H.weak (by omega) (Nat.le_refl _)⟩
          · skip
            refine Ops.wanted rfl rfl ?_
            refine Ops.move (v := (.v (.int .i64 (safe_Add x1.From by').1))) rfl rfl ?_
            refine Ops.wanted rfl rfl ?_
            refine Ops.call (ys := [(.v (.int .i64 (safe_Add x1.From by').1))]) (r := (.v (.bool (spans_tick ((safe_Add x1.From by').1))))) rfl (spans_tick_fn rfl) rfl ?_
            refine Ops.wanted rfl rfl ?_
            refine Ops.not (b := (spans_tick ((safe_Add x1.From by').1))) rfl rfl ?_
            refine Ops.pickF (v := (.v (.bool (!(spans_tick ((safe_Add x1.From by').1)))))) rfl rfl rfl ?_
            apply Ops.nil
            exact ⟨⟨or_F hc3, rfl, rfl, rfl, rfl, rfl, rfl, rfl, trivial⟩, H.weak (by omega) (Nat.le_refl _)⟩
        · rintro e σ ⟨he, H⟩
          obtain ⟨e, rfl⟩ := he.ex
          refine Ops.move (v := (.v (.bool (((((safe_Add x1.From by').2) != 0) || (((safe_Add x1.To by').2) != 0)) || (!(spans_tick ((safe_Add x1.From by').1))))))) rfl rfl ?_
          refine Ops.mid 4 (K1 := fun e σ => EnvHas e [(48, (.v (.bool ((((((safe_Add x1.From by').2) != 0) || (((safe_Add x1.To by').2) != 0)) || (!(spans_tick ((safe_Add x1.From by').1)))) || (!(spans_tick ((safe_Add x1.To by').1))))))), (1, (.v (.int .i64 by'))), (6, w3), (9, (.v (.int .i64 (safe_Add x1.From by').1))), (11, (.v (.int .i64 (safe_Add x1.To by').1))), (13, (.v (.sl (l.map Span.cs)))), (14, (.v (.int .i64 (l.length : Int)))), (15, (.v (.int .i64 s2.1)))] ∧ Has σ (b8 + 16) (b8 + 16) [.sl w3 43 2 (s2.2.map Span.cs) true]) rfl ?_ ?_
          · refine Ops.split rfl rfl ?_ ?_ <;> intro hc4
            · skip
              refine Ops.pass rfl rfl rfl ?_
              refine Ops.pass rfl rfl rfl ?_
              refine Ops.pass rfl rfl rfl ?_
              refine Ops.pickT (v := (.v (.bool true))) rfl rfl rfl ?_
              apply Ops.nil
              exact ⟨⟨or_T hc4, rfl, rfl, rfl, rfl, rfl, rfl, rfl, trivial⟩, H.weak (by omega) (Nat.le_refl _)⟩
            · skip
              refine Ops.wanted rfl rfl ?_
              refine Ops.move (v := (.v (.int .i64 (safe_Add x1.To by').1))) rfl rfl ?_
              refine Ops.wanted rfl rfl ?_
              refine Ops.call (ys := [(.v (.int .i64 (safe_Add x1.To by').1))]) (r := (.v (.bool (spans_tick ((safe_Add x1.To by').1))))) rfl (spans_tick_fn rfl) rfl ?_
              refine Ops.wanted rfl rfl ?_
              refine Ops.not (b := (spans_tick ((safe_Add x1.To by').1))) rfl rfl ?_
              refine Ops.pickF (v := (.v (.bool (!(spans_tick ((safe_Add x1.To by').1)))))) rfl rfl rfl ?_
              apply Ops.nil
              exact ⟨⟨or_F hc4, rfl, rfl, rfl, rfl, rfl, rfl, rfl, trivial⟩, H.weak (by omega) (Nat.le_refl _)⟩
          · rintro e σ ⟨he, H⟩
            obtain ⟨e, rfl⟩ := he.ex
            apply Ops.nil
            replace H := H.all
            refine Runs.whether (v := ((((((safe_Add x1.From by').2) != 0) || (((safe_Add x1.To by').2) != 0)) || (!(spans_tick ((safe_Add x1.From by').1)))) || (!(spans_tick ((safe_Add x1.To by').1))))) rfl ?_ ?_ <;> intro hc5
            · replace h := cond_T hc5 h
              apply Runs.then
              refine Runs.regionH 2 rfl H ?_; intro b9 σ H
              refine Ops.assign (v := .nils) rfl rfl ?_
              refine Ops.assign (v := (.v (.int .i64 20))) rfl rfl ?_
              apply Ops.nil
              replace H := H.all
              apply Runs.ret
              replace h := Option.some.inj h; subst h
              exact ⟨nofun, (.inr ⟨_, rfl, rfl, (Ends.H (xs := [.nils, (.v (.int .i64 20))]) (.inr rfl) H (.tmp (v := .nils) rfl (.tmp (v := (.v (.int .i64 20))) rfl .nil)) (.two (.cons (.c .n) (.cons (.c (.v _)) .nil))))⟩)⟩
            · replace h := cond_F hc5 h
              apply Runs.skip
              refine Runs.regionH 7 rfl H ?_; intro b10 σ H
              refine Ops.move (v := w3) rfl rfl ?_
              refine Ops.move (v := (.v (.int .i64 (safe_Add x1.From by').1))) rfl rfl ?_
              refine Ops.move (v := (.v (.int .i64 (safe_Add x1.To by').1))) rfl rfl ?_
              refine Ops.buildA (cs := [(.v (.int .i64 (safe_Add x1.From by').1)), (.v (.int .i64 (safe_Add x1.To by').1))]) rfl rfl ?_
              refine Ops.buildS (sz := 2) ([(Span.mk ((safe_Add x1.From by').1) ((safe_Add x1.To by').1))].map Span.cs) H (by omega) (by omega) rfl rfl rfl rfl rfl rfl rfl rfl rfl ?_; intro σ H
              obtain ⟨x2, q2, h⟩ := bind_some h
              refine Ops.appendSt (c := Span.cs) (v := w3) (w := (.buf (b10 + 4) 1 2)) (xs := s2.2) (ys := [(Span.mk ((safe_Add x1.From by').1) ((safe_Add x1.To by').1))]) H (by omega) (by omega) 1 rfl rfl rfl (.s 0 rfl) q2 rfl rfl rfl rfl rfl nofun rfl ?_; intro w5 σ H
              refine Ops.assign (v := w5) rfl rfl ?_
              apply Ops.nil
              replace H := H.all
              refine Runs.regionH 2 rfl H ?_; intro b11 σ H
              refine Ops.int (m := s2.1) (m' := 1) (r := .int .i64 (w64 (s2.1 + 1))) rfl rfl rfl rfl rfl ?_
              refine Ops.move (v := (.v (.int .i64 (w64 (s2.1 + 1))))) rfl rfl ?_
              apply Ops.nil
              replace H := H.all
              replace h := Option.some.inj h; subst h
              exact ⟨rfl, w5, ⟨rfl, rfl, rfl, rfl, rfl, trivial⟩, (H.erase 0)⟩
    · replace h := cond_F hc1 h
      apply Runs.exit
      replace h := Option.some.inj h; subst h
      exact ⟨nofun, (.inl ⟨_, w3, rfl, rfl, ⟨rfl, trivial⟩, H⟩)⟩
  · rintro x e σ (⟨a2, w6, rfl, rfl, he, H⟩ | ⟨r', rfl, rfl, hE⟩)
    · skip
      replace h := jgo h
      obtain ⟨e, rfl⟩ := he.ex
      apply Runs.then
      refine Runs.regionH 3 rfl H ?_; intro b12 σ H
      refine Ops.move (v := w6) rfl rfl ?_
      refine Ops.assign (v := w6) rfl rfl ?_
      refine Ops.assign (v := (.v (.int .i64 0))) rfl rfl ?_
      apply Ops.nil
      replace H := H.all
      apply Runs.ret
      replace h := Option.some.inj h; subst h
      exact (Ends.H (xs := [w6, (.v (.int .i64 0))]) (.inr rfl) H (.tmp (v := w6) rfl (.tmp (v := (.v (.int .i64 0))) rfl .nil)) (.two (.cons (.c (.s 0 rfl)) (.cons (.c (.v _)) .nil))))
    · skip
      replace h := jret h
      replace h := Option.some.inj h; subst h
      exact hE

set_option maxRecDepth 100000 in
set_option maxHeartbeats 4000000 in
theorem gran_Get_fn {f : Form} {i : Int} {r : (List Span) × Int} (h : gran_Get f i = some r) : Fn CX 16 [(.agg (vs (Form.cs f))), (.v (.int .i64 i))] (.tup [(.v (.sl (r.1.map Span.cs))), (.v (.int .i64 r.2))]) := by
  refine Fn.ends Try.func16 rfl rfl rfl rfl rfl rfl ?_
  have H : Hs (⟨0, fun _ => .none⟩ : Heap) [] := Has.nil (Nat.le_refl _)
  generalize (⟨0, fun _ => .none⟩ : Heap) = σ at H ⊢
  unfold gran_Get at h
  apply Runs.then
  refine Runs.regionH 3 rfl H ?_; intro b1 σ H
  refine Ops.boxH (v := (.agg [(.v (.int .i64 f.Period)), (.v (.int .i64 f.Count)), (.v (.sl (f.Core.map (cL Span.cs)))), (.v (.sl (f.Odd.map Granule.cs)))])) (cs := [(.v (.int .i64 f.Period)), (.v (.int .i64 f.Count)), (.v (.sl (f.Core.map (cL Span.cs)))), (.v (.sl (f.Odd.map Granule.cs)))]) H (by omega) (by omega) rfl rfl rfl ?_; intro σ H
  refine Ops.assign (v := .nils) rfl rfl ?_
  refine Ops.assign (v := (.v (.int .i64 0))) rfl rfl ?_
  apply Ops.nil
  replace H := H.all
  apply Runs.then
  apply Runs.then
  refine Runs.regionH 3 rfl H ?_; intro b2 σ H
  refine Ops.move (v := (.v (.int .i64 i))) rfl rfl ?_
  refine Ops.call (ys := [(.v (.int .i64 i))]) (r := (.v (.bool (gran_inRange i)))) rfl (gran_inRange_fn rfl) rfl ?_
  refine Ops.not (b := (gran_inRange i)) rfl rfl ?_
  apply Ops.nil
  replace H := H.all
  refine Runs.whether (v := (!(gran_inRange i))) rfl ?_ ?_ <;> intro hc1
  · replace h := cond_T hc1 h
    apply Runs.then
    refine Runs.regionH 2 rfl H ?_; intro b3 σ H
    refine Ops.assign (v := .nils) rfl rfl ?_
    refine Ops.assign (v := (.v (.int .i64 20))) rfl rfl ?_
    apply Ops.nil
    replace H := H.all
    apply Runs.ret
    replace h := Option.some.inj h; subst h
    exact (Ends.H (xs := [.nils, (.v (.int .i64 20))]) (.inr rfl) H (.tmp (v := .nils) rfl (.tmp (v := (.v (.int .i64 20))) rfl .nil)) (.two (.cons (.c .n) (.cons (.c (.v _)) .nil))))
  · replace h := cond_F hc1 h
    apply Runs.skip
    apply Runs.then
    refine Runs.regionH 10 rfl H ?_; intro b4 σ H
    refine Ops.loadHA (off := 0) (cs := [(.v (.int .i64 f.Period)), (.v (.int .i64 f.Count)), (.v (.sl (f.Core.map (cL Span.cs)))), (.v (.sl (f.Odd.map Granule.cs)))]) H 0 rfl rfl rfl rfl rfl rfl rfl nofun rfl ?_
    refine Ops.move (v := (.v (.int .i64 i))) rfl rfl ?_
    obtain ⟨x1, q1, h⟩ := bind_some h
    refine Ops.call (ys := [(.agg [(.v (.int .i64 f.Period)), (.v (.int .i64 f.Count)), (.v (.sl (f.Core.map (cL Span.cs)))), (.v (.sl (f.Odd.map Granule.cs)))]), (.v (.int .i64 i))]) (r := (.tup [(.v (.sl (x1.1.map Span.cs))), (.v (.int .i64 x1.2.1)), (.v (.int .i64 x1.2.2))])) rfl (gran_kept_fn q1) rfl ?_
    refine Ops.move (v := (.tup [(.v (.sl (x1.1.map Span.cs))), (.v (.int .i64 x1.2.1)), (.v (.int .i64 x1.2.2))])) rfl rfl ?_
    refine Ops.extract (v := (.v (.sl (x1.1.map Span.cs)))) rfl rfl rfl ?_
    refine Ops.extract (v := (.v (.int .i64 x1.2.1))) rfl rfl rfl ?_
    refine Ops.extract (v := (.v (.int .i64 x1.2.2))) rfl rfl rfl ?_
    refine Ops.assign (v := (.v (.sl (x1.1.map Span.cs)))) rfl rfl ?_
    refine Ops.assign (v := (.v (.int .i64 x1.2.1))) rfl rfl ?_
    refine Ops.assign (v := (.v (.int .i64 x1.2.2))) rfl rfl ?_
    apply Ops.nil
    replace H := H.all
    apply Runs.then
    apply Runs.then
    refine Runs.regionH 3 rfl H ?_; intro b5 σ H
    refine Ops.move (v := (.v (.sl (x1.1.map Span.cs)))) rfl rfl ?_
    refine Ops.lenPt (c := Span.cs) (xs := x1.1) rfl rfl rfl ?_
    refine Ops.int (m := (x1.1.length : Int)) (m' := 0) (r := .bool ((x1.1.length : Int) == 0)) rfl rfl rfl rfl rfl ?_
    apply Ops.nil
    replace H := H.all
    refine Runs.whether (v := ((x1.1.length : Int) == 0)) rfl ?_ ?_ <;> intro hc2
    · replace h := cond_T hc2 h
      apply Runs.then
      refine Runs.regionH 2 rfl H ?_; intro b6 σ H
      refine Ops.assign (v := .nils) rfl rfl ?_
      refine Ops.assign (v := (.v (.int .i64 0))) rfl rfl ?_
      apply Ops.nil
      replace H := H.all
      apply Runs.ret
      replace h := Option.some.inj h; subst h
      exact (Ends.H (xs := [.nils, (.v (.int .i64 0))]) (.inr rfl) H (.tmp (v := .nils) rfl (.tmp (v := (.v (.int .i64 0))) rfl .nil)) (.two (.cons (.c .n) (.cons (.c (.v _)) .nil))))
    · replace h := cond_F hc2 h
      apply Runs.skip
      apply Runs.then
      apply Runs.then
      refine Runs.regionH 2 rfl H ?_; intro b7 σ H
      refine Ops.move (v := (.v (.int .i64 x1.2.2))) rfl rfl ?_
      refine Ops.int (m := x1.2.2) (m' := 0) (r := .bool (x1.2.2 != 0)) rfl rfl rfl rfl rfl ?_
      apply Ops.nil
      replace H := H.all
      refine Runs.whether (v := (x1.2.2 != 0)) rfl ?_ ?_ <;> intro hc3
      · replace h := cond_T hc3 h
        apply Runs.then
        refine Runs.regionH 2 rfl H ?_; intro b8 σ H
        refine Ops.assign (v := .nils) rfl rfl ?_
        refine Ops.assign (v := (.v (.int .i64 20))) rfl rfl ?_
        apply Ops.nil
        replace H := H.all
        apply Runs.ret
        replace h := Option.some.inj h; subst h
        exact (Ends.H (xs := [.nils, (.v (.int .i64 20))]) (.inr rfl) H (.tmp (v := .nils) rfl (.tmp (v := (.v (.int .i64 20))) rfl .nil)) (.two (.cons (.c .n) (.cons (.c (.v _)) .nil))))
      · replace h := cond_F hc3 h
        apply Runs.skip
        apply Runs.then
        refine Runs.regionH 7 rfl H ?_; intro b9 σ H
        refine Ops.move (v := (.v (.sl (x1.1.map Span.cs)))) rfl rfl ?_
        refine Ops.move (v := (.v (.int .i64 x1.2.1))) rfl rfl ?_
        obtain ⟨x2, q2, h⟩ := bind_some h
        refine Ops.call (ys := [(.v (.sl (x1.1.map Span.cs))), (.v (.int .i64 x1.2.1))]) (r := (.tup [(.v (.sl (x2.1.map Span.cs))), (.v (.int .i64 x2.2))])) rfl (spans_Move_fn q2) rfl ?_
        refine Ops.extract (v := (.v (.sl (x2.1.map Span.cs)))) rfl rfl rfl ?_
        refine Ops.extract (v := (.v (.int .i64 x2.2))) rfl rfl rfl ?_
        refine Ops.assign (v := (.v (.sl (x2.1.map Span.cs)))) rfl rfl ?_
        refine Ops.assign (v := (.v (.int .i64 x2.2))) rfl rfl ?_
        apply Ops.nil
        replace H := H.all
        apply Runs.ret
        replace h := Option.some.inj h; subst h
        exact (Ends.H (xs := [(.v (.sl (x2.1.map Span.cs))), (.v (.int .i64 x2.2))]) (.inr rfl) H (.tmp (v := (.v (.sl (x2.1.map Span.cs)))) rfl (.tmp (v := (.v (.int .i64 x2.2))) rfl .nil)) (.two (.cons (.c (.v _)) (.cons (.c (.v _)) .nil))))

set_option maxRecDepth 100000 in
set_option maxHeartbeats 4000000 in
theorem slices_IndexFunc_SSSpan_SSpan_fn {s : (List (List Span))} {f : (List Span) → Option Bool} {C : List Res} {cv0 : PV} (hs0 : cv0.still = true) (hp0 : cv0.pure = true → C = []) (hf0 : ∀ z0 y, f z0 = some y → CloH CX cv0 [(.v (.sl (z0.map Span.cs)))] (.v (.bool y)) C) {r : Int} (h : slices_IndexFunc_SSSpan_SSpan s f = some r) : FnH CX 82 [(.v (.sl (s.map (cL Span.cs)))), cv0] (.v (.int .i64 r)) C := by
  refine FnH.of Try.func82 rfl rfl rfl rfl (all_t rfl (all_t hs0 all_nil)) rfl (fun h => hp0 (all_get h 1 rfl)) ?_
  intro σ L hC H
  unfold slices_IndexFunc_SSSpan_SSpan at h
  apply Runs.then
  refine Runs.regionH 1 rfl H ?_; intro b1 σ H
  refine Ops.assign (v := (.v (.int .i64 0))) rfl rfl ?_
  apply Ops.nil
  replace H := H.all
  apply Runs.then
  apply Runs.then
  refine Runs.regionH 3 rfl H ?_; intro b2 σ H
  refine Ops.move (v := (.v (.sl (s.map (cL Span.cs))))) rfl rfl ?_
  refine Ops.lenPt (c := (cL Span.cs)) (xs := s) rfl rfl rfl ?_
  refine Ops.move (v := (.v (.int .i64 0))) rfl rfl ?_
  apply Ops.nil
  replace H := H.all
  apply Runs.inBlock
  obtain ⟨y1, hj1, h⟩ := bind_some h
  obtain ⟨n1, hj1⟩ := loopO_iff.1 hj1
  refine Runs.mono (Runs.loopO hj1 (fun s1 e σ => EnvHas e [(0, (.v (.sl (s.map (cL Span.cs))))), (1, cv0), (7, (.v (.int .i64 (s.length : Int)))), (8, (.v (.int .i64 s1)))] ∧ Hs σ (L)) (fun y1 x e σ => (∃ a1, y1 = (.go a1) ∧ x = .exit 0 ∧ EnvHas e [] ∧ Hs σ (L)) ∨ (∃ r', y1 = (.ret r') ∧ x = .ret ∧ EndsH CX Try.f82.results.toList (.v (.int .i64 r')) L x e σ)) ⟨⟨rfl, rfl, rfl, rfl, trivial⟩, H⟩ ?_) ?_
  · intro s1 e σ hI z h
    obtain ⟨he, H⟩ := hI
    obtain ⟨e, rfl⟩ := he.ex
    unfold slices_IndexFunc_SSSpan_SSpan.s0 at h
    apply Runs.then
    refine Runs.regionH 1 rfl H ?_; intro b3 σ H
    refine Ops.int (m := s1) (m' := (s.length : Int)) (r := .bool (decide (s1 < (s.length : Int)))) rfl rfl rfl rfl rfl ?_
    apply Ops.nil
    replace H := H.all
    apply Runs.then
    refine Runs.whether (v := (decide (s1 < (s.length : Int)))) rfl ?_ ?_ <;> intro hc1
    · replace h := cond_T hc1 h
      apply Runs.skip
      apply Runs.then
      apply Runs.inBlock
      apply Runs.then
      refine Runs.regionH 2 rfl H ?_; intro b4 σ H
      refine Ops.move (v := (.v (.int .i64 s1))) rfl rfl ?_
      refine Ops.assign (v := (.v (.int .i64 s1))) rfl rfl ?_
      apply Ops.nil
      replace H := H.all
      apply Runs.then
      refine Runs.regionH 6 rfl H ?_; intro b5 σ H
      refine Ops.move (v := cv0) rfl rfl ?_
      refine Ops.move (v := (.v (.sl (s.map (cL Span.cs))))) rfl rfl ?_
      refine Ops.move (v := (.v (.int .i64 s1))) rfl rfl ?_
      obtain ⟨x1, q1, h⟩ := bind_some h
      refine Ops.indexP (c := (cL Span.cs)) (u := x1) rfl rfl q1 rfl rfl rfl rfl ?_
      refine Ops.loadP (u := (.sl (x1.map Span.cs))) rfl rfl rfl rfl ?_
      obtain ⟨x2, q2, h⟩ := bind_some h
      refine Ops.callV (cv := cv0) (ys := [(.v (.sl (x1.map Span.cs)))]) (r := (.v (.bool x2))) H rfl rfl (hf0 x1 _ q2) hC nofun rfl ?_; intro σ H
      apply Ops.nil
      replace H := H.all
      refine Runs.whether (v := x2) rfl ?_ ?_ <;> intro hc2
      · replace h := cond_T hc2 h
        apply Runs.then
        refine Runs.regionH 2 rfl H ?_; intro b6 σ H
        refine Ops.move (v := (.v (.int .i64 s1))) rfl rfl ?_
        refine Ops.assign (v := (.v (.int .i64 s1))) rfl rfl ?_
        apply Ops.nil
        replace H := H.all
        apply Runs.ret
        replace h := Option.some.inj h; subst h
        exact ⟨nofun, (.inr ⟨_, rfl, rfl, (EndsH.H (xs := [(.v (.int .i64 s1))]) (.inr rfl) H (.tmp (v := (.v (.int .i64 s1))) rfl .nil) (.one (.c (.v _))) 0 rfl)⟩)⟩
      · replace h := cond_F hc2 h
        apply Runs.skip
        refine Runs.regionH 2 rfl H ?_; intro b7 σ H
        refine Ops.int (m := s1) (m' := 1) (r := .int .i64 (w64 (s1 + 1))) rfl rfl rfl rfl rfl ?_
        refine Ops.move (v := (.v (.int .i64 (w64 (s1 + 1))))) rfl rfl ?_
        apply Ops.nil
        replace H := H.all
        replace h := Option.some.inj h; subst h
        exact ⟨rfl, ⟨rfl, rfl, rfl, rfl, trivial⟩, H⟩
    · replace h := cond_F hc1 h
      apply Runs.exit
      replace h := Option.some.inj h; subst h
      exact ⟨nofun, (.inl ⟨_, rfl, rfl, trivial, H⟩)⟩
  · rintro x e σ (⟨a2, rfl, rfl, he, H⟩ | ⟨r', rfl, rfl, hE⟩)
    · skip
      replace h := jgo h
      obtain ⟨e, rfl⟩ := he.ex
      apply Runs.then
      refine Runs.regionH 1 rfl H ?_; intro b8 σ H
      refine Ops.assign (v := (.v (.int .i64 (-1)))) rfl rfl ?_
      apply Ops.nil
      replace H := H.all
      apply Runs.ret
      replace h := Option.some.inj h; subst h
      exact (EndsH.H (xs := [(.v (.int .i64 (-1)))]) (.inr rfl) H (.tmp (v := (.v (.int .i64 (-1)))) rfl .nil) (.one (.c (.v _))) 0 rfl)
    · skip
      replace h := jret h
      replace h := Option.some.inj h; subst h
      exact hE

set_option maxRecDepth 100000 in
set_option maxHeartbeats 4000000 in
theorem slices_ContainsFunc_SSSpan_SSpan_fn {s : (List (List Span))} {f : (List Span) → Option Bool} {C : List Res} {cv0 : PV} (hs0 : cv0.still = true) (hp0 : cv0.pure = true → C = []) (hf0 : ∀ z0 y, f z0 = some y → CloH CX cv0 [(.v (.sl (z0.map Span.cs)))] (.v (.bool y)) C) {r : Bool} (h : slices_ContainsFunc_SSSpan_SSpan s f = some r) : FnH CX 71 [(.v (.sl (s.map (cL Span.cs)))), cv0] (.v (.bool r)) C := by
  refine FnH.of Try.func71 rfl rfl rfl rfl (all_t rfl (all_t hs0 all_nil)) rfl (fun h => hp0 (all_get h 1 rfl)) ?_
  intro σ L hC H
  unfold slices_ContainsFunc_SSSpan_SSpan at h
  apply Runs.then
  refine Runs.regionH 1 rfl H ?_; intro b1 σ H
  refine Ops.assign (v := (.v (.bool false))) rfl rfl ?_
  apply Ops.nil
  replace H := H.all
  apply Runs.then
  refine Runs.regionH 5 rfl H ?_; intro b2 σ H
  refine Ops.move (v := (.v (.sl (s.map (cL Span.cs))))) rfl rfl ?_
  refine Ops.move (v := cv0) rfl rfl ?_
  obtain ⟨x1, q1, h⟩ := bind_some h
  refine Ops.callH (ys := [(.v (.sl (s.map (cL Span.cs)))), cv0]) (r := (.v (.int .i64 x1))) H rfl (slices_IndexFunc_SSSpan_SSpan_fn (C := C) hs0 hp0 hf0 q1) hC nofun rfl ?_; intro σ H
  refine Ops.int (m := x1) (m' := 0) (r := .bool (decide (x1 ≥ 0))) rfl rfl rfl rfl rfl ?_
  refine Ops.assign (v := (.v (.bool (decide (x1 ≥ 0))))) rfl rfl ?_
  apply Ops.nil
  replace H := H.all
  apply Runs.ret
  replace h := Option.some.inj h; subst h
  exact (EndsH.H (xs := [(.v (.bool (decide (x1 ≥ 0))))]) (.inr rfl) H (.tmp (v := (.v (.bool (decide (x1 ≥ 0))))) rfl .nil) (.one (.c (.v _))) 0 rfl)

set_option maxRecDepth 100000 in
set_option maxHeartbeats 4000000 in
theorem gran_bare_1_fn {l : (List Span)} {r : Bool} (h : gran_bare_1 l = r) : Fn CX 72 [(.v (.sl (l.map Span.cs)))] (.v (.bool r)) := by
  refine Fn.ends Try.func72 rfl rfl rfl rfl rfl rfl ?_
  have H : Hs (⟨0, fun _ => .none⟩ : Heap) [] := Has.nil (Nat.le_refl _)
  generalize (⟨0, fun _ => .none⟩ : Heap) = σ at H ⊢
  unfold gran_bare_1 at h
  apply Runs.then
  refine Runs.regionH 1 rfl H ?_; intro b1 σ H
  refine Ops.assign (v := (.v (.bool false))) rfl rfl ?_
  apply Ops.nil
  replace H := H.all
  apply Runs.then
  refine Runs.regionH 4 rfl H ?_; intro b2 σ H
  refine Ops.move (v := (.v (.sl (l.map Span.cs)))) rfl rfl ?_
  refine Ops.lenPt (c := Span.cs) (xs := l) rfl rfl rfl ?_
  refine Ops.int (m := (l.length : Int)) (m' := 0) (r := .bool (decide ((l.length : Int) > 0))) rfl rfl rfl rfl rfl ?_
  refine Ops.assign (v := (.v (.bool (decide ((l.length : Int) > 0))))) rfl rfl ?_
  apply Ops.nil
  replace H := H.all
  apply Runs.ret
  subst h
  exact (Ends.H (xs := [(.v (.bool (decide ((l.length : Int) > 0))))]) (.inr rfl) H (.tmp (v := (.v (.bool (decide ((l.length : Int) > 0))))) rfl .nil) (.one (.c (.v _))))

set_option maxRecDepth 100000 in
set_option maxHeartbeats 4000000 in
theorem gran_bare_fn {f : Form} {r : Bool} (h : gran_bare f = some r) : Fn CX 59 [(.agg (vs (Form.cs f)))] (.v (.bool r)) := by
  refine Fn.ends Try.func59 rfl rfl rfl rfl rfl rfl ?_
  have H : Hs (⟨0, fun _ => .none⟩ : Heap) [] := Has.nil (Nat.le_refl _)
  generalize (⟨0, fun _ => .none⟩ : Heap) = σ at H ⊢
  unfold gran_bare at h
  apply Runs.then
  refine Runs.regionH 2 rfl H ?_; intro b1 σ H
  refine Ops.boxH (v := (.agg [(.v (.int .i64 f.Period)), (.v (.int .i64 f.Count)), (.v (.sl (f.Core.map (cL Span.cs)))), (.v (.sl (f.Odd.map Granule.cs)))])) (cs := [(.v (.int .i64 f.Period)), (.v (.int .i64 f.Count)), (.v (.sl (f.Core.map (cL Span.cs)))), (.v (.sl (f.Odd.map Granule.cs)))]) H (by omega) (by omega) rfl rfl rfl ?_; intro σ H
  refine Ops.assign (v := (.v (.bool false))) rfl rfl ?_
  apply Ops.nil
  replace H := H.all
  apply Runs.then
  refine Runs.regionH 5 rfl H ?_; intro b2 σ H
  refine Ops.fieldAddrH (off := 0) (fo := 2) H 0 rfl rfl rfl rfl rfl nofun rfl ?_
  refine Ops.loadH (off := 2) (v := (.v (.sl (f.Core.map (cL Span.cs))))) H 0 rfl rfl rfl rfl rfl nofun rfl ?_
  obtain ⟨x1, q1, h⟩ := bind_some h
  refine Ops.callH (ys := [(.v (.sl (f.Core.map (cL Span.cs)))), (.v (.fn 72))]) (r := (.v (.bool x1))) H rfl (slices_ContainsFunc_SSSpan_SSpan_fn (C := []) rfl (fun _ => rfl) (fun z0 y hz => (CloH.fn (Fn.toH (gran_bare_1_fn (Option.some.inj hz)) _))) q1) .nil nofun rfl ?_; intro σ H
  refine Ops.not (b := x1) rfl rfl ?_
  refine Ops.assign (v := (.v (.bool (!x1)))) rfl rfl ?_
  apply Ops.nil
  replace H := H.all
  apply Runs.ret
  replace h := Option.some.inj h; subst h
  exact (Ends.H (xs := [(.v (.bool (!x1)))]) (.inr rfl) H (.tmp (v := (.v (.bool (!x1)))) rfl .nil) (.one (.c (.v _))))

set_option maxRecDepth 100000 in
set_option maxHeartbeats 4000000 in
theorem gran_some_fn {f : Form} {i : Int} {r : Bool} (h : gran_some f i = some r) : Fn CX 61 [(.agg (vs (Form.cs f))), (.v (.int .i64 i))] (.v (.bool r)) := by
  refine Fn.ends Try.func61 rfl rfl rfl rfl rfl rfl ?_
  have H : Hs (⟨0, fun _ => .none⟩ : Heap) [] := Has.nil (Nat.le_refl _)
  generalize (⟨0, fun _ => .none⟩ : Heap) = σ at H ⊢
  unfold gran_some at h
  apply Runs.then
  refine Runs.regionH 2 rfl H ?_; intro b1 σ H
  refine Ops.boxH (v := (.agg [(.v (.int .i64 f.Period)), (.v (.int .i64 f.Count)), (.v (.sl (f.Core.map (cL Span.cs)))), (.v (.sl (f.Odd.map Granule.cs)))])) (cs := [(.v (.int .i64 f.Period)), (.v (.int .i64 f.Count)), (.v (.sl (f.Core.map (cL Span.cs)))), (.v (.sl (f.Odd.map Granule.cs)))]) H (by omega) (by omega) rfl rfl rfl ?_; intro σ H
  refine Ops.assign (v := (.v (.bool false))) rfl rfl ?_
  apply Ops.nil
  replace H := H.all
  apply Runs.then
  refine Runs.regionH 10 rfl H ?_; intro b2 σ H
  refine Ops.loadHA (off := 0) (cs := [(.v (.int .i64 f.Period)), (.v (.int .i64 f.Count)), (.v (.sl (f.Core.map (cL Span.cs)))), (.v (.sl (f.Odd.map Granule.cs)))]) H 0 rfl rfl rfl rfl rfl rfl rfl nofun rfl ?_
  refine Ops.move (v := (.v (.int .i64 i))) rfl rfl ?_
  obtain ⟨x1, q1, h⟩ := bind_some h
  refine Ops.call (ys := [(.agg [(.v (.int .i64 f.Period)), (.v (.int .i64 f.Count)), (.v (.sl (f.Core.map (cL Span.cs)))), (.v (.sl (f.Odd.map Granule.cs)))]), (.v (.int .i64 i))]) (r := (.tup [(.v (.sl (x1.1.map Span.cs))), (.v (.int .i64 x1.2.1)), (.v (.int .i64 x1.2.2))])) rfl (gran_kept_fn q1) rfl ?_
  refine Ops.move (v := (.tup [(.v (.sl (x1.1.map Span.cs))), (.v (.int .i64 x1.2.1)), (.v (.int .i64 x1.2.2))])) rfl rfl ?_
  refine Ops.extract (v := (.v (.sl (x1.1.map Span.cs)))) rfl rfl rfl ?_
  refine Ops.extract (v := (.v (.int .i64 x1.2.1))) rfl rfl rfl ?_
  refine Ops.extract (v := (.v (.int .i64 x1.2.2))) rfl rfl rfl ?_
  refine Ops.assign (v := (.v (.sl (x1.1.map Span.cs)))) rfl rfl ?_
  refine Ops.assign (v := (.v (.int .i64 x1.2.1))) rfl rfl ?_
  refine Ops.assign (v := (.v (.int .i64 x1.2.2))) rfl rfl ?_
  apply Ops.nil
  replace H := H.all
  apply Runs.then
  refine Runs.regionH 4 rfl H ?_; intro b3 σ H
  refine Ops.move (v := (.v (.sl (x1.1.map Span.cs)))) rfl rfl ?_
  refine Ops.lenPt (c := Span.cs) (xs := x1.1) rfl rfl rfl ?_
  refine Ops.int (m := (x1.1.length : Int)) (m' := 0) (r := .bool (decide ((x1.1.length : Int) > 0))) rfl rfl rfl rfl rfl ?_
  refine Ops.assign (v := (.v (.bool (decide ((x1.1.length : Int) > 0))))) rfl rfl ?_
  apply Ops.nil
  replace H := H.all
  apply Runs.ret
  replace h := Option.some.inj h; subst h
  exact (Ends.H (xs := [(.v (.bool (decide ((x1.1.length : Int) > 0))))]) (.inr rfl) H (.tmp (v := (.v (.bool (decide ((x1.1.length : Int) > 0))))) rfl .nil) (.one (.c (.v _))))

set_option maxRecDepth 100000 in
set_option maxHeartbeats 4000000 in
theorem gran_step_fn {f : Form} {from' : Int} {by' : Int} {r : Int × Bool} (h : gran_step f from' by' = some r) : Fn CX 38 [(.agg (vs (Form.cs f))), (.v (.int .i64 from')), (.v (.int .i64 by'))] (.tup [(.v (.int .i64 r.1)), (.v (.bool r.2))]) := by
  refine Fn.ends Try.func38 rfl rfl rfl rfl rfl rfl ?_
  have H : Hs (⟨0, fun _ => .none⟩ : Heap) [] := Has.nil (Nat.le_refl _)
  generalize (⟨0, fun _ => .none⟩ : Heap) = σ at H ⊢
  unfold gran_step at h
  apply Runs.then
  refine Runs.regionH 3 rfl H ?_; intro b1 σ H
  refine Ops.boxH (v := (.agg [(.v (.int .i64 f.Period)), (.v (.int .i64 f.Count)), (.v (.sl (f.Core.map (cL Span.cs)))), (.v (.sl (f.Odd.map Granule.cs)))])) (cs := [(.v (.int .i64 f.Period)), (.v (.int .i64 f.Count)), (.v (.sl (f.Core.map (cL Span.cs)))), (.v (.sl (f.Odd.map Granule.cs)))]) H (by omega) (by omega) rfl rfl rfl ?_; intro σ H
  refine Ops.assign (v := (.v (.int .i64 0))) rfl rfl ?_
  refine Ops.assign (v := (.v (.bool false))) rfl rfl ?_
  apply Ops.nil
  replace H := H.all
  apply Runs.then
  apply Runs.then
  refine Runs.regionH 2 rfl H ?_; intro b2 σ H
  refine Ops.loadHA (off := 0) (cs := [(.v (.int .i64 f.Period)), (.v (.int .i64 f.Count)), (.v (.sl (f.Core.map (cL Span.cs)))), (.v (.sl (f.Odd.map Granule.cs)))]) H 0 rfl rfl rfl rfl rfl rfl rfl nofun rfl ?_
  obtain ⟨x1, q1, h⟩ := bind_some h
  refine Ops.call (ys := [(.agg [(.v (.int .i64 f.Period)), (.v (.int .i64 f.Count)), (.v (.sl (f.Core.map (cL Span.cs)))), (.v (.sl (f.Odd.map Granule.cs)))])]) (r := (.v (.bool x1))) rfl (gran_bare_fn q1) rfl ?_
  apply Ops.nil
  replace H := H.all
  refine Runs.whether (v := x1) rfl ?_ ?_ <;> intro hc1
  · replace h := cond_T hc1 h
    apply Runs.then
    refine Runs.regionH 8 rfl H ?_; intro b3 σ H
    refine Ops.loadHA (off := 0) (cs := [(.v (.int .i64 f.Period)), (.v (.int .i64 f.Count)), (.v (.sl (f.Core.map (cL Span.cs)))), (.v (.sl (f.Odd.map Granule.cs)))]) H 0 rfl rfl rfl rfl rfl rfl rfl nofun rfl ?_
    refine Ops.move (v := (.v (.int .i64 from'))) rfl rfl ?_
    obtain ⟨x2, q2, h⟩ := bind_some h
    refine Ops.call (ys := [(.agg [(.v (.int .i64 f.Period)), (.v (.int .i64 f.Count)), (.v (.sl (f.Core.map (cL Span.cs)))), (.v (.sl (f.Odd.map Granule.cs)))]), (.v (.int .i64 from'))]) (r := (.tup [(.v (.int .i64 x2.1)), (.v (.bool x2.2))])) rfl (gran_odd_fn q2) rfl ?_
    refine Ops.move (v := (.tup [(.v (.int .i64 x2.1)), (.v (.bool x2.2))])) rfl rfl ?_
    refine Ops.extract (v := (.v (.int .i64 x2.1))) rfl rfl rfl ?_
    refine Ops.extract (v := (.v (.bool x2.2))) rfl rfl rfl ?_
    refine Ops.assign (v := (.v (.int .i64 x2.1))) rfl rfl ?_
    refine Ops.assign (v := (.v (.bool x2.2))) rfl rfl ?_
    apply Ops.nil
    replace H := H.all
    apply Runs.then
    obtain ⟨y1, hj1, h⟩ := bind_some h
    refine Runs.mono (Q := fun x e σ => x = .normal ∧ EnvHas e [(2, (.v (.int .i64 by'))), (3, (.ptr (b1 + 0) 4 0)), (8, (.v (.int .i64 y1)))] ∧ Hs σ [.blk (b1 + 0) 25 [(.v (.int .i64 f.Period)), (.v (.int .i64 f.Count)), (.v (.sl (f.Core.map (cL Span.cs)))), (.v (.sl (f.Odd.map Granule.cs)))]]) ?_ ?_
    · replace h := hj1
      apply Runs.then
      refine Runs.regionH 6 rfl H ?_; intro b4 σ H
      refine Ops.move (v := (.v (.int .i64 by'))) rfl rfl ?_
      refine Ops.int (m := by') (m' := 0) (r := .bool (decide (by' < 0))) rfl rfl rfl rfl rfl ?_
      refine Ops.move (v := (.v (.bool (decide (by' < 0))))) rfl rfl ?_
      refine Ops.mid 3 (K1 := fun e σ => EnvHas e [(24, (.v (.bool ((decide (by' < 0)) && (!x2.2))))), (2, (.v (.int .i64 by'))), (3, (.ptr (b1 + 0) 4 0)), (8, (.v (.int .i64 x2.1)))] ∧ Has σ (b4 + 6) (b4 + 6) [.blk (b1 + 0) 25 [(.v (.int .i64 f.Period)), (.v (.int .i64 f.Count)), (.v (.sl (f.Core.map (cL Span.cs)))), (.v (.sl (f.Odd.map Granule.cs)))]]) rfl ?_ ?_
      · refine Ops.split rfl rfl ?_ ?_ <;> intro hc2
        · skip
          refine Ops.wanted rfl rfl ?_
          refine Ops.move (v := (.v (.bool x2.2))) rfl rfl ?_
          refine Ops.wanted rfl rfl ?_
          refine Ops.not (b := x2.2) rfl rfl ?_
          refine Ops.pickT (v := (.v (.bool (!x2.2)))) rfl rfl rfl ?_
          apply Ops.nil
          exact ⟨⟨and_T hc2, rfl, rfl, rfl, trivial⟩, H.weak (by omega) (Nat.le_refl _)⟩
        · skip
          refine Ops.pass rfl rfl rfl ?_
          refine Ops.pass rfl rfl rfl ?_
          refine Ops.pickF (v := (.v (.bool false))) rfl rfl rfl ?_
          apply Ops.nil
          exact ⟨⟨and_F hc2, rfl, rfl, rfl, trivial⟩, H.weak (by omega) (Nat.le_refl _)⟩
      · rintro e σ ⟨he, H⟩
        obtain ⟨e, rfl⟩ := he.ex
        apply Ops.nil
        replace H := H.all
        refine Runs.whether (v := ((decide (by' < 0)) && (!x2.2))) rfl ?_ ?_ <;> intro hc3
        · replace h := cond_T hc3 h
          refine Runs.regionH 3 rfl H ?_; intro b5 σ H
          refine Ops.move (v := (.v (.int .i64 x2.1))) rfl rfl ?_
          refine Ops.int (m := x2.1) (m' := 1) (r := .int .i64 (w64 (x2.1 - 1))) rfl rfl rfl rfl rfl ?_
          refine Ops.assign (v := (.v (.int .i64 (w64 (x2.1 - 1))))) rfl rfl ?_
          apply Ops.nil
          replace H := H.all
          replace h := Option.some.inj h; subst h
          exact ⟨rfl, ⟨rfl, rfl, rfl, trivial⟩, H⟩
        · replace h := cond_F hc3 h
          apply Runs.skip
          replace h := Option.some.inj h; subst h
          exact ⟨rfl, ⟨rfl, rfl, rfl, trivial⟩, H⟩
    · rintro x e σ ⟨rfl, he, H⟩
      obtain ⟨e, rfl⟩ := he.ex
      apply Runs.then
      apply Runs.inBlock
      obtain ⟨y2, hj2, h⟩ := bind_some h
      obtain ⟨n1, hj2⟩ := loopO_iff.1 hj2
      refine Runs.mono (Runs.loopO hj2 (fun s1 e σ => EnvHas e [(2, (.v (.int .i64 by'))), (3, (.ptr (b1 + 0) 4 0)), (8, (.v (.int .i64 s1)))] ∧ Hs σ [.blk (b1 + 0) 25 [(.v (.int .i64 f.Period)), (.v (.int .i64 f.Count)), (.v (.sl (f.Core.map (cL Span.cs)))), (.v (.sl (f.Odd.map Granule.cs)))]]) (fun y2 x e σ => (∃ a1, y2 = (.go a1) ∧ x = .exit 0 ∧ EnvHas e [] ∧ Hs σ []) ∨ (∃ r', y2 = (.ret r') ∧ x = .ret ∧ Ends CX Try.f38.results.toList (.tup [(.v (.int .i64 r'.1)), (.v (.bool r'.2))]) x e σ)) ⟨⟨rfl, rfl, rfl, trivial⟩, H⟩ ?_) ?_
      · intro s1 e σ hI z h
        obtain ⟨he, H⟩ := hI
        obtain ⟨e, rfl⟩ := he.ex
        unfold gran_step.s0 at h
        apply Runs.then
        apply Runs.then
        refine Runs.regionH 9 rfl H ?_; intro b6 σ H
        refine Ops.move (v := (.v (.int .i64 s1))) rfl rfl ?_
        refine Ops.int (m := s1) (m' := 0) (r := .bool (decide (s1 ≥ 0))) rfl rfl rfl rfl rfl ?_
        refine Ops.move (v := (.v (.bool (decide (s1 ≥ 0))))) rfl rfl ?_
        refine Ops.mid 6 (K1 := fun e σ => EnvHas e [(35, (.v (.bool ((decide (s1 ≥ 0)) && (decide (s1 < (f.Odd.length : Int))))))), (2, (.v (.int .i64 by'))), (3, (.ptr (b1 + 0) 4 0)), (8, (.v (.int .i64 s1)))] ∧ Has σ (b6 + 9) (b6 + 9) [.blk (b1 + 0) 25 [(.v (.int .i64 f.Period)), (.v (.int .i64 f.Count)), (.v (.sl (f.Core.map (cL Span.cs)))), (.v (.sl (f.Odd.map Granule.cs)))]]) rfl ?_ ?_
        · refine Ops.split rfl rfl ?_ ?_ <;> intro hc4
          · skip
            refine Ops.wanted rfl rfl ?_
            refine Ops.move (v := (.v (.int .i64 s1))) rfl rfl ?_
            refine Ops.wanted rfl rfl ?_
            refine Ops.fieldAddrH (off := 0) (fo := 3) H 0 rfl rfl rfl rfl rfl nofun rfl ?_
            refine Ops.wanted rfl rfl ?_
            refine Ops.loadH (off := 3) (v := (.v (.sl (f.Odd.map Granule.cs)))) H 0 rfl rfl rfl rfl rfl nofun rfl ?_
            refine Ops.wanted rfl rfl ?_
            refine Ops.lenPt (c := Granule.cs) (xs := f.Odd) rfl rfl rfl ?_
            refine Ops.wanted rfl rfl ?_
            refine Ops.int (m := s1) (m' := (f.Odd.length : Int)) (r := .bool (decide (s1 < (f.Odd.length : Int)))) rfl rfl rfl rfl rfl ?_
            refine Ops.pickT (v := (.v (.bool (decide (s1 < (f.Odd.length : Int)))))) rfl rfl rfl ?_
            apply Ops.nil
            exact ⟨⟨and_T hc4, rfl, rfl, rfl, trivial⟩, H.weak (by omega) (Nat.le_refl _)⟩
          · skip
            refine Ops.pass rfl rfl rfl ?_
            refine Ops.pass rfl rfl rfl ?_
            refine Ops.pass rfl rfl rfl ?_
            refine Ops.pass rfl rfl rfl ?_
            refine Ops.pass rfl rfl rfl ?_
            refine Ops.pickF (v := (.v (.bool false))) rfl rfl rfl ?_
            apply Ops.nil
            exact ⟨⟨and_F hc4, rfl, rfl, rfl, trivial⟩, H.weak (by omega) (Nat.le_refl _)⟩
        · rintro e σ ⟨he, H⟩
          obtain ⟨e, rfl⟩ := he.ex
          apply Ops.nil
          replace H := H.all
          refine Runs.whether (v := ((decide (s1 ≥ 0)) && (decide (s1 < (f.Odd.length : Int))))) rfl ?_ ?_ <;> intro hc5
          · replace h := cond_T hc5 h
            apply Runs.skip
            apply Runs.then
            apply Runs.inBlock
            apply Runs.then
            refine Runs.regionH 8 rfl H ?_; intro b7 σ H
            refine Ops.fieldAddrH (off := 0) (fo := 3) H 0 rfl rfl rfl rfl rfl nofun rfl ?_
            refine Ops.loadH (off := 3) (v := (.v (.sl (f.Odd.map Granule.cs)))) H 0 rfl rfl rfl rfl rfl nofun rfl ?_
            refine Ops.move (v := (.v (.int .i64 s1))) rfl rfl ?_
            obtain ⟨x3, q3, h⟩ := bind_some h
            refine Ops.indexP (c := Granule.cs) (u := x3) rfl rfl q3 rfl rfl rfl rfl ?_
            refine Ops.fieldAddrP rfl rfl rfl rfl ?_
            refine Ops.loadP (u := (.sl (x3.Ticks.map Span.cs))) rfl rfl rfl rfl ?_
            refine Ops.lenPt (c := Span.cs) (xs := x3.Ticks) rfl rfl rfl ?_
            refine Ops.int (m := (x3.Ticks.length : Int)) (m' := 0) (r := .bool (decide ((x3.Ticks.length : Int) > 0))) rfl rfl rfl rfl rfl ?_
            apply Ops.nil
            replace H := H.all
            refine Runs.whether (v := (decide ((x3.Ticks.length : Int) > 0))) rfl ?_ ?_ <;> intro hc6
            · replace h := cond_T hc6 h
              apply Runs.then
              refine Runs.regionH 8 rfl H ?_; intro b8 σ H
              refine Ops.fieldAddrH (off := 0) (fo := 3) H 0 rfl rfl rfl rfl rfl nofun rfl ?_
              refine Ops.loadH (off := 3) (v := (.v (.sl (f.Odd.map Granule.cs)))) H 0 rfl rfl rfl rfl rfl nofun rfl ?_
              refine Ops.move (v := (.v (.int .i64 s1))) rfl rfl ?_
              obtain ⟨x4, q4, h⟩ := bind_some h
              refine Ops.indexP (c := Granule.cs) (u := x4) rfl rfl q4 rfl rfl rfl rfl ?_
              refine Ops.fieldAddrP rfl rfl rfl rfl ?_
              refine Ops.loadP (u := (.int .i64 x4.Index)) rfl rfl rfl rfl ?_
              refine Ops.assign (v := (.v (.int .i64 x4.Index))) rfl rfl ?_
              refine Ops.assign (v := (.v (.bool true))) rfl rfl ?_
              apply Ops.nil
              replace H := H.all
              apply Runs.ret
              replace h := Option.some.inj h; subst h
              exact ⟨nofun, (.inr ⟨_, rfl, rfl, (Ends.H (xs := [(.v (.int .i64 x4.Index)), (.v (.bool true))]) (.inr rfl) H (.tmp (v := (.v (.int .i64 x4.Index))) rfl (.tmp (v := (.v (.bool true))) rfl .nil)) (.two (.cons (.c (.v _)) (.cons (.c (.v _)) .nil))))⟩)⟩
            · replace h := cond_F hc6 h
              apply Runs.skip
              refine Runs.regionH 4 rfl H ?_; intro b9 σ H
              refine Ops.move (v := (.v (.int .i64 s1))) rfl rfl ?_
              refine Ops.move (v := (.v (.int .i64 by'))) rfl rfl ?_
              refine Ops.int (m := s1) (m' := by') (r := .int .i64 (w64 (s1 + by'))) rfl rfl rfl rfl rfl ?_
              refine Ops.assign (v := (.v (.int .i64 (w64 (s1 + by'))))) rfl rfl ?_
              apply Ops.nil
              replace H := H.all
              replace h := Option.some.inj h; subst h
              exact ⟨rfl, ⟨rfl, rfl, rfl, trivial⟩, H⟩
          · replace h := cond_F hc5 h
            apply Runs.exit
            replace h := Option.some.inj h; subst h
            exact ⟨nofun, (.inl ⟨_, rfl, rfl, trivial, (H.erase 0)⟩)⟩
      · rintro x e σ (⟨a2, rfl, rfl, he, H⟩ | ⟨r', rfl, rfl, hE⟩)
        · skip
          replace h := jgo h
          obtain ⟨e, rfl⟩ := he.ex
          apply Runs.then
          refine Runs.regionH 2 rfl H ?_; intro b10 σ H
          refine Ops.assign (v := (.v (.int .i64 0))) rfl rfl ?_
          refine Ops.assign (v := (.v (.bool false))) rfl rfl ?_
          apply Ops.nil
          replace H := H.all
          apply Runs.ret
          replace h := Option.some.inj h; subst h
          exact (Ends.H (xs := [(.v (.int .i64 0)), (.v (.bool false))]) (.inr rfl) H (.tmp (v := (.v (.int .i64 0))) rfl (.tmp (v := (.v (.bool false))) rfl .nil)) (.two (.cons (.c (.v _)) (.cons (.c (.v _)) .nil))))
        · skip
          replace h := jret h
          replace h := Option.some.inj h; subst h
          exact hE
  · replace h := cond_F hc1 h
    apply Runs.skip
    apply Runs.then
    apply Runs.then
    refine Runs.regionH 2 rfl H ?_; intro b11 σ H
    refine Ops.move (v := (.v (.int .i64 from'))) rfl rfl ?_
    refine Ops.assign (v := (.v (.int .i64 from'))) rfl rfl ?_
    apply Ops.nil
    replace H := H.all
    apply Runs.inBlock
    obtain ⟨y3, hj3, h⟩ := bind_some h
    obtain ⟨n2, hj3⟩ := loopO_iff.1 hj3
    refine Runs.mono (Runs.loopO hj3 (fun s2 e σ => EnvHas e [(2, (.v (.int .i64 by'))), (3, (.ptr (b1 + 0) 4 0)), (10, (.v (.int .i64 s2)))] ∧ Hs σ [.blk (b1 + 0) 25 [(.v (.int .i64 f.Period)), (.v (.int .i64 f.Count)), (.v (.sl (f.Core.map (cL Span.cs)))), (.v (.sl (f.Odd.map Granule.cs)))]]) (fun y3 x e σ => (∃ a3, y3 = (.go a3) ∧ x = .exit 2 ∧ EnvHas e [] ∧ Hs σ []) ∨ (∃ r', y3 = (.ret r') ∧ x = .ret ∧ Ends CX Try.f38.results.toList (.tup [(.v (.int .i64 r'.1)), (.v (.bool r'.2))]) x e σ)) ⟨⟨rfl, rfl, rfl, trivial⟩, H⟩ ?_) ?_
    · intro s2 e σ hI z h
      obtain ⟨he, H⟩ := hI
      obtain ⟨e, rfl⟩ := he.ex
      unfold gran_step.s1 at h
      apply Runs.then
      apply Runs.then
      refine Runs.regionH 2 rfl H ?_; intro b12 σ H
      refine Ops.move (v := (.v (.int .i64 s2))) rfl rfl ?_
      refine Ops.call (ys := [(.v (.int .i64 s2))]) (r := (.v (.bool (gran_inRange s2)))) rfl (gran_inRange_fn rfl) rfl ?_
      apply Ops.nil
      replace H := H.all
      refine Runs.whether (v := (gran_inRange s2)) rfl ?_ ?_ <;> intro hc7
      · replace h := cond_T hc7 h
        apply Runs.skip
        apply Runs.then
        apply Runs.inBlock
        apply Runs.then
        refine Runs.regionH 3 rfl H ?_; intro b13 σ H
        refine Ops.loadHA (off := 0) (cs := [(.v (.int .i64 f.Period)), (.v (.int .i64 f.Count)), (.v (.sl (f.Core.map (cL Span.cs)))), (.v (.sl (f.Odd.map Granule.cs)))]) H 0 rfl rfl rfl rfl rfl rfl rfl nofun rfl ?_
        refine Ops.move (v := (.v (.int .i64 s2))) rfl rfl ?_
        obtain ⟨x5, q5, h⟩ := bind_some h
        refine Ops.call (ys := [(.agg [(.v (.int .i64 f.Period)), (.v (.int .i64 f.Count)), (.v (.sl (f.Core.map (cL Span.cs)))), (.v (.sl (f.Odd.map Granule.cs)))]), (.v (.int .i64 s2))]) (r := (.v (.bool x5))) rfl (gran_some_fn q5) rfl ?_
        apply Ops.nil
        replace H := H.all
        refine Runs.whether (v := x5) rfl ?_ ?_ <;> intro hc8
        · replace h := cond_T hc8 h
          apply Runs.then
          refine Runs.regionH 3 rfl H ?_; intro b14 σ H
          refine Ops.move (v := (.v (.int .i64 s2))) rfl rfl ?_
          refine Ops.assign (v := (.v (.int .i64 s2))) rfl rfl ?_
          refine Ops.assign (v := (.v (.bool true))) rfl rfl ?_
          apply Ops.nil
          replace H := H.all
          apply Runs.ret
          replace h := Option.some.inj h; subst h
          exact ⟨nofun, (.inr ⟨_, rfl, rfl, (Ends.H (xs := [(.v (.int .i64 s2)), (.v (.bool true))]) (.inr rfl) H (.tmp (v := (.v (.int .i64 s2))) rfl (.tmp (v := (.v (.bool true))) rfl .nil)) (.two (.cons (.c (.v _)) (.cons (.c (.v _)) .nil))))⟩)⟩
        · replace h := cond_F hc8 h
          apply Runs.skip
          refine Runs.regionH 4 rfl H ?_; intro b15 σ H
          refine Ops.move (v := (.v (.int .i64 s2))) rfl rfl ?_
          refine Ops.move (v := (.v (.int .i64 by'))) rfl rfl ?_
          refine Ops.int (m := s2) (m' := by') (r := .int .i64 (w64 (s2 + by'))) rfl rfl rfl rfl rfl ?_
          refine Ops.assign (v := (.v (.int .i64 (w64 (s2 + by'))))) rfl rfl ?_
          apply Ops.nil
          replace H := H.all
          replace h := Option.some.inj h; subst h
          exact ⟨rfl, ⟨rfl, rfl, rfl, trivial⟩, H⟩
      · replace h := cond_F hc7 h
        apply Runs.exit
        replace h := Option.some.inj h; subst h
        exact ⟨nofun, (.inl ⟨_, rfl, rfl, trivial, (H.erase 0)⟩)⟩
    · rintro x e σ (⟨a4, rfl, rfl, he, H⟩ | ⟨r', rfl, rfl, hE⟩)
      · skip
        replace h := jgo h
        obtain ⟨e, rfl⟩ := he.ex
        apply Runs.then
        refine Runs.regionH 2 rfl H ?_; intro b16 σ H
        refine Ops.assign (v := (.v (.int .i64 0))) rfl rfl ?_
        refine Ops.assign (v := (.v (.bool false))) rfl rfl ?_
        apply Ops.nil
        replace H := H.all
        apply Runs.ret
        replace h := Option.some.inj h; subst h
        exact (Ends.H (xs := [(.v (.int .i64 0)), (.v (.bool false))]) (.inr rfl) H (.tmp (v := (.v (.int .i64 0))) rfl (.tmp (v := (.v (.bool false))) rfl .nil)) (.two (.cons (.c (.v _)) (.cons (.c (.v _)) .nil))))
      · skip
        replace h := jret h
        replace h := Option.some.inj h; subst h
        exact hE

set_option maxRecDepth 100000 in
set_option maxHeartbeats 4000000 in
theorem gran_Before_fn {f : Form} {i : Int} {r : Int × Bool} (h : gran_Before f i = some r) : Fn CX 15 [(.agg (vs (Form.cs f))), (.v (.int .i64 i))] (.tup [(.v (.int .i64 r.1)), (.v (.bool r.2))]) := by
  refine Fn.ends Try.func15 rfl rfl rfl rfl rfl rfl ?_
  have H : Hs (⟨0, fun _ => .none⟩ : Heap) [] := Has.nil (Nat.le_refl _)
  generalize (⟨0, fun _ => .none⟩ : Heap) = σ at H ⊢
  unfold gran_Before at h
  apply Runs.then
  refine Runs.regionH 3 rfl H ?_; intro b1 σ H
  refine Ops.boxH (v := (.agg [(.v (.int .i64 f.Period)), (.v (.int .i64 f.Count)), (.v (.sl (f.Core.map (cL Span.cs)))), (.v (.sl (f.Odd.map Granule.cs)))])) (cs := [(.v (.int .i64 f.Period)), (.v (.int .i64 f.Count)), (.v (.sl (f.Core.map (cL Span.cs)))), (.v (.sl (f.Odd.map Granule.cs)))]) H (by omega) (by omega) rfl rfl rfl ?_; intro σ H
  refine Ops.assign (v := (.v (.int .i64 0))) rfl rfl ?_
  refine Ops.assign (v := (.v (.bool false))) rfl rfl ?_
  apply Ops.nil
  replace H := H.all
  apply Runs.then
  apply Runs.then
  refine Runs.regionH 2 rfl H ?_; intro b2 σ H
  refine Ops.move (v := (.v (.int .i64 i))) rfl rfl ?_
  refine Ops.int (m := i) (m' := (-1099511627776)) (r := .bool (decide (i ≤ (-1099511627776)))) rfl rfl rfl rfl rfl ?_
  apply Ops.nil
  replace H := H.all
  refine Runs.whether (v := (decide (i ≤ (-1099511627776)))) rfl ?_ ?_ <;> intro hc1
  · replace h := cond_T hc1 h
    apply Runs.then
    refine Runs.regionH 2 rfl H ?_; intro b3 σ H
    refine Ops.assign (v := (.v (.int .i64 0))) rfl rfl ?_
    refine Ops.assign (v := (.v (.bool false))) rfl rfl ?_
    apply Ops.nil
    replace H := H.all
    apply Runs.ret
    replace h := Option.some.inj h; subst h
    exact (Ends.H (xs := [(.v (.int .i64 0)), (.v (.bool false))]) (.inr rfl) H (.tmp (v := (.v (.int .i64 0))) rfl (.tmp (v := (.v (.bool false))) rfl .nil)) (.two (.cons (.c (.v _)) (.cons (.c (.v _)) .nil))))
  · replace h := cond_F hc1 h
    apply Runs.skip
    apply Runs.then
    refine Runs.regionH 9 rfl H ?_; intro b4 σ H
    refine Ops.loadHA (off := 0) (cs := [(.v (.int .i64 f.Period)), (.v (.int .i64 f.Count)), (.v (.sl (f.Core.map (cL Span.cs)))), (.v (.sl (f.Odd.map Granule.cs)))]) H 0 rfl rfl rfl rfl rfl rfl rfl nofun rfl ?_
    refine Ops.move (v := (.v (.int .i64 i))) rfl rfl ?_
    refine Ops.int (m := i) (m' := 1) (r := .int .i64 (w64 (i - 1))) rfl rfl rfl rfl rfl ?_
    refine Ops.min2 rfl rfl rfl ?_
    obtain ⟨x1, q1, h⟩ := bind_some h
    refine Ops.call (ys := [(.agg [(.v (.int .i64 f.Period)), (.v (.int .i64 f.Count)), (.v (.sl (f.Core.map (cL Span.cs)))), (.v (.sl (f.Odd.map Granule.cs)))]), (.v (.int .i64 (iMin (w64 (i - 1)) 1099511627776))), (.v (.int .i64 (-1)))]) (r := (.tup [(.v (.int .i64 x1.1)), (.v (.bool x1.2))])) rfl (gran_step_fn q1) rfl ?_
    refine Ops.extract (v := (.v (.int .i64 x1.1))) rfl rfl rfl ?_
    refine Ops.extract (v := (.v (.bool x1.2))) rfl rfl rfl ?_
    refine Ops.assign (v := (.v (.int .i64 x1.1))) rfl rfl ?_
    refine Ops.assign (v := (.v (.bool x1.2))) rfl rfl ?_
    apply Ops.nil
    replace H := H.all
    apply Runs.ret
    replace h := Option.some.inj h; subst h
    exact (Ends.H (xs := [(.v (.int .i64 x1.1)), (.v (.bool x1.2))]) (.inr rfl) H (.tmp (v := (.v (.int .i64 x1.1))) rfl (.tmp (v := (.v (.bool x1.2))) rfl .nil)) (.two (.cons (.c (.v _)) (.cons (.c (.v _)) .nil))))

set_option maxRecDepth 100000 in
set_option maxHeartbeats 4000000 in
theorem gran_Behind_fn {f : Form} {i : Int} {r : Int × Bool} (h : gran_Behind f i = some r) : Fn CX 14 [(.agg (vs (Form.cs f))), (.v (.int .i64 i))] (.tup [(.v (.int .i64 r.1)), (.v (.bool r.2))]) := by
  refine Fn.ends Try.func14 rfl rfl rfl rfl rfl rfl ?_
  have H : Hs (⟨0, fun _ => .none⟩ : Heap) [] := Has.nil (Nat.le_refl _)
  generalize (⟨0, fun _ => .none⟩ : Heap) = σ at H ⊢
  unfold gran_Behind at h
  apply Runs.then
  refine Runs.regionH 3 rfl H ?_; intro b1 σ H
  refine Ops.boxH (v := (.agg [(.v (.int .i64 f.Period)), (.v (.int .i64 f.Count)), (.v (.sl (f.Core.map (cL Span.cs)))), (.v (.sl (f.Odd.map Granule.cs)))])) (cs := [(.v (.int .i64 f.Period)), (.v (.int .i64 f.Count)), (.v (.sl (f.Core.map (cL Span.cs)))), (.v (.sl (f.Odd.map Granule.cs)))]) H (by omega) (by omega) rfl rfl rfl ?_; intro σ H
  refine Ops.assign (v := (.v (.int .i64 0))) rfl rfl ?_
  refine Ops.assign (v := (.v (.bool false))) rfl rfl ?_
  apply Ops.nil
  replace H := H.all
  apply Runs.then
  apply Runs.then
  refine Runs.regionH 2 rfl H ?_; intro b2 σ H
  refine Ops.move (v := (.v (.int .i64 i))) rfl rfl ?_
  refine Ops.int (m := i) (m' := 1099511627776) (r := .bool (decide (i ≥ 1099511627776))) rfl rfl rfl rfl rfl ?_
  apply Ops.nil
  replace H := H.all
  refine Runs.whether (v := (decide (i ≥ 1099511627776))) rfl ?_ ?_ <;> intro hc1
  · replace h := cond_T hc1 h
    apply Runs.then
    refine Runs.regionH 2 rfl H ?_; intro b3 σ H
    refine Ops.assign (v := (.v (.int .i64 0))) rfl rfl ?_
    refine Ops.assign (v := (.v (.bool false))) rfl rfl ?_
    apply Ops.nil
    replace H := H.all
    apply Runs.ret
    replace h := Option.some.inj h; subst h
    exact (Ends.H (xs := [(.v (.int .i64 0)), (.v (.bool false))]) (.inr rfl) H (.tmp (v := (.v (.int .i64 0))) rfl (.tmp (v := (.v (.bool false))) rfl .nil)) (.two (.cons (.c (.v _)) (.cons (.c (.v _)) .nil))))
  · replace h := cond_F hc1 h
    apply Runs.skip
    apply Runs.then
    refine Runs.regionH 9 rfl H ?_; intro b4 σ H
    refine Ops.loadHA (off := 0) (cs := [(.v (.int .i64 f.Period)), (.v (.int .i64 f.Count)), (.v (.sl (f.Core.map (cL Span.cs)))), (.v (.sl (f.Odd.map Granule.cs)))]) H 0 rfl rfl rfl rfl rfl rfl rfl nofun rfl ?_
    refine Ops.move (v := (.v (.int .i64 i))) rfl rfl ?_
    refine Ops.int (m := i) (m' := 1) (r := .int .i64 (w64 (i + 1))) rfl rfl rfl rfl rfl ?_
    refine Ops.max2 rfl rfl rfl ?_
    obtain ⟨x1, q1, h⟩ := bind_some h
    refine Ops.call (ys := [(.agg [(.v (.int .i64 f.Period)), (.v (.int .i64 f.Count)), (.v (.sl (f.Core.map (cL Span.cs)))), (.v (.sl (f.Odd.map Granule.cs)))]), (.v (.int .i64 (iMax (w64 (i + 1)) (-1099511627776)))), (.v (.int .i64 1))]) (r := (.tup [(.v (.int .i64 x1.1)), (.v (.bool x1.2))])) rfl (gran_step_fn q1) rfl ?_
    refine Ops.extract (v := (.v (.int .i64 x1.1))) rfl rfl rfl ?_
    refine Ops.extract (v := (.v (.bool x1.2))) rfl rfl rfl ?_
    refine Ops.assign (v := (.v (.int .i64 x1.1))) rfl rfl ?_
    refine Ops.assign (v := (.v (.bool x1.2))) rfl rfl ?_
    apply Ops.nil
    replace H := H.all
    apply Runs.ret
    replace h := Option.some.inj h; subst h
    exact (Ends.H (xs := [(.v (.int .i64 x1.1)), (.v (.bool x1.2))]) (.inr rfl) H (.tmp (v := (.v (.int .i64 x1.1))) rfl (.tmp (v := (.v (.bool x1.2))) rfl .nil)) (.two (.cons (.c (.v _)) (.cons (.c (.v _)) .nil))))

set_option maxRecDepth 100000 in
set_option maxHeartbeats 4000000 in
theorem spans_Ahead_fn {a : (List Span)} {b : (List Span)} {r : Bool} (h : spans_Ahead a b = some r) : Fn CX 19 [(.v (.sl (a.map Span.cs))), (.v (.sl (b.map Span.cs)))] (.v (.bool r)) := by
  refine Fn.ends Try.func19 rfl rfl rfl rfl rfl rfl ?_
  have H : Hs (⟨0, fun _ => .none⟩ : Heap) [] := Has.nil (Nat.le_refl _)
  generalize (⟨0, fun _ => .none⟩ : Heap) = σ at H ⊢
  unfold spans_Ahead at h
  apply Runs.then
  refine Runs.regionH 1 rfl H ?_; intro b1 σ H
  refine Ops.assign (v := (.v (.bool false))) rfl rfl ?_
  apply Ops.nil
  replace H := H.all
  apply Runs.then
  refine Runs.drawnH 23 rfl (by kernel_rfl) H ?_; intro b2 σ H B2
  refine Ops.move (v := (.v (.sl (a.map Span.cs)))) rfl rfl ?_
  refine Ops.lenPt (c := Span.cs) (xs := a) rfl rfl rfl ?_
  refine Ops.int (m := (a.length : Int)) (m' := 0) (r := .bool ((a.length : Int) == 0)) rfl rfl rfl rfl rfl ?_
  refine Ops.move (v := (.v (.bool ((a.length : Int) == 0)))) rfl rfl ?_
  refine Ops.mid 4 (K1 := fun e σ => EnvHas e [(12, (.v (.bool (((a.length : Int) == 0) || ((b.length : Int) == 0))))), (0, (.v (.sl (a.map Span.cs)))), (1, (.v (.sl (b.map Span.cs))))] ∧ Has σ (b2 + 8) (b2 + 23) []) rfl ?_ ?_
  · refine Ops.split rfl rfl ?_ ?_ <;> intro hc1
    · skip
      refine Ops.pass rfl rfl rfl ?_
      refine Ops.pass rfl rfl rfl ?_
      refine Ops.pass rfl rfl rfl ?_
      refine Ops.pickT (v := (.v (.bool true))) rfl rfl rfl ?_
      apply Ops.nil
      exact ⟨⟨or_T hc1, rfl, rfl, trivial⟩, H.weak (by omega) (Nat.le_refl _)⟩
    · skip
      refine Ops.wanted rfl rfl ?_
      refine Ops.move (v := (.v (.sl (b.map Span.cs)))) rfl rfl ?_
      refine Ops.wanted rfl rfl ?_
      refine Ops.lenPt (c := Span.cs) (xs := b) rfl rfl rfl ?_
      refine Ops.wanted rfl rfl ?_
      refine Ops.int (m := (b.length : Int)) (m' := 0) (r := .bool ((b.length : Int) == 0)) rfl rfl rfl rfl rfl ?_
      refine Ops.pickF (v := (.v (.bool ((b.length : Int) == 0)))) rfl rfl rfl ?_
      apply Ops.nil
      exact ⟨⟨or_F hc1, rfl, rfl, trivial⟩, H.weak (by omega) (Nat.le_refl _)⟩
  · rintro e σ ⟨he, H⟩
    obtain ⟨e, rfl⟩ := he.ex
    refine Ops.move (v := (.v (.bool (((a.length : Int) == 0) || ((b.length : Int) == 0))))) rfl rfl ?_
    obtain ⟨y1, hj1, h⟩ := bind_some h
    refine Ops.mid 13 (K1 := fun e σ => EnvHas e [(26, (.v (.bool y1)))] ∧ Has σ (b2 + 22) (b2 + 23) []) rfl ?_ ?_
    · refine Ops.split rfl rfl ?_ ?_ <;> intro hc2
      · replace h := cond_T hc2 hj1
        refine Ops.pass rfl rfl rfl ?_
        refine Ops.pass rfl rfl rfl ?_
        refine Ops.pass rfl rfl rfl ?_
        refine Ops.pass rfl rfl rfl ?_
        refine Ops.pass rfl rfl rfl ?_
        refine Ops.pass rfl rfl rfl ?_
        refine Ops.pass rfl rfl rfl ?_
        refine Ops.pass rfl rfl rfl ?_
        refine Ops.pass rfl rfl rfl ?_
        refine Ops.pass rfl rfl rfl ?_
        refine Ops.pass rfl rfl rfl ?_
        refine Ops.pass rfl rfl rfl ?_
        refine Ops.pickT (v := (.v (.bool true))) rfl rfl rfl ?_
        apply Ops.nil
        replace h := Option.some.inj h; subst h
        exact ⟨⟨rfl, trivial⟩, H.weak (by omega) (Nat.le_refl _)⟩
      · replace h := cond_F hc2 hj1
        refine Ops.wanted rfl rfl ?_
        refine Ops.move (v := (.v (.sl (a.map Span.cs)))) rfl rfl ?_
        refine Ops.wanted rfl rfl ?_
        refine Ops.move (v := (.v (.sl (a.map Span.cs)))) rfl rfl ?_
        refine Ops.wanted rfl rfl ?_
        refine Ops.lenPt (c := Span.cs) (xs := a) rfl rfl rfl ?_
        refine Ops.wanted rfl rfl ?_
        refine Ops.int (m := (a.length : Int)) (m' := 1) (r := .int .i64 (w64 ((a.length : Int) - 1))) rfl rfl rfl rfl rfl ?_
        refine Ops.wanted rfl rfl ?_
        obtain ⟨x1, q1, h⟩ := bind_some h
        refine Ops.indexP (c := Span.cs) (u := x1) rfl rfl q1 rfl rfl rfl rfl ?_
        refine Ops.wanted rfl rfl ?_
        refine Ops.fieldAddrP rfl rfl rfl rfl ?_
        refine Ops.wanted rfl rfl ?_
        refine Ops.loadP (u := (.int .i64 x1.To)) rfl rfl rfl rfl ?_
        refine Ops.wanted rfl rfl ?_
        refine Ops.move (v := (.v (.sl (b.map Span.cs)))) rfl rfl ?_
        refine Ops.wanted rfl rfl ?_
        obtain ⟨x2, q2, h⟩ := bind_some h
        refine Ops.indexP (c := Span.cs) (u := x2) rfl rfl q2 rfl rfl rfl rfl ?_
        refine Ops.wanted rfl rfl ?_
        refine Ops.fieldAddrP rfl rfl rfl rfl ?_
        refine Ops.wanted rfl rfl ?_
        refine Ops.loadP (u := (.int .i64 x2.From)) rfl rfl rfl rfl ?_
        refine Ops.wanted rfl rfl ?_
        refine Ops.int (m := x1.To) (m' := x2.From) (r := .bool (decide (x1.To < x2.From))) rfl rfl rfl rfl rfl ?_
        refine Ops.pickF (v := (.v (.bool (decide (x1.To < x2.From))))) rfl rfl rfl ?_
        apply Ops.nil
        replace h := Option.some.inj h; subst h
        exact ⟨⟨rfl, trivial⟩, H.weak (by omega) (Nat.le_refl _)⟩
    · rintro e σ ⟨he, H⟩
      obtain ⟨e, rfl⟩ := he.ex
      refine Ops.assign (v := (.v (.bool y1))) rfl rfl ?_
      apply Ops.nil
      replace H := H.all
      apply Runs.ret
      replace h := Option.some.inj h; subst h
      exact (Ends.H (xs := [(.v (.bool y1))]) (.inr rfl) H (.tmp (v := (.v (.bool y1))) rfl .nil) (.one (.c (.v _))))

set_option maxRecDepth 100000 in
set_option maxHeartbeats 4000000 in
theorem gran_beside_fn {f : Form} {i : Int} {r : Bool} (h : gran_beside f i = some r) : Fn CX 58 [(.agg (vs (Form.cs f))), (.v (.int .i64 i))] (.v (.bool r)) := by
  refine Fn.ends Try.func58 rfl rfl rfl rfl rfl rfl ?_
  have H : Hs (⟨0, fun _ => .none⟩ : Heap) [] := Has.nil (Nat.le_refl _)
  generalize (⟨0, fun _ => .none⟩ : Heap) = σ at H ⊢
  unfold gran_beside at h
  apply Runs.then
  refine Runs.regionH 2 rfl H ?_; intro b1 σ H
  refine Ops.boxH (v := (.agg [(.v (.int .i64 f.Period)), (.v (.int .i64 f.Count)), (.v (.sl (f.Core.map (cL Span.cs)))), (.v (.sl (f.Odd.map Granule.cs)))])) (cs := [(.v (.int .i64 f.Period)), (.v (.int .i64 f.Count)), (.v (.sl (f.Core.map (cL Span.cs)))), (.v (.sl (f.Odd.map Granule.cs)))]) H (by omega) (by omega) rfl rfl rfl ?_; intro σ H
  refine Ops.assign (v := (.v (.bool false))) rfl rfl ?_
  apply Ops.nil
  replace H := H.all
  apply Runs.then
  refine Runs.regionH 8 rfl H ?_; intro b2 σ H
  refine Ops.loadHA (off := 0) (cs := [(.v (.int .i64 f.Period)), (.v (.int .i64 f.Count)), (.v (.sl (f.Core.map (cL Span.cs)))), (.v (.sl (f.Odd.map Granule.cs)))]) H 0 rfl rfl rfl rfl rfl rfl rfl nofun rfl ?_
  refine Ops.move (v := (.v (.int .i64 i))) rfl rfl ?_
  obtain ⟨x1, q1, h⟩ := bind_some h
  refine Ops.call (ys := [(.agg [(.v (.int .i64 f.Period)), (.v (.int .i64 f.Count)), (.v (.sl (f.Core.map (cL Span.cs)))), (.v (.sl (f.Odd.map Granule.cs)))]), (.v (.int .i64 i))]) (r := (.tup [(.v (.sl (x1.1.map Span.cs))), (.v (.int .i64 x1.2))])) rfl (gran_Get_fn q1) rfl ?_
  refine Ops.move (v := (.tup [(.v (.sl (x1.1.map Span.cs))), (.v (.int .i64 x1.2))])) rfl rfl ?_
  refine Ops.extract (v := (.v (.sl (x1.1.map Span.cs)))) rfl rfl rfl ?_
  refine Ops.extract (v := (.v (.int .i64 x1.2))) rfl rfl rfl ?_
  refine Ops.assign (v := (.v (.sl (x1.1.map Span.cs)))) rfl rfl ?_
  refine Ops.assign (v := (.v (.int .i64 x1.2))) rfl rfl ?_
  apply Ops.nil
  replace H := H.all
  apply Runs.then
  apply Runs.then
  refine Runs.regionH 2 rfl H ?_; intro b3 σ H
  refine Ops.move (v := (.v (.int .i64 x1.2))) rfl rfl ?_
  refine Ops.int (m := x1.2) (m' := 0) (r := .bool (x1.2 != 0)) rfl rfl rfl rfl rfl ?_
  apply Ops.nil
  replace H := H.all
  refine Runs.whether (v := (x1.2 != 0)) rfl ?_ ?_ <;> intro hc1
  · replace h := cond_T hc1 h
    apply Runs.then
    refine Runs.regionH 1 rfl H ?_; intro b4 σ H
    refine Ops.assign (v := (.v (.bool false))) rfl rfl ?_
    apply Ops.nil
    replace H := H.all
    apply Runs.ret
    replace h := Option.some.inj h; subst h
    exact (Ends.H (xs := [(.v (.bool false))]) (.inr rfl) H (.tmp (v := (.v (.bool false))) rfl .nil) (.one (.c (.v _))))
  · replace h := cond_F hc1 h
    apply Runs.skip
    apply Runs.then
    refine Runs.regionH 8 rfl H ?_; intro b5 σ H
    refine Ops.loadHA (off := 0) (cs := [(.v (.int .i64 f.Period)), (.v (.int .i64 f.Count)), (.v (.sl (f.Core.map (cL Span.cs)))), (.v (.sl (f.Odd.map Granule.cs)))]) H 0 rfl rfl rfl rfl rfl rfl rfl nofun rfl ?_
    refine Ops.move (v := (.v (.int .i64 i))) rfl rfl ?_
    obtain ⟨x2, q2, h⟩ := bind_some h
    refine Ops.call (ys := [(.agg [(.v (.int .i64 f.Period)), (.v (.int .i64 f.Count)), (.v (.sl (f.Core.map (cL Span.cs)))), (.v (.sl (f.Odd.map Granule.cs)))]), (.v (.int .i64 i))]) (r := (.tup [(.v (.int .i64 x2.1)), (.v (.bool x2.2))])) rfl (gran_Before_fn q2) rfl ?_
    refine Ops.move (v := (.tup [(.v (.int .i64 x2.1)), (.v (.bool x2.2))])) rfl rfl ?_
    refine Ops.extract (v := (.v (.int .i64 x2.1))) rfl rfl rfl ?_
    refine Ops.extract (v := (.v (.bool x2.2))) rfl rfl rfl ?_
    refine Ops.assign (v := (.v (.int .i64 x2.1))) rfl rfl ?_
    refine Ops.assign (v := (.v (.bool x2.2))) rfl rfl ?_
    apply Ops.nil
    replace H := H.all
    apply Runs.then
    refine Runs.regionH 8 rfl H ?_; intro b6 σ H
    refine Ops.loadHA (off := 0) (cs := [(.v (.int .i64 f.Period)), (.v (.int .i64 f.Count)), (.v (.sl (f.Core.map (cL Span.cs)))), (.v (.sl (f.Odd.map Granule.cs)))]) H 0 rfl rfl rfl rfl rfl rfl rfl nofun rfl ?_
    refine Ops.move (v := (.v (.int .i64 i))) rfl rfl ?_
    obtain ⟨x3, q3, h⟩ := bind_some h
    refine Ops.call (ys := [(.agg [(.v (.int .i64 f.Period)), (.v (.int .i64 f.Count)), (.v (.sl (f.Core.map (cL Span.cs)))), (.v (.sl (f.Odd.map Granule.cs)))]), (.v (.int .i64 i))]) (r := (.tup [(.v (.int .i64 x3.1)), (.v (.bool x3.2))])) rfl (gran_Behind_fn q3) rfl ?_
    refine Ops.move (v := (.tup [(.v (.int .i64 x3.1)), (.v (.bool x3.2))])) rfl rfl ?_
    refine Ops.extract (v := (.v (.int .i64 x3.1))) rfl rfl rfl ?_
    refine Ops.extract (v := (.v (.bool x3.2))) rfl rfl rfl ?_
    refine Ops.assign (v := (.v (.int .i64 x3.1))) rfl rfl ?_
    refine Ops.assign (v := (.v (.bool x3.2))) rfl rfl ?_
    apply Ops.nil
    replace H := H.all
    apply Runs.then
    refine Runs.regionH 2 rfl H ?_; intro b7 σ H
    refine Ops.assign (v := .nils) rfl rfl ?_
    refine Ops.assign (v := .nils) rfl rfl ?_
    apply Ops.nil
    replace H := H.all
    apply Runs.then
    obtain ⟨y1, hj1, h⟩ := bind_some h
    refine Runs.mono (Q := fun x e σ => (∃ a1, ∃ (w1 : PV), RO w1 (a1.map Span.cs) ∧ y1 = (.go a1) ∧ x = .normal ∧ EnvHas e [(2, (.ptr (b1 + 0) 4 0)), (5, (.v (.sl (x1.1.map Span.cs)))), (9, (.v (.int .i64 x3.1))), (10, (.v (.bool x3.2))), (11, w1), (12, .nils)] ∧ Hs σ [.blk (b1 + 0) 25 [(.v (.int .i64 f.Period)), (.v (.int .i64 f.Count)), (.v (.sl (f.Core.map (cL Span.cs)))), (.v (.sl (f.Odd.map Granule.cs)))]]) ∨ (∃ r', y1 = (.ret r') ∧ x = .ret ∧ Ends CX Try.f58.results.toList (.v (.bool r')) x e σ)) ?_ ?_
    · replace h := hj1
      apply Runs.then
      refine Runs.regionH 1 rfl H ?_; intro b8 σ H
      refine Ops.move (v := (.v (.bool x2.2))) rfl rfl ?_
      apply Ops.nil
      replace H := H.all
      refine Runs.whether (v := x2.2) rfl ?_ ?_ <;> intro hc2
      · replace h := cond_T hc2 h
        apply Runs.then
        refine Runs.regionH 8 rfl H ?_; intro b9 σ H
        refine Ops.loadHA (off := 0) (cs := [(.v (.int .i64 f.Period)), (.v (.int .i64 f.Count)), (.v (.sl (f.Core.map (cL Span.cs)))), (.v (.sl (f.Odd.map Granule.cs)))]) H 0 rfl rfl rfl rfl rfl rfl rfl nofun rfl ?_
        refine Ops.move (v := (.v (.int .i64 x2.1))) rfl rfl ?_
        obtain ⟨x4, q4, h⟩ := bind_some h
        refine Ops.call (ys := [(.agg [(.v (.int .i64 f.Period)), (.v (.int .i64 f.Count)), (.v (.sl (f.Core.map (cL Span.cs)))), (.v (.sl (f.Odd.map Granule.cs)))]), (.v (.int .i64 x2.1))]) (r := (.tup [(.v (.sl (x4.1.map Span.cs))), (.v (.int .i64 x4.2))])) rfl (gran_Get_fn q4) rfl ?_
        refine Ops.move (v := (.tup [(.v (.sl (x4.1.map Span.cs))), (.v (.int .i64 x4.2))])) rfl rfl ?_
        refine Ops.extract (v := (.v (.sl (x4.1.map Span.cs)))) rfl rfl rfl ?_
        refine Ops.extract (v := (.v (.int .i64 x4.2))) rfl rfl rfl ?_
        refine Ops.assign (v := (.v (.sl (x4.1.map Span.cs)))) rfl rfl ?_
        refine Ops.assign (v := (.v (.int .i64 x4.2))) rfl rfl ?_
        apply Ops.nil
        replace H := H.all
        apply Runs.then
        refine Runs.regionH 2 rfl H ?_; intro b10 σ H
        refine Ops.move (v := (.v (.int .i64 x4.2))) rfl rfl ?_
        refine Ops.int (m := x4.2) (m' := 0) (r := .bool (x4.2 != 0)) rfl rfl rfl rfl rfl ?_
        apply Ops.nil
        replace H := H.all
        refine Runs.whether (v := (x4.2 != 0)) rfl ?_ ?_ <;> intro hc3
        · replace h := cond_T hc3 h
          apply Runs.then
          refine Runs.regionH 1 rfl H ?_; intro b11 σ H
          refine Ops.assign (v := (.v (.bool false))) rfl rfl ?_
          apply Ops.nil
          replace H := H.all
          apply Runs.ret
          replace h := Option.some.inj h; subst h
          exact (.inr ⟨_, rfl, rfl, (Ends.H (xs := [(.v (.bool false))]) (.inr rfl) H (.tmp (v := (.v (.bool false))) rfl .nil) (.one (.c (.v _))))⟩)
        · replace h := cond_F hc3 h
          apply Runs.skip
          replace h := Option.some.inj h; subst h
          exact (.inl ⟨_, (.v (.sl (x4.1.map Span.cs))), .inr rfl, rfl, rfl, ⟨rfl, rfl, rfl, rfl, rfl, rfl, trivial⟩, H⟩)
      · replace h := cond_F hc2 h
        apply Runs.skip
        replace h := Option.some.inj h; subst h
        exact (.inl ⟨_, .nils, .inl ⟨rfl, rfl⟩, rfl, rfl, ⟨rfl, rfl, rfl, rfl, rfl, rfl, trivial⟩, H⟩)
    · rintro x e σ (⟨a2, w2, hw2, rfl, rfl, he, H⟩ | ⟨r', rfl, rfl, hE⟩)
      · skip
        replace h := jgo h
        obtain ⟨e, rfl⟩ := he.ex
        apply Runs.then
        obtain ⟨y2, hj2, h⟩ := bind_some h
        refine Runs.mono (Q := fun x e σ => (∃ a3, ∃ (w3 : PV), RO w3 (a3.map Span.cs) ∧ y2 = (.go a3) ∧ x = .normal ∧ EnvHas e [(5, (.v (.sl (x1.1.map Span.cs)))), (11, w2), (12, w3)] ∧ Hs σ []) ∨ (∃ r', y2 = (.ret r') ∧ x = .ret ∧ Ends CX Try.f58.results.toList (.v (.bool r')) x e σ)) ?_ ?_
        · replace h := hj2
          apply Runs.then
          refine Runs.regionH 1 rfl H ?_; intro b12 σ H
          refine Ops.move (v := (.v (.bool x3.2))) rfl rfl ?_
          apply Ops.nil
          replace H := H.all
          refine Runs.whether (v := x3.2) rfl ?_ ?_ <;> intro hc4
          · replace h := cond_T hc4 h
            apply Runs.then
            refine Runs.regionH 8 rfl H ?_; intro b13 σ H
            refine Ops.loadHA (off := 0) (cs := [(.v (.int .i64 f.Period)), (.v (.int .i64 f.Count)), (.v (.sl (f.Core.map (cL Span.cs)))), (.v (.sl (f.Odd.map Granule.cs)))]) H 0 rfl rfl rfl rfl rfl rfl rfl nofun rfl ?_
            refine Ops.move (v := (.v (.int .i64 x3.1))) rfl rfl ?_
            obtain ⟨x5, q5, h⟩ := bind_some h
            refine Ops.call (ys := [(.agg [(.v (.int .i64 f.Period)), (.v (.int .i64 f.Count)), (.v (.sl (f.Core.map (cL Span.cs)))), (.v (.sl (f.Odd.map Granule.cs)))]), (.v (.int .i64 x3.1))]) (r := (.tup [(.v (.sl (x5.1.map Span.cs))), (.v (.int .i64 x5.2))])) rfl (gran_Get_fn q5) rfl ?_
            refine Ops.move (v := (.tup [(.v (.sl (x5.1.map Span.cs))), (.v (.int .i64 x5.2))])) rfl rfl ?_
            refine Ops.extract (v := (.v (.sl (x5.1.map Span.cs)))) rfl rfl rfl ?_
            refine Ops.extract (v := (.v (.int .i64 x5.2))) rfl rfl rfl ?_
            refine Ops.assign (v := (.v (.sl (x5.1.map Span.cs)))) rfl rfl ?_
            refine Ops.assign (v := (.v (.int .i64 x5.2))) rfl rfl ?_
            apply Ops.nil
            replace H := H.all
            apply Runs.then
            refine Runs.regionH 2 rfl H ?_; intro b14 σ H
            refine Ops.move (v := (.v (.int .i64 x5.2))) rfl rfl ?_
            refine Ops.int (m := x5.2) (m' := 0) (r := .bool (x5.2 != 0)) rfl rfl rfl rfl rfl ?_
            apply Ops.nil
            replace H := H.all
            refine Runs.whether (v := (x5.2 != 0)) rfl ?_ ?_ <;> intro hc5
            · replace h := cond_T hc5 h
              apply Runs.then
              refine Runs.regionH 1 rfl H ?_; intro b15 σ H
              refine Ops.assign (v := (.v (.bool false))) rfl rfl ?_
              apply Ops.nil
              replace H := H.all
              apply Runs.ret
              replace h := Option.some.inj h; subst h
              exact (.inr ⟨_, rfl, rfl, (Ends.H (xs := [(.v (.bool false))]) (.inr rfl) H (.tmp (v := (.v (.bool false))) rfl .nil) (.one (.c (.v _))))⟩)
            · replace h := cond_F hc5 h
              apply Runs.skip
              replace h := Option.some.inj h; subst h
              exact (.inl ⟨_, (.v (.sl (x5.1.map Span.cs))), .inr rfl, rfl, rfl, ⟨rfl, rfl, rfl, trivial⟩, (H.erase 0)⟩)
          · replace h := cond_F hc4 h
            apply Runs.skip
            replace h := Option.some.inj h; subst h
            exact (.inl ⟨_, .nils, .inl ⟨rfl, rfl⟩, rfl, rfl, ⟨rfl, rfl, rfl, trivial⟩, (H.erase 0)⟩)
        · rintro x e σ (⟨a4, w4, hw4, rfl, rfl, he, H⟩ | ⟨r', rfl, rfl, hE⟩)
          · skip
            replace h := jgo h
            obtain ⟨e, rfl⟩ := he.ex
            apply Runs.then
            refine Runs.regionH 14 rfl H ?_; intro b16 σ H
            refine Ops.move (v := w2) rfl rfl ?_
            refine Ops.move (v := (.v (.sl (x1.1.map Span.cs)))) rfl rfl ?_
            obtain ⟨x6, q6, h⟩ := bind_some h
            refine Ops.callX (xs := [w2, (.v (.sl (x1.1.map Span.cs)))]) (ys := [(.v (.sl (a2.map Span.cs))), (.v (.sl (x1.1.map Span.cs)))]) H rfl (.cons (.c (.ro hw2)) (.cons (.c (.v _)) .nil)) (spans_Ahead_fn q6) rfl rfl nofun rfl ?_; intro σ H
            refine Ops.move (v := (.v (.bool x6))) rfl rfl ?_
            obtain ⟨y3, hj3, h⟩ := bind_some h
            refine Ops.mid 4 (K1 := fun e σ => EnvHas e [(58, (.v (.bool y3))), (11, w2), (12, w4)] ∧ Has σ (b16 + 8) (b16 + 14) []) rfl ?_ ?_
            · refine Ops.split rfl rfl ?_ ?_ <;> intro hc6
              · replace h := cond_T hc6 hj3
                refine Ops.wanted rfl rfl ?_
                refine Ops.move (v := (.v (.sl (x1.1.map Span.cs)))) rfl rfl ?_
                refine Ops.wanted rfl rfl ?_
                refine Ops.move (v := w4) rfl rfl ?_
                refine Ops.wanted rfl rfl ?_
                obtain ⟨x7, q7, h⟩ := bind_some h
                refine Ops.callX (xs := [(.v (.sl (x1.1.map Span.cs))), w4]) (ys := [(.v (.sl (x1.1.map Span.cs))), (.v (.sl (a4.map Span.cs)))]) H rfl (.cons (.c (.v _)) (.cons (.c (.ro hw4)) .nil)) (spans_Ahead_fn q7) rfl rfl nofun rfl ?_; intro σ H
                refine Ops.pickT (v := (.v (.bool x7))) rfl rfl rfl ?_
                apply Ops.nil
                replace h := Option.some.inj h; subst h
                exact ⟨⟨rfl, rfl, rfl, trivial⟩, H.weak (by omega) (Nat.le_refl _)⟩
              · replace h := cond_F hc6 hj3
                refine Ops.pass rfl rfl rfl ?_
                refine Ops.pass rfl rfl rfl ?_
                refine Ops.pass rfl rfl rfl ?_
                refine Ops.pickF (v := (.v (.bool false))) rfl rfl rfl ?_
                apply Ops.nil
                replace h := Option.some.inj h; subst h
                exact ⟨⟨rfl, rfl, rfl, trivial⟩, H.weak (by omega) (Nat.le_refl _)⟩
            · rintro e σ ⟨he, H⟩
              obtain ⟨e, rfl⟩ := he.ex
              refine Ops.move (v := (.v (.bool y3))) rfl rfl ?_
              obtain ⟨y4, hj4, h⟩ := bind_some h
              refine Ops.mid 4 (K1 := fun e σ => EnvHas e [(63, (.v (.bool y4)))] ∧ Has σ (b16 + 13) (b16 + 14) []) rfl ?_ ?_
              · refine Ops.split rfl rfl ?_ ?_ <;> intro hc7
                · replace h := cond_T hc7 hj4
                  refine Ops.wanted rfl rfl ?_
                  refine Ops.move (v := w2) rfl rfl ?_
                  refine Ops.wanted rfl rfl ?_
                  refine Ops.move (v := w4) rfl rfl ?_
                  refine Ops.wanted rfl rfl ?_
                  obtain ⟨x8, q8, h⟩ := bind_some h
                  refine Ops.callX (xs := [w2, w4]) (ys := [(.v (.sl (a2.map Span.cs))), (.v (.sl (a4.map Span.cs)))]) H rfl (.cons (.c (.ro hw2)) (.cons (.c (.ro hw4)) .nil)) (spans_Ahead_fn q8) rfl rfl nofun rfl ?_; intro σ H
                  refine Ops.pickT (v := (.v (.bool x8))) rfl rfl rfl ?_
                  apply Ops.nil
                  replace h := Option.some.inj h; subst h
                  exact ⟨⟨rfl, trivial⟩, H.weak (by omega) (Nat.le_refl _)⟩
                · replace h := cond_F hc7 hj4
                  refine Ops.pass rfl rfl rfl ?_
                  refine Ops.pass rfl rfl rfl ?_
                  refine Ops.pass rfl rfl rfl ?_
                  refine Ops.pickF (v := (.v (.bool false))) rfl rfl rfl ?_
                  apply Ops.nil
                  replace h := Option.some.inj h; subst h
                  exact ⟨⟨rfl, trivial⟩, H.weak (by omega) (Nat.le_refl _)⟩
              · rintro e σ ⟨he, H⟩
                obtain ⟨e, rfl⟩ := he.ex
                refine Ops.assign (v := (.v (.bool y4))) rfl rfl ?_
                apply Ops.nil
                replace H := H.all
                apply Runs.ret
                replace h := Option.some.inj h; subst h
                exact (Ends.H (xs := [(.v (.bool y4))]) (.inr rfl) H (.tmp (v := (.v (.bool y4))) rfl .nil) (.one (.c (.v _))))
          · skip
            replace h := jret h
            replace h := Option.some.inj h; subst h
            exact hE
      · skip
        replace h := jret h
        replace h := Option.some.inj h; subst h
        exact hE

set_option maxRecDepth 100000 in
set_option maxHeartbeats 4000000 in
theorem gran_Right_fn {f : Form} {r : Int} (h : gran_Right f = some r) : Fn CX 32 [(.agg (vs (Form.cs f)))] (.v (.int .i64 r)) := by
  refine Fn.ends Try.func32 rfl rfl rfl rfl rfl rfl ?_
  have H : Hs (⟨0, fun _ => .none⟩ : Heap) [] := Has.nil (Nat.le_refl _)
  generalize (⟨0, fun _ => .none⟩ : Heap) = σ at H ⊢
  unfold gran_Right at h
  apply Runs.then
  refine Runs.regionH 2 rfl H ?_; intro b1 σ H
  refine Ops.boxH (v := (.agg [(.v (.int .i64 f.Period)), (.v (.int .i64 f.Count)), (.v (.sl (f.Core.map (cL Span.cs)))), (.v (.sl (f.Odd.map Granule.cs)))])) (cs := [(.v (.int .i64 f.Period)), (.v (.int .i64 f.Count)), (.v (.sl (f.Core.map (cL Span.cs)))), (.v (.sl (f.Odd.map Granule.cs)))]) H (by omega) (by omega) rfl rfl rfl ?_; intro σ H
  refine Ops.assign (v := (.v (.int .i64 0))) rfl rfl ?_
  apply Ops.nil
  replace H := H.all
  apply Runs.then
  apply Runs.then
  refine Runs.regionH 15 rfl H ?_; intro b2 σ H
  refine Ops.fieldAddrH (off := 0) (fo := 2) H 0 rfl rfl rfl rfl rfl nofun rfl ?_
  refine Ops.loadH (off := 2) (v := (.v (.sl (f.Core.map (cL Span.cs))))) H 0 rfl rfl rfl rfl rfl nofun rfl ?_
  refine Ops.lenPt (c := (cL Span.cs)) (xs := f.Core) rfl rfl rfl ?_
  refine Ops.int (m := (f.Core.length : Int)) (m' := 6000) (r := .bool (decide ((f.Core.length : Int) > 6000))) rfl rfl rfl rfl rfl ?_
  refine Ops.move (v := (.v (.bool (decide ((f.Core.length : Int) > 6000))))) rfl rfl ?_
  refine Ops.mid 5 (K1 := fun e σ => EnvHas e [(14, (.v (.bool ((decide ((f.Core.length : Int) > 6000)) || (decide ((f.Odd.length : Int) > 6000)))))), (1, (.ptr (b1 + 0) 4 0))] ∧ Has σ (b2 + 10) (b2 + 15) [.blk (b1 + 0) 25 [(.v (.int .i64 f.Period)), (.v (.int .i64 f.Count)), (.v (.sl (f.Core.map (cL Span.cs)))), (.v (.sl (f.Odd.map Granule.cs)))]]) rfl ?_ ?_
  · refine Ops.split rfl rfl ?_ ?_ <;> intro hc1
    · skip
      refine Ops.pass rfl rfl rfl ?_
      refine Ops.pass rfl rfl rfl ?_
      refine Ops.pass rfl rfl rfl ?_
      refine Ops.pass rfl rfl rfl ?_
      refine Ops.pickT (v := (.v (.bool true))) rfl rfl rfl ?_
      apply Ops.nil
      exact ⟨⟨or_T hc1, rfl, trivial⟩, H.weak (by omega) (Nat.le_refl _)⟩
    · skip
      refine Ops.wanted rfl rfl ?_
      refine Ops.fieldAddrH (off := 0) (fo := 3) H 0 rfl rfl rfl rfl rfl nofun rfl ?_
      refine Ops.wanted rfl rfl ?_
      refine Ops.loadH (off := 3) (v := (.v (.sl (f.Odd.map Granule.cs)))) H 0 rfl rfl rfl rfl rfl nofun rfl ?_
      refine Ops.wanted rfl rfl ?_
      refine Ops.lenPt (c := Granule.cs) (xs := f.Odd) rfl rfl rfl ?_
      refine Ops.wanted rfl rfl ?_
      refine Ops.int (m := (f.Odd.length : Int)) (m' := 6000) (r := .bool (decide ((f.Odd.length : Int) > 6000))) rfl rfl rfl rfl rfl ?_
      refine Ops.pickF (v := (.v (.bool (decide ((f.Odd.length : Int) > 6000))))) rfl rfl rfl ?_
      apply Ops.nil
      exact ⟨⟨or_F hc1, rfl, trivial⟩, H.weak (by omega) (Nat.le_refl _)⟩
  · rintro e σ ⟨he, H⟩
    obtain ⟨e, rfl⟩ := he.ex
    refine Ops.move (v := (.v (.bool ((decide ((f.Core.length : Int) > 6000)) || (decide ((f.Odd.length : Int) > 6000)))))) rfl rfl ?_
    obtain ⟨y1, hj1, h⟩ := bind_some h
    refine Ops.mid 4 (K1 := fun e σ => EnvHas e [(19, (.v (.bool y1))), (1, (.ptr (b1 + 0) 4 0))] ∧ Has σ (b2 + 15) (b2 + 15) [.blk (b1 + 0) 25 [(.v (.int .i64 f.Period)), (.v (.int .i64 f.Count)), (.v (.sl (f.Core.map (cL Span.cs)))), (.v (.sl (f.Odd.map Granule.cs)))]]) rfl ?_ ?_
    · refine Ops.split rfl rfl ?_ ?_ <;> intro hc2
      · replace h := cond_T hc2 hj1
        refine Ops.pass rfl rfl rfl ?_
        refine Ops.pass rfl rfl rfl ?_
        refine Ops.pass rfl rfl rfl ?_
        refine Ops.pickT (v := (.v (.bool true))) rfl rfl rfl ?_
        apply Ops.nil
        replace h := Option.some.inj h; subst h
        exact ⟨⟨rfl, rfl, trivial⟩, H.weak (by omega) (Nat.le_refl _)⟩
      · replace h := cond_F hc2 hj1
        refine Ops.wanted rfl rfl ?_
        refine Ops.loadHA (off := 0) (cs := [(.v (.int .i64 f.Period)), (.v (.int .i64 f.Count)), (.v (.sl (f.Core.map (cL Span.cs)))), (.v (.sl (f.Odd.map Granule.cs)))]) H 0 rfl rfl rfl rfl rfl rfl rfl nofun rfl ?_
        refine Ops.wanted rfl rfl ?_
        obtain ⟨x1, q1, h⟩ := bind_some h
        refine Ops.call (ys := [(.agg [(.v (.int .i64 f.Period)), (.v (.int .i64 f.Count)), (.v (.sl (f.Core.map (cL Span.cs)))), (.v (.sl (f.Odd.map Granule.cs)))])]) (r := (.v (.int .i64 x1))) rfl (gran_Size_fn q1) rfl ?_
        refine Ops.wanted rfl rfl ?_
        refine Ops.int (m := x1) (m' := 60000) (r := .bool (decide (x1 > 60000))) rfl rfl rfl rfl rfl ?_
        refine Ops.pickF (v := (.v (.bool (decide (x1 > 60000))))) rfl rfl rfl ?_
        apply Ops.nil
        replace h := Option.some.inj h; subst h
        exact ⟨⟨rfl, rfl, trivial⟩, H.weak (by omega) (Nat.le_refl _)⟩
    · rintro e σ ⟨he, H⟩
      obtain ⟨e, rfl⟩ := he.ex
      apply Ops.nil
      replace H := H.all
      refine Runs.whether (v := y1) rfl ?_ ?_ <;> intro hc3
      · replace h := cond_T hc3 h
        apply Runs.then
        refine Runs.regionH 1 rfl H ?_; intro b3 σ H
        refine Ops.assign (v := (.v (.int .i64 3))) rfl rfl ?_
        apply Ops.nil
        replace H := H.all
        apply Runs.ret
        replace h := Option.some.inj h; subst h
        exact (Ends.H (xs := [(.v (.int .i64 3))]) (.inr rfl) H (.tmp (v := (.v (.int .i64 3))) rfl .nil) (.one (.c (.v _))))
      · replace h := cond_F hc3 h
        apply Runs.skip
        apply Runs.then
        apply Runs.then
        refine Runs.regionH 8 rfl H ?_; intro b4 σ H
        refine Ops.loadHA (off := 0) (cs := [(.v (.int .i64 f.Period)), (.v (.int .i64 f.Count)), (.v (.sl (f.Core.map (cL Span.cs)))), (.v (.sl (f.Odd.map Granule.cs)))]) H 0 rfl rfl rfl rfl rfl rfl rfl nofun rfl ?_
        obtain ⟨x2, q2, h⟩ := bind_some h
        refine Ops.call (ys := [(.agg [(.v (.int .i64 f.Period)), (.v (.int .i64 f.Count)), (.v (.sl (f.Core.map (cL Span.cs)))), (.v (.sl (f.Odd.map Granule.cs)))])]) (r := (.v (.bool x2))) rfl (gran_shape_fn q2) rfl ?_
        refine Ops.not (b := x2) rfl rfl ?_
        refine Ops.move (v := (.v (.bool (!x2)))) rfl rfl ?_
        obtain ⟨y2, hj2, h⟩ := bind_some h
        refine Ops.mid 4 (K1 := fun e σ => EnvHas e [(27, (.v (.bool y2))), (1, (.ptr (b1 + 0) 4 0))] ∧ Has σ (b4 + 8) (b4 + 8) [.blk (b1 + 0) 25 [(.v (.int .i64 f.Period)), (.v (.int .i64 f.Count)), (.v (.sl (f.Core.map (cL Span.cs)))), (.v (.sl (f.Odd.map Granule.cs)))]]) rfl ?_ ?_
        · refine Ops.split rfl rfl ?_ ?_ <;> intro hc4
          · replace h := cond_T hc4 hj2
            refine Ops.pass rfl rfl rfl ?_
            refine Ops.pass rfl rfl rfl ?_
            refine Ops.pass rfl rfl rfl ?_
            refine Ops.pickT (v := (.v (.bool true))) rfl rfl rfl ?_
            apply Ops.nil
            replace h := Option.some.inj h; subst h
            exact ⟨⟨rfl, rfl, trivial⟩, H.weak (by omega) (Nat.le_refl _)⟩
          · replace h := cond_F hc4 hj2
            refine Ops.wanted rfl rfl ?_
            refine Ops.loadHA (off := 0) (cs := [(.v (.int .i64 f.Period)), (.v (.int .i64 f.Count)), (.v (.sl (f.Core.map (cL Span.cs)))), (.v (.sl (f.Odd.map Granule.cs)))]) H 0 rfl rfl rfl rfl rfl rfl rfl nofun rfl ?_
            refine Ops.wanted rfl rfl ?_
            obtain ⟨x3, q3, h⟩ := bind_some h
            refine Ops.call (ys := [(.agg [(.v (.int .i64 f.Period)), (.v (.int .i64 f.Count)), (.v (.sl (f.Core.map (cL Span.cs)))), (.v (.sl (f.Odd.map Granule.cs)))])]) (r := (.v (.bool x3))) rfl (gran_turns_fn q3) rfl ?_
            refine Ops.wanted rfl rfl ?_
            refine Ops.not (b := x3) rfl rfl ?_
            refine Ops.pickF (v := (.v (.bool (!x3)))) rfl rfl rfl ?_
            apply Ops.nil
            replace h := Option.some.inj h; subst h
            exact ⟨⟨rfl, rfl, trivial⟩, H.weak (by omega) (Nat.le_refl _)⟩
        · rintro e σ ⟨he, H⟩
          obtain ⟨e, rfl⟩ := he.ex
          apply Ops.nil
          replace H := H.all
          refine Runs.whether (v := y2) rfl ?_ ?_ <;> intro hc5
          · replace h := cond_T hc5 h
            apply Runs.then
            refine Runs.regionH 1 rfl H ?_; intro b5 σ H
            refine Ops.assign (v := (.v (.int .i64 50))) rfl rfl ?_
            apply Ops.nil
            replace H := H.all
            apply Runs.ret
            replace h := Option.some.inj h; subst h
            exact (Ends.H (xs := [(.v (.int .i64 50))]) (.inr rfl) H (.tmp (v := (.v (.int .i64 50))) rfl .nil) (.one (.c (.v _))))
          · replace h := cond_F hc5 h
            apply Runs.skip
            apply Runs.then
            apply Runs.then
            refine Runs.regionH 4 rfl H ?_; intro b6 σ H
            refine Ops.fieldAddrH (off := 0) (fo := 3) H 0 rfl rfl rfl rfl rfl nofun rfl ?_
            refine Ops.loadH (off := 3) (v := (.v (.sl (f.Odd.map Granule.cs)))) H 0 rfl rfl rfl rfl rfl nofun rfl ?_
            refine Ops.lenPt (c := Granule.cs) (xs := f.Odd) rfl rfl rfl ?_
            refine Ops.move (v := (.v (.int .i64 0))) rfl rfl ?_
            apply Ops.nil
            replace H := H.all
            apply Runs.inBlock
            obtain ⟨y3, hj3, h⟩ := bind_some h
            obtain ⟨n1, hj3⟩ := loopO_iff.1 hj3
            refine Runs.mono (Runs.loopO hj3 (fun s1 e σ => EnvHas e [(1, (.ptr (b1 + 0) 4 0)), (29, (.v (.sl (f.Odd.map Granule.cs)))), (30, (.v (.int .i64 (f.Odd.length : Int)))), (31, (.v (.int .i64 s1)))] ∧ Hs σ [.blk (b1 + 0) 25 [(.v (.int .i64 f.Period)), (.v (.int .i64 f.Count)), (.v (.sl (f.Core.map (cL Span.cs)))), (.v (.sl (f.Odd.map Granule.cs)))]]) (fun y3 x e σ => (∃ a1, y3 = (.go a1) ∧ x = .exit 0 ∧ EnvHas e [] ∧ Hs σ []) ∨ (∃ r', y3 = (.ret r') ∧ x = .ret ∧ Ends CX Try.f32.results.toList (.v (.int .i64 r')) x e σ)) ⟨⟨rfl, rfl, rfl, rfl, trivial⟩, H⟩ ?_) ?_
            · intro s1 e σ hI z h
              obtain ⟨he, H⟩ := hI
              obtain ⟨e, rfl⟩ := he.ex
              unfold gran_Right.s0 at h
              apply Runs.then
              refine Runs.regionH 1 rfl H ?_; intro b7 σ H
              refine Ops.int (m := s1) (m' := (f.Odd.length : Int)) (r := .bool (decide (s1 < (f.Odd.length : Int)))) rfl rfl rfl rfl rfl ?_
              apply Ops.nil
              replace H := H.all
              apply Runs.then
              refine Runs.whether (v := (decide (s1 < (f.Odd.length : Int)))) rfl ?_ ?_ <;> intro hc6
              · replace h := cond_T hc6 h
                apply Runs.skip
                apply Runs.then
                apply Runs.inBlock
                apply Runs.then
                refine Runs.regionH 4 rfl H ?_; intro b8 σ H
                obtain ⟨x4, q4, h⟩ := bind_some h
                refine Ops.indexP (c := Granule.cs) (u := x4) rfl rfl q4 rfl rfl rfl rfl ?_
                refine Ops.loadPA (cs := [(.int .i64 x4.Index), (.sl (x4.Ticks.map Span.cs))]) rfl rfl rfl rfl rfl rfl ?_
                refine Ops.allocH (cs := [(.v (.int .i64 0)), .nils]) H (by omega) (by omega) rfl rfl ?_; intro σ H
                refine Ops.storeH (off := 0) (v := (.agg [(.v (.int .i64 x4.Index)), (.v (.sl (x4.Ticks.map Span.cs)))])) (ys := [(.v (.int .i64 x4.Index)), (.v (.sl (x4.Ticks.map Span.cs)))]) (cells' := [(.v (.int .i64 x4.Index)), (.v (.sl (x4.Ticks.map Span.cs)))]) H 0 rfl rfl rfl rfl rfl rfl rfl rfl rfl nofun ?_; intro σ H
                apply Ops.nil
                replace H := H.all
                apply Runs.then
                refine Runs.regionH 5 rfl H ?_; intro b9 σ H
                refine Ops.loadHA (off := 0) (cs := [(.v (.int .i64 f.Period)), (.v (.int .i64 f.Count)), (.v (.sl (f.Core.map (cL Span.cs)))), (.v (.sl (f.Odd.map Granule.cs)))]) H 1 rfl rfl rfl rfl rfl rfl rfl nofun rfl ?_
                refine Ops.fieldAddrH (off := 0) (fo := 0) H 0 rfl rfl rfl rfl rfl nofun rfl ?_
                refine Ops.loadH (off := 0) (v := (.v (.int .i64 x4.Index))) H 0 rfl rfl rfl rfl rfl nofun rfl ?_
                obtain ⟨x5, q5, h⟩ := bind_some h
                refine Ops.call (ys := [(.agg [(.v (.int .i64 f.Period)), (.v (.int .i64 f.Count)), (.v (.sl (f.Core.map (cL Span.cs)))), (.v (.sl (f.Odd.map Granule.cs)))]), (.v (.int .i64 x4.Index))]) (r := (.v (.bool x5))) rfl (gran_beside_fn q5) rfl ?_
                refine Ops.not (b := x5) rfl rfl ?_
                apply Ops.nil
                replace H := H.all
                refine Runs.whether (v := (!x5)) rfl ?_ ?_ <;> intro hc7
                · replace h := cond_T hc7 h
                  apply Runs.then
                  refine Runs.regionH 1 rfl H ?_; intro b10 σ H
                  refine Ops.assign (v := (.v (.int .i64 50))) rfl rfl ?_
                  apply Ops.nil
                  replace H := H.all
                  apply Runs.ret
                  replace h := Option.some.inj h; subst h
                  exact ⟨nofun, (.inr ⟨_, rfl, rfl, (Ends.H (xs := [(.v (.int .i64 50))]) (.inr rfl) H (.tmp (v := (.v (.int .i64 50))) rfl .nil) (.one (.c (.v _))))⟩)⟩
                · replace h := cond_F hc7 h
                  apply Runs.skip
                  refine Runs.regionH 2 rfl H ?_; intro b11 σ H
                  refine Ops.int (m := s1) (m' := 1) (r := .int .i64 (w64 (s1 + 1))) rfl rfl rfl rfl rfl ?_
                  refine Ops.move (v := (.v (.int .i64 (w64 (s1 + 1))))) rfl rfl ?_
                  apply Ops.nil
                  replace H := H.all
                  replace h := Option.some.inj h; subst h
                  exact ⟨rfl, ⟨rfl, rfl, rfl, rfl, trivial⟩, (H.erase 0)⟩
              · replace h := cond_F hc6 h
                apply Runs.exit
                replace h := Option.some.inj h; subst h
                exact ⟨nofun, (.inl ⟨_, rfl, rfl, trivial, (H.erase 0)⟩)⟩
            · rintro x e σ (⟨a2, rfl, rfl, he, H⟩ | ⟨r', rfl, rfl, hE⟩)
              · skip
                replace h := jgo h
                obtain ⟨e, rfl⟩ := he.ex
                apply Runs.then
                refine Runs.regionH 1 rfl H ?_; intro b12 σ H
                refine Ops.assign (v := (.v (.int .i64 0))) rfl rfl ?_
                apply Ops.nil
                replace H := H.all
                apply Runs.ret
                replace h := Option.some.inj h; subst h
                exact (Ends.H (xs := [(.v (.int .i64 0))]) (.inr rfl) H (.tmp (v := (.v (.int .i64 0))) rfl .nil) (.one (.c (.v _))))
              · skip
                replace h := jret h
                replace h := Option.some.inj h; subst h
                exact hE

set_option maxRecDepth 100000 in
set_option maxHeartbeats 4000000 in
theorem slices_Equal_SSpan_Span_fn {s1' : (List Span)} {s2' : (List Span)} {r : Bool} (h : slices_Equal_SSpan_Span s1' s2' = some r) : Fn CX 42 [(.v (.sl (s1'.map Span.cs))), (.v (.sl (s2'.map Span.cs)))] (.v (.bool r)) := by
  refine Fn.ends Try.func42 rfl rfl rfl rfl rfl rfl ?_
  have H : Hs (⟨0, fun _ => .none⟩ : Heap) [] := Has.nil (Nat.le_refl _)
  generalize (⟨0, fun _ => .none⟩ : Heap) = σ at H ⊢
  unfold slices_Equal_SSpan_Span at h
  apply Runs.then
  refine Runs.regionH 1 rfl H ?_; intro b1 σ H
  refine Ops.assign (v := (.v (.bool false))) rfl rfl ?_
  apply Ops.nil
  replace H := H.all
  apply Runs.then
  apply Runs.then
  refine Runs.regionH 5 rfl H ?_; intro b2 σ H
  refine Ops.move (v := (.v (.sl (s1'.map Span.cs)))) rfl rfl ?_
  refine Ops.lenPt (c := Span.cs) (xs := s1') rfl rfl rfl ?_
  refine Ops.move (v := (.v (.sl (s2'.map Span.cs)))) rfl rfl ?_
  refine Ops.lenPt (c := Span.cs) (xs := s2') rfl rfl rfl ?_
  refine Ops.int (m := (s1'.length : Int)) (m' := (s2'.length : Int)) (r := .bool ((s1'.length : Int) != (s2'.length : Int))) rfl rfl rfl rfl rfl ?_
  apply Ops.nil
  replace H := H.all
  refine Runs.whether (v := ((s1'.length : Int) != (s2'.length : Int))) rfl ?_ ?_ <;> intro hc1
  · replace h := cond_T hc1 h
    apply Runs.then
    refine Runs.regionH 1 rfl H ?_; intro b3 σ H
    refine Ops.assign (v := (.v (.bool false))) rfl rfl ?_
    apply Ops.nil
    replace H := H.all
    apply Runs.ret
    replace h := Option.some.inj h; subst h
    exact (Ends.H (xs := [(.v (.bool false))]) (.inr rfl) H (.tmp (v := (.v (.bool false))) rfl .nil) (.one (.c (.v _))))
  · replace h := cond_F hc1 h
    apply Runs.skip
    apply Runs.then
    apply Runs.then
    refine Runs.regionH 3 rfl H ?_; intro b4 σ H
    refine Ops.move (v := (.v (.sl (s1'.map Span.cs)))) rfl rfl ?_
    refine Ops.lenPt (c := Span.cs) (xs := s1') rfl rfl rfl ?_
    refine Ops.move (v := (.v (.int .i64 0))) rfl rfl ?_
    apply Ops.nil
    replace H := H.all
    apply Runs.inBlock
    obtain ⟨y1, hj1, h⟩ := bind_some h
    obtain ⟨n1, hj1⟩ := loopO_iff.1 hj1
    refine Runs.mono (Runs.loopO hj1 (fun s1 e σ => EnvHas e [(0, (.v (.sl (s1'.map Span.cs)))), (1, (.v (.sl (s2'.map Span.cs)))), (12, (.v (.int .i64 (s1'.length : Int)))), (13, (.v (.int .i64 s1)))] ∧ Hs σ []) (fun y1 x e σ => (∃ a1, y1 = (.go a1) ∧ x = .exit 0 ∧ EnvHas e [] ∧ Hs σ []) ∨ (∃ r', y1 = (.ret r') ∧ x = .ret ∧ Ends CX Try.f42.results.toList (.v (.bool r')) x e σ)) ⟨⟨rfl, rfl, rfl, rfl, trivial⟩, H⟩ ?_) ?_
    · intro s1 e σ hI z h
      obtain ⟨he, H⟩ := hI
      obtain ⟨e, rfl⟩ := he.ex
      unfold slices_Equal_SSpan_Span.s0 at h
      apply Runs.then
      refine Runs.regionH 1 rfl H ?_; intro b5 σ H
      refine Ops.int (m := s1) (m' := (s1'.length : Int)) (r := .bool (decide (s1 < (s1'.length : Int)))) rfl rfl rfl rfl rfl ?_
      apply Ops.nil
      replace H := H.all
      apply Runs.then
      refine Runs.whether (v := (decide (s1 < (s1'.length : Int)))) rfl ?_ ?_ <;> intro hc2
      · replace h := cond_T hc2 h
        apply Runs.skip
        apply Runs.then
        apply Runs.inBlock
        apply Runs.then
        refine Runs.regionH 2 rfl H ?_; intro b6 σ H
        refine Ops.move (v := (.v (.int .i64 s1))) rfl rfl ?_
        refine Ops.assign (v := (.v (.int .i64 s1))) rfl rfl ?_
        apply Ops.nil
        replace H := H.all
        apply Runs.then
        refine Runs.drawnH 9 rfl (by kernel_rfl) H ?_; intro b7 σ H B7
        refine Ops.move (v := (.v (.sl (s1'.map Span.cs)))) rfl rfl ?_
        refine Ops.move (v := (.v (.int .i64 s1))) rfl rfl ?_
        obtain ⟨x1, q1, h⟩ := bind_some h
        refine Ops.indexP (c := Span.cs) (u := x1) rfl rfl q1 rfl rfl rfl rfl ?_
        refine Ops.loadPA (cs := [(.int .i64 x1.From), (.int .i64 x1.To)]) rfl rfl rfl rfl rfl rfl ?_
        refine Ops.move (v := (.v (.sl (s2'.map Span.cs)))) rfl rfl ?_
        refine Ops.move (v := (.v (.int .i64 s1))) rfl rfl ?_
        obtain ⟨x2, q2, h⟩ := bind_some h
        refine Ops.indexP (c := Span.cs) (u := x2) rfl rfl q2 rfl rfl rfl rfl ?_
        refine Ops.loadPA (cs := [(.int .i64 x2.From), (.int .i64 x2.To)]) rfl rfl rfl rfl rfl rfl ?_
        refine Ops.binA (u := (.agg [(.v (.int .i64 x1.From)), (.v (.int .i64 x1.To))])) (w := (.agg [(.v (.int .i64 x2.From)), (.v (.int .i64 x2.To))])) (r := .bool (!((x1.From == x2.From) && ((x1.To == x2.To) && true)))) rfl rfl (by kernel_rfl) (fun _ => ask_eqA rfl rfl rfl rfl) rfl ?_
        apply Ops.nil
        replace H := H.all
        refine Runs.whether (v := (!((x1.From == x2.From) && ((x1.To == x2.To) && true)))) rfl ?_ ?_ <;> intro hc3
        · replace h := cond_T hc3 h
          apply Runs.then
          refine Runs.regionH 1 rfl H ?_; intro b8 σ H
          refine Ops.assign (v := (.v (.bool false))) rfl rfl ?_
          apply Ops.nil
          replace H := H.all
          apply Runs.ret
          replace h := Option.some.inj h; subst h
          exact ⟨nofun, (.inr ⟨_, rfl, rfl, (Ends.H (xs := [(.v (.bool false))]) (.inr rfl) H (.tmp (v := (.v (.bool false))) rfl .nil) (.one (.c (.v _))))⟩)⟩
        · replace h := cond_F hc3 h
          apply Runs.skip
          refine Runs.regionH 2 rfl H ?_; intro b9 σ H
          refine Ops.int (m := s1) (m' := 1) (r := .int .i64 (w64 (s1 + 1))) rfl rfl rfl rfl rfl ?_
          refine Ops.move (v := (.v (.int .i64 (w64 (s1 + 1))))) rfl rfl ?_
          apply Ops.nil
          replace H := H.all
          replace h := Option.some.inj h; subst h
          exact ⟨rfl, ⟨rfl, rfl, rfl, rfl, trivial⟩, H⟩
      · replace h := cond_F hc2 h
        apply Runs.exit
        replace h := Option.some.inj h; subst h
        exact ⟨nofun, (.inl ⟨_, rfl, rfl, trivial, H⟩)⟩
    · rintro x e σ (⟨a2, rfl, rfl, he, H⟩ | ⟨r', rfl, rfl, hE⟩)
      · skip
        replace h := jgo h
        obtain ⟨e, rfl⟩ := he.ex
        apply Runs.then
        refine Runs.regionH 1 rfl H ?_; intro b10 σ H
        refine Ops.assign (v := (.v (.bool true))) rfl rfl ?_
        apply Ops.nil
        replace H := H.all
        apply Runs.ret
        replace h := Option.some.inj h; subst h
        exact (Ends.H (xs := [(.v (.bool true))]) (.inr rfl) H (.tmp (v := (.v (.bool true))) rfl .nil) (.one (.c (.v _))))
      · skip
        replace h := jret h
        replace h := Option.some.inj h; subst h
        exact hE

set_option maxRecDepth 100000 in
set_option maxHeartbeats 4000000 in
theorem spans_Same_fn {a : (List Span)} {b : (List Span)} {r : Bool} (h : spans_Same a b = some r) : Fn CX 18 [(.v (.sl (a.map Span.cs))), (.v (.sl (b.map Span.cs)))] (.v (.bool r)) := by
  refine Fn.ends Try.func18 rfl rfl rfl rfl rfl rfl ?_
  have H : Hs (⟨0, fun _ => .none⟩ : Heap) [] := Has.nil (Nat.le_refl _)
  generalize (⟨0, fun _ => .none⟩ : Heap) = σ at H ⊢
  unfold spans_Same at h
  apply Runs.then
  refine Runs.regionH 1 rfl H ?_; intro b1 σ H
  refine Ops.assign (v := (.v (.bool false))) rfl rfl ?_
  apply Ops.nil
  replace H := H.all
  apply Runs.then
  refine Runs.regionH 4 rfl H ?_; intro b2 σ H
  refine Ops.move (v := (.v (.sl (a.map Span.cs)))) rfl rfl ?_
  refine Ops.move (v := (.v (.sl (b.map Span.cs)))) rfl rfl ?_
  obtain ⟨x1, q1, h⟩ := bind_some h
  refine Ops.call (ys := [(.v (.sl (a.map Span.cs))), (.v (.sl (b.map Span.cs)))]) (r := (.v (.bool x1))) rfl (slices_Equal_SSpan_Span_fn q1) rfl ?_
  refine Ops.assign (v := (.v (.bool x1))) rfl rfl ?_
  apply Ops.nil
  replace H := H.all
  apply Runs.ret
  replace h := Option.some.inj h; subst h
  exact (Ends.H (xs := [(.v (.bool x1))]) (.inr rfl) H (.tmp (v := (.v (.bool x1))) rfl .nil) (.one (.c (.v _))))

end Go.Dn
