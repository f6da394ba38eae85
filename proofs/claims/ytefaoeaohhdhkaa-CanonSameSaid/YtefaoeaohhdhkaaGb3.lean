/- The interpreter answers as the plain functions do: part 3. -/
import Derived.Test.YtefaoeaohhdhkaaSh
import Derived.Test.YtefaoeaohhdhkaaGb2
set_option linter.unusedVariables false
set_option linter.unusedSimpArgs false
namespace Go.Dn
open Go Go.Proofs

set_option maxRecDepth 100000 in
set_option maxHeartbeats 4000000 in
theorem epactlaw06_CanonKeeps_fn {f : Form} {i : Int} {r : Bool} (h : epactlaw06_CanonKeeps f i = some r) : Fn CX 9 [(.agg (vs (Form.cs f))), (.v (.int .i64 i))] (.v (.bool r)) := by
  refine Fn.ends Try.func9 rfl rfl rfl rfl rfl rfl ?_
  have H : Hs (⟨0, fun _ => .none⟩ : Heap) [] := Has.nil (Nat.le_refl _)
  generalize (⟨0, fun _ => .none⟩ : Heap) = σ at H ⊢
  unfold epactlaw06_CanonKeeps at h
  apply Runs.then
  refine Runs.regionH 2 rfl H ?_; intro b1 σ H
  refine Ops.boxH (v := (.agg [(.v (.int .i64 f.Period)), (.v (.int .i64 f.Count)), (.v (.sl (f.Core.map (cL Span.cs)))), (.v (.sl (f.Odd.map Granule.cs)))])) (cs := [(.v (.int .i64 f.Period)), (.v (.int .i64 f.Count)), (.v (.sl (f.Core.map (cL Span.cs)))), (.v (.sl (f.Odd.map Granule.cs)))]) H (by omega) (by omega) rfl rfl rfl ?_; intro σ H
  refine Ops.assign (v := (.v (.bool false))) rfl rfl ?_
  apply Ops.nil
  replace H := H.all
  apply Runs.then
  apply Runs.then
  refine Runs.regionH 3 rfl H ?_; intro b2 σ H
  refine Ops.loadHA (off := 0) (cs := [(.v (.int .i64 f.Period)), (.v (.int .i64 f.Count)), (.v (.sl (f.Core.map (cL Span.cs)))), (.v (.sl (f.Odd.map Granule.cs)))]) H 0 rfl rfl rfl rfl rfl rfl rfl nofun rfl ?_
  obtain ⟨x1, q1, h⟩ := bind_some h
  refine Ops.call (ys := [(.agg [(.v (.int .i64 f.Period)), (.v (.int .i64 f.Count)), (.v (.sl (f.Core.map (cL Span.cs)))), (.v (.sl (f.Odd.map Granule.cs)))])]) (r := (.v (.bool x1))) rfl (epactlaw06_right_fn q1) rfl ?_
  refine Ops.not (b := x1) rfl rfl ?_
  apply Ops.nil
  replace H := H.all
  refine Runs.whether (v := (!x1)) rfl ?_ ?_ <;> intro hc1
  · replace h := cond_T hc1 h
    apply Runs.then
    refine Runs.regionH 2 rfl H ?_; intro b3 σ H
    refine Ops.call (ys := []) (r := (.v (.bool epactlaw06_awake))) rfl (epactlaw06_awake_fn rfl) rfl ?_
    refine Ops.assign (v := (.v (.bool epactlaw06_awake))) rfl rfl ?_
    apply Ops.nil
    replace H := H.all
    apply Runs.ret
    replace h := Option.some.inj h; subst h
    exact (Ends.H (xs := [(.v (.bool epactlaw06_awake))]) (.inr rfl) H (.tmp (v := (.v (.bool epactlaw06_awake))) rfl .nil) (.one (.c (.v _))))
  · replace h := cond_F hc1 h
    apply Runs.skip
    apply Runs.then
    refine Runs.regionH 4 rfl H ?_; intro b4 σ H
    refine Ops.loadHA (off := 0) (cs := [(.v (.int .i64 f.Period)), (.v (.int .i64 f.Count)), (.v (.sl (f.Core.map (cL Span.cs)))), (.v (.sl (f.Odd.map Granule.cs)))]) H 0 rfl rfl rfl rfl rfl rfl rfl nofun rfl ?_
    obtain ⟨x2, q2, h⟩ := bind_some h
    refine Ops.call (ys := [(.agg [(.v (.int .i64 f.Period)), (.v (.int .i64 f.Count)), (.v (.sl (f.Core.map (cL Span.cs)))), (.v (.sl (f.Odd.map Granule.cs)))])]) (r := (.agg [(.v (.int .i64 x2.Period)), (.v (.int .i64 x2.Count)), (.v (.sl (x2.Core.map (cL Span.cs)))), (.v (.sl (x2.Odd.map Granule.cs)))])) rfl (canon_Form_fn q2) rfl ?_
    refine Ops.allocH (cs := [(.v (.int .i64 0)), (.v (.int .i64 0)), .nils, .nils]) H (by omega) (by omega) rfl rfl ?_; intro σ H
    refine Ops.storeH (off := 0) (v := (.agg [(.v (.int .i64 x2.Period)), (.v (.int .i64 x2.Count)), (.v (.sl (x2.Core.map (cL Span.cs)))), (.v (.sl (x2.Odd.map Granule.cs)))])) (ys := [(.v (.int .i64 x2.Period)), (.v (.int .i64 x2.Count)), (.v (.sl (x2.Core.map (cL Span.cs)))), (.v (.sl (x2.Odd.map Granule.cs)))]) (cells' := [(.v (.int .i64 x2.Period)), (.v (.int .i64 x2.Count)), (.v (.sl (x2.Core.map (cL Span.cs)))), (.v (.sl (x2.Odd.map Granule.cs)))]) H 0 rfl rfl rfl rfl rfl rfl rfl rfl rfl nofun ?_; intro σ H
    apply Ops.nil
    replace H := H.all
    apply Runs.then
    apply Runs.then
    refine Runs.drawnH 45 rfl (by kernel_rfl) H ?_; intro b5 σ H B5
    refine Ops.loadHA (off := 0) (cs := [(.v (.int .i64 x2.Period)), (.v (.int .i64 x2.Count)), (.v (.sl (x2.Core.map (cL Span.cs)))), (.v (.sl (x2.Odd.map Granule.cs)))]) H 0 rfl rfl rfl rfl rfl rfl rfl (fun _ => .inl ⟨B5 0 _ rfl _ rfl, nofun⟩) rfl ?_
    obtain ⟨x3, q3, h⟩ := bind_some h
    refine Ops.call (ys := [(.agg [(.v (.int .i64 x2.Period)), (.v (.int .i64 x2.Count)), (.v (.sl (x2.Core.map (cL Span.cs)))), (.v (.sl (x2.Odd.map Granule.cs)))])]) (r := (.v (.int .i64 x3))) rfl (gran_Right_fn q3) rfl ?_
    refine Ops.int (m := x3) (m' := 0) (r := .bool (x3 != 0)) rfl rfl rfl rfl rfl ?_
    refine Ops.move (v := (.v (.bool (x3 != 0)))) rfl rfl ?_
    obtain ⟨y1, hj1, h⟩ := bind_some h
    refine Ops.mid 4 (K1 := fun e σ => EnvHas e [(25, (.v (.bool y1))), (1, (.v (.int .i64 i))), (2, (.ptr (b1 + 0) 4 0)), (5, (.ptr (b4 + 2) 4 0))] ∧ Has σ (b5 + 8) (b5 + 45) [.blk (b4 + 2) 25 [(.v (.int .i64 x2.Period)), (.v (.int .i64 x2.Count)), (.v (.sl (x2.Core.map (cL Span.cs)))), (.v (.sl (x2.Odd.map Granule.cs)))], .blk (b1 + 0) 25 [(.v (.int .i64 f.Period)), (.v (.int .i64 f.Count)), (.v (.sl (f.Core.map (cL Span.cs)))), (.v (.sl (f.Odd.map Granule.cs)))]]) rfl ?_ ?_
    · refine Ops.split rfl rfl ?_ ?_ <;> intro hc2
      · replace h := cond_T hc2 hj1
        refine Ops.pass rfl rfl rfl ?_
        refine Ops.pass rfl rfl rfl ?_
        refine Ops.pass rfl rfl rfl ?_
        refine Ops.pickT (v := (.v (.bool true))) rfl rfl rfl ?_
        apply Ops.nil
        replace h := Option.some.inj h; subst h
        exact ⟨⟨rfl, rfl, rfl, rfl, trivial⟩, H.weak (by omega) (Nat.le_refl _)⟩
      · replace h := cond_F hc2 hj1
        refine Ops.wanted rfl rfl ?_
        refine Ops.loadHA (off := 0) (cs := [(.v (.int .i64 x2.Period)), (.v (.int .i64 x2.Count)), (.v (.sl (x2.Core.map (cL Span.cs)))), (.v (.sl (x2.Odd.map Granule.cs)))]) H 0 rfl rfl rfl rfl rfl rfl rfl (fun _ => .inl ⟨B5 0 _ rfl _ rfl, nofun⟩) rfl ?_
        refine Ops.wanted rfl rfl ?_
        obtain ⟨x4, q4, h⟩ := bind_some h
        refine Ops.call (ys := [(.agg [(.v (.int .i64 x2.Period)), (.v (.int .i64 x2.Count)), (.v (.sl (x2.Core.map (cL Span.cs)))), (.v (.sl (x2.Odd.map Granule.cs)))])]) (r := (.v (.bool x4))) rfl (canon_Is_fn q4) rfl ?_
        refine Ops.wanted rfl rfl ?_
        refine Ops.not (b := x4) rfl rfl ?_
        refine Ops.pickF (v := (.v (.bool (!x4)))) rfl rfl rfl ?_
        apply Ops.nil
        replace h := Option.some.inj h; subst h
        exact ⟨⟨rfl, rfl, rfl, rfl, trivial⟩, H.weak (by omega) (Nat.le_refl _)⟩
    · rintro e σ ⟨he, H⟩
      obtain ⟨e, rfl⟩ := he.ex
      refine Ops.move (v := (.v (.bool y1))) rfl rfl ?_
      obtain ⟨y2, hj2, h⟩ := bind_some h
      refine Ops.mid 6 (K1 := fun e σ => EnvHas e [(32, (.v (.bool y2))), (1, (.v (.int .i64 i))), (2, (.ptr (b1 + 0) 4 0)), (5, (.ptr (b4 + 2) 4 0))] ∧ Has σ (b5 + 15) (b5 + 45) [.blk (b4 + 2) 25 [(.v (.int .i64 x2.Period)), (.v (.int .i64 x2.Count)), (.v (.sl (x2.Core.map (cL Span.cs)))), (.v (.sl (x2.Odd.map Granule.cs)))], .blk (b1 + 0) 25 [(.v (.int .i64 f.Period)), (.v (.int .i64 f.Count)), (.v (.sl (f.Core.map (cL Span.cs)))), (.v (.sl (f.Odd.map Granule.cs)))]]) rfl ?_ ?_
      · refine Ops.split rfl rfl ?_ ?_ <;> intro hc3
        · replace h := cond_T hc3 hj2
          refine Ops.pass rfl rfl rfl ?_
          refine Ops.pass rfl rfl rfl ?_
          refine Ops.pass rfl rfl rfl ?_
          refine Ops.pass rfl rfl rfl ?_
          refine Ops.pass rfl rfl rfl ?_
          refine Ops.pickT (v := (.v (.bool true))) rfl rfl rfl ?_
          apply Ops.nil
          replace h := Option.some.inj h; subst h
          exact ⟨⟨rfl, rfl, rfl, rfl, trivial⟩, H.weak (by omega) (Nat.le_refl _)⟩
        · replace h := cond_F hc3 hj2
          refine Ops.wanted rfl rfl ?_
          refine Ops.loadHA (off := 0) (cs := [(.v (.int .i64 x2.Period)), (.v (.int .i64 x2.Count)), (.v (.sl (x2.Core.map (cL Span.cs)))), (.v (.sl (x2.Odd.map Granule.cs)))]) H 0 rfl rfl rfl rfl rfl rfl rfl (fun _ => .inl ⟨B5 0 _ rfl _ rfl, nofun⟩) rfl ?_
          refine Ops.wanted rfl rfl ?_
          obtain ⟨x5, q5, h⟩ := bind_some h
          refine Ops.call (ys := [(.agg [(.v (.int .i64 x2.Period)), (.v (.int .i64 x2.Count)), (.v (.sl (x2.Core.map (cL Span.cs)))), (.v (.sl (x2.Odd.map Granule.cs)))])]) (r := (.agg [(.v (.int .i64 x5.Period)), (.v (.int .i64 x5.Count)), (.v (.sl (x5.Core.map (cL Span.cs)))), (.v (.sl (x5.Odd.map Granule.cs)))])) rfl (canon_Form_fn q5) rfl ?_
          refine Ops.wanted rfl rfl ?_
          refine Ops.loadHA (off := 0) (cs := [(.v (.int .i64 x2.Period)), (.v (.int .i64 x2.Count)), (.v (.sl (x2.Core.map (cL Span.cs)))), (.v (.sl (x2.Odd.map Granule.cs)))]) H 0 rfl rfl rfl rfl rfl rfl rfl (fun _ => .inl ⟨B5 0 _ rfl _ rfl, nofun⟩) rfl ?_
          refine Ops.wanted rfl rfl ?_
          obtain ⟨x6, q6, h⟩ := bind_some h
          refine Ops.call (ys := [(.agg [(.v (.int .i64 x5.Period)), (.v (.int .i64 x5.Count)), (.v (.sl (x5.Core.map (cL Span.cs)))), (.v (.sl (x5.Odd.map Granule.cs)))]), (.agg [(.v (.int .i64 x2.Period)), (.v (.int .i64 x2.Count)), (.v (.sl (x2.Core.map (cL Span.cs)))), (.v (.sl (x2.Odd.map Granule.cs)))])]) (r := (.v (.bool x6))) rfl (epactlow_AlikeForms_fn q6) rfl ?_
          refine Ops.wanted rfl rfl ?_
          refine Ops.not (b := x6) rfl rfl ?_
          refine Ops.pickF (v := (.v (.bool (!x6)))) rfl rfl rfl ?_
          apply Ops.nil
          replace h := Option.some.inj h; subst h
          exact ⟨⟨rfl, rfl, rfl, rfl, trivial⟩, H.weak (by omega) (Nat.le_refl _)⟩
      · rintro e σ ⟨he, H⟩
        obtain ⟨e, rfl⟩ := he.ex
        refine Ops.move (v := (.v (.bool y2))) rfl rfl ?_
        refine Ops.mid 6 (K1 := fun e σ => EnvHas e [(39, (.v (.bool (y2 || (decide (x2.Count > f.Count)))))), (1, (.v (.int .i64 i))), (2, (.ptr (b1 + 0) 4 0)), (5, (.ptr (b4 + 2) 4 0))] ∧ Has σ (b5 + 22) (b5 + 45) [.blk (b4 + 2) 25 [(.v (.int .i64 x2.Period)), (.v (.int .i64 x2.Count)), (.v (.sl (x2.Core.map (cL Span.cs)))), (.v (.sl (x2.Odd.map Granule.cs)))], .blk (b1 + 0) 25 [(.v (.int .i64 f.Period)), (.v (.int .i64 f.Count)), (.v (.sl (f.Core.map (cL Span.cs)))), (.v (.sl (f.Odd.map Granule.cs)))]]) rfl ?_ ?_
        · refine Ops.split rfl rfl ?_ ?_ <;> intro hc4
          · skip
            refine Ops.pass rfl rfl rfl ?_
            refine Ops.pass rfl rfl rfl ?_
            refine Ops.pass rfl rfl rfl ?_
            refine Ops.pass rfl rfl rfl ?_
            refine Ops.pass rfl rfl rfl ?_
            refine Ops.pickT (v := (.v (.bool true))) rfl rfl rfl ?_
            apply Ops.nil
            exact ⟨⟨or_T hc4, rfl, rfl, rfl, trivial⟩, H.weak (by omega) (Nat.le_refl _)⟩
          · skip
            refine Ops.wanted rfl rfl ?_
            refine Ops.fieldAddrH (off := 0) (fo := 1) H 0 rfl rfl rfl rfl rfl (fun _ => .inl ⟨B5 0 _ rfl _ rfl, nofun⟩) rfl ?_
            refine Ops.wanted rfl rfl ?_
            refine Ops.loadH (off := 1) (v := (.v (.int .i64 x2.Count))) H 0 rfl rfl rfl rfl rfl (fun _ => .inl ⟨B5 0 _ rfl _ rfl, nofun⟩) rfl ?_
            refine Ops.wanted rfl rfl ?_
            refine Ops.fieldAddrH (off := 0) (fo := 1) H 1 rfl rfl rfl rfl rfl (fun _ => .inl ⟨B5 1 _ rfl _ rfl, nofun⟩) rfl ?_
            refine Ops.wanted rfl rfl ?_
            refine Ops.loadH (off := 1) (v := (.v (.int .i64 f.Count))) H 1 rfl rfl rfl rfl rfl (fun _ => .inl ⟨B5 1 _ rfl _ rfl, nofun⟩) rfl ?_
            refine Ops.wanted rfl rfl ?_
            refine Ops.int (m := x2.Count) (m' := f.Count) (r := .bool (decide (x2.Count > f.Count))) rfl rfl rfl rfl rfl ?_
            refine Ops.pickF (v := (.v (.bool (decide (x2.Count > f.Count))))) rfl rfl rfl ?_
            apply Ops.nil
            exact ⟨⟨or_F hc4, rfl, rfl, rfl, trivial⟩, H.weak (by omega) (Nat.le_refl _)⟩
        · rintro e σ ⟨he, H⟩
          obtain ⟨e, rfl⟩ := he.ex
          refine Ops.move (v := (.v (.bool (y2 || (decide (x2.Count > f.Count)))))) rfl rfl ?_
          refine Ops.mid 6 (K1 := fun e σ => EnvHas e [(46, (.v (.bool ((y2 || (decide (x2.Count > f.Count))) || (decide (x2.Period > f.Period)))))), (1, (.v (.int .i64 i))), (2, (.ptr (b1 + 0) 4 0)), (5, (.ptr (b4 + 2) 4 0))] ∧ Has σ (b5 + 29) (b5 + 45) [.blk (b4 + 2) 25 [(.v (.int .i64 x2.Period)), (.v (.int .i64 x2.Count)), (.v (.sl (x2.Core.map (cL Span.cs)))), (.v (.sl (x2.Odd.map Granule.cs)))], .blk (b1 + 0) 25 [(.v (.int .i64 f.Period)), (.v (.int .i64 f.Count)), (.v (.sl (f.Core.map (cL Span.cs)))), (.v (.sl (f.Odd.map Granule.cs)))]]) rfl ?_ ?_
          · refine Ops.split rfl rfl ?_ ?_ <;> intro hc5
            · skip
              refine Ops.pass rfl rfl rfl ?_
              refine Ops.pass rfl rfl rfl ?_
              refine Ops.pass rfl rfl rfl ?_
              refine Ops.pass rfl rfl rfl ?_
              refine Ops.pass rfl rfl rfl ?_
              refine Ops.pickT (v := (.v (.bool true))) rfl rfl rfl ?_
              apply Ops.nil
              exact ⟨⟨or_T hc5, rfl, rfl, rfl, trivial⟩, H.weak (by omega) (Nat.le_refl _)⟩
            · skip
              refine Ops.wanted rfl rfl ?_
              refine Ops.fieldAddrH (off := 0) (fo := 0) H 0 rfl rfl rfl rfl rfl (fun _ => .inl ⟨B5 0 _ rfl _ rfl, nofun⟩) rfl ?_
              refine Ops.wanted rfl rfl ?_
              refine Ops.loadH (off := 0) (v := (.v (.int .i64 x2.Period))) H 0 rfl rfl rfl rfl rfl (fun _ => .inl ⟨B5 0 _ rfl _ rfl, nofun⟩) rfl ?_
              refine Ops.wanted rfl rfl ?_
              refine Ops.fieldAddrH (off := 0) (fo := 0) H 1 rfl rfl rfl rfl rfl (fun _ => .inl ⟨B5 1 _ rfl _ rfl, nofun⟩) rfl ?_
              refine Ops.wanted rfl rfl ?_
              refine Ops.loadH (off := 0) (v := (.v (.int .i64 f.Period))) H 1 rfl rfl rfl rfl rfl (fun _ => .inl ⟨B5 1 _ rfl _ rfl, nofun⟩) rfl ?_
              refine Ops.wanted rfl rfl ?_
              refine Ops.int (m := x2.Period) (m' := f.Period) (r := .bool (decide (x2.Period > f.Period))) rfl rfl rfl rfl rfl ?_
              refine Ops.pickF (v := (.v (.bool (decide (x2.Period > f.Period))))) rfl rfl rfl ?_
              apply Ops.nil
              exact ⟨⟨or_F hc5, rfl, rfl, rfl, trivial⟩, H.weak (by omega) (Nat.le_refl _)⟩
          · rintro e σ ⟨he, H⟩
            obtain ⟨e, rfl⟩ := he.ex
            refine Ops.move (v := (.v (.bool ((y2 || (decide (x2.Count > f.Count))) || (decide (x2.Period > f.Period)))))) rfl rfl ?_
            refine Ops.mid 8 (K1 := fun e σ => EnvHas e [(55, (.v (.bool (((y2 || (decide (x2.Count > f.Count))) || (decide (x2.Period > f.Period))) || (decide ((x2.Odd.length : Int) > (f.Odd.length : Int))))))), (1, (.v (.int .i64 i))), (2, (.ptr (b1 + 0) 4 0)), (5, (.ptr (b4 + 2) 4 0))] ∧ Has σ (b5 + 38) (b5 + 45) [.blk (b4 + 2) 25 [(.v (.int .i64 x2.Period)), (.v (.int .i64 x2.Count)), (.v (.sl (x2.Core.map (cL Span.cs)))), (.v (.sl (x2.Odd.map Granule.cs)))], .blk (b1 + 0) 25 [(.v (.int .i64 f.Period)), (.v (.int .i64 f.Count)), (.v (.sl (f.Core.map (cL Span.cs)))), (.v (.sl (f.Odd.map Granule.cs)))]]) rfl ?_ ?_
            · refine Ops.split rfl rfl ?_ ?_ <;> intro hc6
              · skip
                refine Ops.pass rfl rfl rfl ?_
                refine Ops.pass rfl rfl rfl ?_
                refine Ops.pass rfl rfl rfl ?_
                refine Ops.pass rfl rfl rfl ?_
                refine Ops.pass rfl rfl rfl ?_
                refine Ops.pass rfl rfl rfl ?_
                refine Ops.pass rfl rfl rfl ?_
                refine Ops.pickT (v := (.v (.bool true))) rfl rfl rfl ?_
                apply Ops.nil
                exact ⟨⟨or_T hc6, rfl, rfl, rfl, trivial⟩, H.weak (by omega) (Nat.le_refl _)⟩
              · skip
                refine Ops.wanted rfl rfl ?_
                refine Ops.fieldAddrH (off := 0) (fo := 3) H 0 rfl rfl rfl rfl rfl (fun _ => .inl ⟨B5 0 _ rfl _ rfl, nofun⟩) rfl ?_
                refine Ops.wanted rfl rfl ?_
                refine Ops.loadH (off := 3) (v := (.v (.sl (x2.Odd.map Granule.cs)))) H 0 rfl rfl rfl rfl rfl (fun _ => .inl ⟨B5 0 _ rfl _ rfl, nofun⟩) rfl ?_
                refine Ops.wanted rfl rfl ?_
                refine Ops.lenPt (c := Granule.cs) (xs := x2.Odd) rfl rfl rfl ?_
                refine Ops.wanted rfl rfl ?_
                refine Ops.fieldAddrH (off := 0) (fo := 3) H 1 rfl rfl rfl rfl rfl (fun _ => .inl ⟨B5 1 _ rfl _ rfl, nofun⟩) rfl ?_
                refine Ops.wanted rfl rfl ?_
                refine Ops.loadH (off := 3) (v := (.v (.sl (f.Odd.map Granule.cs)))) H 1 rfl rfl rfl rfl rfl (fun _ => .inl ⟨B5 1 _ rfl _ rfl, nofun⟩) rfl ?_
                refine Ops.wanted rfl rfl ?_
                refine Ops.lenPt (c := Granule.cs) (xs := f.Odd) rfl rfl rfl ?_
                refine Ops.wanted rfl rfl ?_
                refine Ops.int (m := (x2.Odd.length : Int)) (m' := (f.Odd.length : Int)) (r := .bool (decide ((x2.Odd.length : Int) > (f.Odd.length : Int)))) rfl rfl rfl rfl rfl ?_
                refine Ops.pickF (v := (.v (.bool (decide ((x2.Odd.length : Int) > (f.Odd.length : Int)))))) rfl rfl rfl ?_
                apply Ops.nil
                exact ⟨⟨or_F hc6, rfl, rfl, rfl, trivial⟩, H.weak (by omega) (Nat.le_refl _)⟩
            · rintro e σ ⟨he, H⟩
              obtain ⟨e, rfl⟩ := he.ex
              refine Ops.move (v := (.v (.bool (((y2 || (decide (x2.Count > f.Count))) || (decide (x2.Period > f.Period))) || (decide ((x2.Odd.length : Int) > (f.Odd.length : Int))))))) rfl rfl ?_
              obtain ⟨y3, hj3, h⟩ := bind_some h
              refine Ops.mid 6 (K1 := fun e σ => EnvHas e [(62, (.v (.bool y3))), (1, (.v (.int .i64 i))), (2, (.ptr (b1 + 0) 4 0)), (5, (.ptr (b4 + 2) 4 0))] ∧ Has σ (b5 + 45) (b5 + 45) [.blk (b4 + 2) 25 [(.v (.int .i64 x2.Period)), (.v (.int .i64 x2.Count)), (.v (.sl (x2.Core.map (cL Span.cs)))), (.v (.sl (x2.Odd.map Granule.cs)))], .blk (b1 + 0) 25 [(.v (.int .i64 f.Period)), (.v (.int .i64 f.Count)), (.v (.sl (f.Core.map (cL Span.cs)))), (.v (.sl (f.Odd.map Granule.cs)))]]) rfl ?_ ?_
              · refine Ops.split rfl rfl ?_ ?_ <;> intro hc7
                · replace h := cond_T hc7 hj3
                  refine Ops.pass rfl rfl rfl ?_
                  refine Ops.pass rfl rfl rfl ?_
                  refine Ops.pass rfl rfl rfl ?_
                  refine Ops.pass rfl rfl rfl ?_
                  refine Ops.pass rfl rfl rfl ?_
                  refine Ops.pickT (v := (.v (.bool true))) rfl rfl rfl ?_
                  apply Ops.nil
                  replace h := Option.some.inj h; subst h
                  exact ⟨⟨rfl, rfl, rfl, rfl, trivial⟩, H.weak (by omega) (Nat.le_refl _)⟩
                · replace h := cond_F hc7 hj3
                  refine Ops.wanted rfl rfl ?_
                  refine Ops.loadHA (off := 0) (cs := [(.v (.int .i64 x2.Period)), (.v (.int .i64 x2.Count)), (.v (.sl (x2.Core.map (cL Span.cs)))), (.v (.sl (x2.Odd.map Granule.cs)))]) H 0 rfl rfl rfl rfl rfl rfl rfl (fun _ => .inl ⟨B5 0 _ rfl _ rfl, nofun⟩) rfl ?_
                  refine Ops.wanted rfl rfl ?_
                  obtain ⟨x7, q7, h⟩ := bind_some h
                  refine Ops.call (ys := [(.agg [(.v (.int .i64 x2.Period)), (.v (.int .i64 x2.Count)), (.v (.sl (x2.Core.map (cL Span.cs)))), (.v (.sl (x2.Odd.map Granule.cs)))])]) (r := (.v (.int .i64 x7))) rfl (gran_Size_fn q7) rfl ?_
                  refine Ops.wanted rfl rfl ?_
                  refine Ops.loadHA (off := 0) (cs := [(.v (.int .i64 f.Period)), (.v (.int .i64 f.Count)), (.v (.sl (f.Core.map (cL Span.cs)))), (.v (.sl (f.Odd.map Granule.cs)))]) H 1 rfl rfl rfl rfl rfl rfl rfl (fun _ => .inl ⟨B5 1 _ rfl _ rfl, nofun⟩) rfl ?_
                  refine Ops.wanted rfl rfl ?_
                  obtain ⟨x8, q8, h⟩ := bind_some h
                  refine Ops.call (ys := [(.agg [(.v (.int .i64 f.Period)), (.v (.int .i64 f.Count)), (.v (.sl (f.Core.map (cL Span.cs)))), (.v (.sl (f.Odd.map Granule.cs)))])]) (r := (.v (.int .i64 x8))) rfl (gran_Size_fn q8) rfl ?_
                  refine Ops.wanted rfl rfl ?_
                  refine Ops.int (m := x7) (m' := x8) (r := .bool (decide (x7 > x8))) rfl rfl rfl rfl rfl ?_
                  refine Ops.pickF (v := (.v (.bool (decide (x7 > x8))))) rfl rfl rfl ?_
                  apply Ops.nil
                  replace h := Option.some.inj h; subst h
                  exact ⟨⟨rfl, rfl, rfl, rfl, trivial⟩, H.weak (by omega) (Nat.le_refl _)⟩
              · rintro e σ ⟨he, H⟩
                obtain ⟨e, rfl⟩ := he.ex
                apply Ops.nil
                replace H := H.all
                refine Runs.whether (v := y3) rfl ?_ ?_ <;> intro hc8
                · replace h := cond_T hc8 h
                  apply Runs.then
                  refine Runs.regionH 1 rfl H ?_; intro b6 σ H
                  refine Ops.assign (v := (.v (.bool false))) rfl rfl ?_
                  apply Ops.nil
                  replace H := H.all
                  apply Runs.ret
                  replace h := Option.some.inj h; subst h
                  exact (Ends.H (xs := [(.v (.bool false))]) (.inr rfl) H (.tmp (v := (.v (.bool false))) rfl .nil) (.one (.c (.v _))))
                · replace h := cond_F hc8 h
                  apply Runs.skip
                  apply Runs.then
                  apply Runs.then
                  refine Runs.regionH 7 rfl H ?_; intro b7 σ H
                  refine Ops.move (v := (.v (.int .i64 i))) rfl rfl ?_
                  refine Ops.move (v := (.v (.int .i64 i))) rfl rfl ?_
                  refine Ops.rem (m := i) (m' := 50) rfl rfl (by decide) rfl ?_
                  refine Ops.int (m := (i.tmod 50)) (m' := 25) (r := .int .i64 (w64 ((i.tmod 50) - 25))) rfl rfl rfl rfl rfl ?_
                  refine Ops.buildS (sz := 1) ([i, 0, 1, (-1), (w64 ((i.tmod 50) - 25))].map (cI .i64)) H (by omega) (by omega) rfl rfl rfl rfl rfl rfl rfl rfl rfl ?_; intro σ H
                  refine Ops.lenSt (c := (cI .i64)) (xs := [i, 0, 1, (-1), (w64 ((i.tmod 50) - 25))]) H 0 rfl rfl rfl nofun rfl ?_
                  refine Ops.move (v := (.v (.int .i64 0))) rfl rfl ?_
                  apply Ops.nil
                  replace H := H.all
                  apply Runs.inBlock
                  obtain ⟨y4, hj4, h⟩ := bind_some h
                  obtain ⟨n1, hj4⟩ := loopO_iff.1 hj4
                  refine Runs.mono (Runs.loopO hj4 (fun s1 e σ => EnvHas e [(2, (.ptr (b1 + 0) 4 0)), (5, (.ptr (b4 + 2) 4 0)), (67, (.buf (b7 + 4) 5 1)), (68, (.v (.int .i64 ([i, 0, 1, (-1), (w64 ((i.tmod 50) - 25))].length : Int)))), (69, (.v (.int .i64 s1)))] ∧ Hs σ [.sl (.buf (b7 + 4) 5 1) 3 1 ([i, 0, 1, (-1), (w64 ((i.tmod 50) - 25))].map (cI .i64)) true, .blk (b4 + 2) 25 [(.v (.int .i64 x2.Period)), (.v (.int .i64 x2.Count)), (.v (.sl (x2.Core.map (cL Span.cs)))), (.v (.sl (x2.Odd.map Granule.cs)))], .blk (b1 + 0) 25 [(.v (.int .i64 f.Period)), (.v (.int .i64 f.Count)), (.v (.sl (f.Core.map (cL Span.cs)))), (.v (.sl (f.Odd.map Granule.cs)))]]) (fun y4 x e σ => (∃ a1, y4 = (.go a1) ∧ x = .exit 0 ∧ EnvHas e [(2, (.ptr (b1 + 0) 4 0)), (5, (.ptr (b4 + 2) 4 0))] ∧ Hs σ [.blk (b4 + 2) 25 [(.v (.int .i64 x2.Period)), (.v (.int .i64 x2.Count)), (.v (.sl (x2.Core.map (cL Span.cs)))), (.v (.sl (x2.Odd.map Granule.cs)))], .blk (b1 + 0) 25 [(.v (.int .i64 f.Period)), (.v (.int .i64 f.Count)), (.v (.sl (f.Core.map (cL Span.cs)))), (.v (.sl (f.Odd.map Granule.cs)))]]) ∨ (∃ r', y4 = (.ret r') ∧ x = .ret ∧ Ends CX Try.f9.results.toList (.v (.bool r')) x e σ)) ⟨⟨rfl, rfl, rfl, rfl, rfl, trivial⟩, H⟩ ?_) ?_
                  · intro s1 e σ hI z h
                    obtain ⟨he, H⟩ := hI
                    obtain ⟨e, rfl⟩ := he.ex
                    unfold epactlaw06_CanonKeeps.s0 at h
                    apply Runs.then
                    refine Runs.regionH 1 rfl H ?_; intro b8 σ H
                    refine Ops.int (m := s1) (m' := ([i, 0, 1, (-1), (w64 ((i.tmod 50) - 25))].length : Int)) (r := .bool (decide (s1 < ([i, 0, 1, (-1), (w64 ((i.tmod 50) - 25))].length : Int)))) rfl rfl rfl rfl rfl ?_
                    apply Ops.nil
                    replace H := H.all
                    apply Runs.then
                    refine Runs.whether (v := (decide (s1 < ([i, 0, 1, (-1), (w64 ((i.tmod 50) - 25))].length : Int)))) rfl ?_ ?_ <;> intro hc9
                    · replace h := cond_T hc9 h
                      apply Runs.skip
                      apply Runs.then
                      apply Runs.inBlock
                      apply Runs.then
                      refine Runs.regionH 3 rfl H ?_; intro b9 σ H
                      obtain ⟨x9, q9, h⟩ := bind_some h
                      refine Ops.indexS H 0 rfl rfl rfl (at?_map q9) rfl rfl nofun rfl ?_; intro id1 hv1
                      refine Ops.loadS (id := id1) (j := 0) (w := (.int .i64 x9)) H 0 rfl hv1 (by simp) (at?_map q9) rfl (by simp) rfl rfl rfl nofun rfl ?_
                      refine Ops.assign (v := (.v (.int .i64 x9))) rfl rfl ?_
                      apply Ops.nil
                      replace H := H.all
                      apply Runs.then
                      refine Runs.regionH 8 rfl H ?_; intro b10 σ H
                      refine Ops.loadHA (off := 0) (cs := [(.v (.int .i64 f.Period)), (.v (.int .i64 f.Count)), (.v (.sl (f.Core.map (cL Span.cs)))), (.v (.sl (f.Odd.map Granule.cs)))]) H 2 rfl rfl rfl rfl rfl rfl rfl nofun rfl ?_
                      refine Ops.move (v := (.v (.int .i64 x9))) rfl rfl ?_
                      obtain ⟨x10, q10, h⟩ := bind_some h
                      refine Ops.call (ys := [(.agg [(.v (.int .i64 f.Period)), (.v (.int .i64 f.Count)), (.v (.sl (f.Core.map (cL Span.cs)))), (.v (.sl (f.Odd.map Granule.cs)))]), (.v (.int .i64 x9))]) (r := (.tup [(.v (.sl (x10.1.map Span.cs))), (.v (.int .i64 x10.2))])) rfl (gran_Get_fn q10) rfl ?_
                      refine Ops.move (v := (.tup [(.v (.sl (x10.1.map Span.cs))), (.v (.int .i64 x10.2))])) rfl rfl ?_
                      refine Ops.extract (v := (.v (.sl (x10.1.map Span.cs)))) rfl rfl rfl ?_
                      refine Ops.extract (v := (.v (.int .i64 x10.2))) rfl rfl rfl ?_
                      refine Ops.assign (v := (.v (.sl (x10.1.map Span.cs)))) rfl rfl ?_
                      refine Ops.assign (v := (.v (.int .i64 x10.2))) rfl rfl ?_
                      apply Ops.nil
                      replace H := H.all
                      apply Runs.then
                      refine Runs.regionH 8 rfl H ?_; intro b11 σ H
                      refine Ops.loadHA (off := 0) (cs := [(.v (.int .i64 x2.Period)), (.v (.int .i64 x2.Count)), (.v (.sl (x2.Core.map (cL Span.cs)))), (.v (.sl (x2.Odd.map Granule.cs)))]) H 1 rfl rfl rfl rfl rfl rfl rfl nofun rfl ?_
                      refine Ops.move (v := (.v (.int .i64 x9))) rfl rfl ?_
                      obtain ⟨x11, q11, h⟩ := bind_some h
                      refine Ops.call (ys := [(.agg [(.v (.int .i64 x2.Period)), (.v (.int .i64 x2.Count)), (.v (.sl (x2.Core.map (cL Span.cs)))), (.v (.sl (x2.Odd.map Granule.cs)))]), (.v (.int .i64 x9))]) (r := (.tup [(.v (.sl (x11.1.map Span.cs))), (.v (.int .i64 x11.2))])) rfl (gran_Get_fn q11) rfl ?_
                      refine Ops.move (v := (.tup [(.v (.sl (x11.1.map Span.cs))), (.v (.int .i64 x11.2))])) rfl rfl ?_
                      refine Ops.extract (v := (.v (.sl (x11.1.map Span.cs)))) rfl rfl rfl ?_
                      refine Ops.extract (v := (.v (.int .i64 x11.2))) rfl rfl rfl ?_
                      refine Ops.assign (v := (.v (.sl (x11.1.map Span.cs)))) rfl rfl ?_
                      refine Ops.assign (v := (.v (.int .i64 x11.2))) rfl rfl ?_
                      apply Ops.nil
                      replace H := H.all
                      apply Runs.then
                      refine Runs.regionH 9 rfl H ?_; intro b12 σ H
                      refine Ops.move (v := (.v (.int .i64 x10.2))) rfl rfl ?_
                      refine Ops.move (v := (.v (.int .i64 x11.2))) rfl rfl ?_
                      refine Ops.int (m := x10.2) (m' := x11.2) (r := .bool (x10.2 != x11.2)) rfl rfl rfl rfl rfl ?_
                      refine Ops.move (v := (.v (.bool (x10.2 != x11.2)))) rfl rfl ?_
                      obtain ⟨y5, hj5, h⟩ := bind_some h
                      refine Ops.mid 5 (K1 := fun e σ => EnvHas e [(93, (.v (.bool y5))), (2, (.ptr (b1 + 0) 4 0)), (5, (.ptr (b4 + 2) 4 0)), (67, (.buf (b7 + 4) 5 1)), (68, (.v (.int .i64 ([i, 0, 1, (-1), (w64 ((i.tmod 50) - 25))].length : Int)))), (69, (.v (.int .i64 s1)))] ∧ Has σ (b12 + 9) (b12 + 9) [.sl (.buf (b7 + 4) 5 1) 3 1 ([i, 0, 1, (-1), (w64 ((i.tmod 50) - 25))].map (cI .i64)) true, .blk (b4 + 2) 25 [(.v (.int .i64 x2.Period)), (.v (.int .i64 x2.Count)), (.v (.sl (x2.Core.map (cL Span.cs)))), (.v (.sl (x2.Odd.map Granule.cs)))], .blk (b1 + 0) 25 [(.v (.int .i64 f.Period)), (.v (.int .i64 f.Count)), (.v (.sl (f.Core.map (cL Span.cs)))), (.v (.sl (f.Odd.map Granule.cs)))]]) rfl ?_ ?_
                      · refine Ops.split rfl rfl ?_ ?_ <;> intro hc10
                        · replace h := cond_T hc10 hj5
                          refine Ops.pass rfl rfl rfl ?_
                          refine Ops.pass rfl rfl rfl ?_
                          refine Ops.pass rfl rfl rfl ?_
                          refine Ops.pass rfl rfl rfl ?_
                          refine Ops.pickT (v := (.v (.bool true))) rfl rfl rfl ?_
                          apply Ops.nil
                          replace h := Option.some.inj h; subst h
                          exact ⟨⟨rfl, rfl, rfl, rfl, rfl, rfl, trivial⟩, H.weak (by omega) (Nat.le_refl _)⟩
                        · replace h := cond_F hc10 hj5
                          refine Ops.wanted rfl rfl ?_
                          refine Ops.move (v := (.v (.sl (x10.1.map Span.cs)))) rfl rfl ?_
                          refine Ops.wanted rfl rfl ?_
                          refine Ops.move (v := (.v (.sl (x11.1.map Span.cs)))) rfl rfl ?_
                          refine Ops.wanted rfl rfl ?_
                          obtain ⟨x12, q12, h⟩ := bind_some h
                          refine Ops.call (ys := [(.v (.sl (x10.1.map Span.cs))), (.v (.sl (x11.1.map Span.cs)))]) (r := (.v (.bool x12))) rfl (spans_Same_fn q12) rfl ?_
                          refine Ops.wanted rfl rfl ?_
                          refine Ops.not (b := x12) rfl rfl ?_
                          refine Ops.pickF (v := (.v (.bool (!x12)))) rfl rfl rfl ?_
                          apply Ops.nil
                          replace h := Option.some.inj h; subst h
                          exact ⟨⟨rfl, rfl, rfl, rfl, rfl, rfl, trivial⟩, H.weak (by omega) (Nat.le_refl _)⟩
                      · rintro e σ ⟨he, H⟩
                        obtain ⟨e, rfl⟩ := he.ex
                        apply Ops.nil
                        replace H := H.all
                        refine Runs.whether (v := y5) rfl ?_ ?_ <;> intro hc11
                        · replace h := cond_T hc11 h
                          apply Runs.then
                          refine Runs.regionH 1 rfl H ?_; intro b13 σ H
                          refine Ops.assign (v := (.v (.bool false))) rfl rfl ?_
                          apply Ops.nil
                          replace H := H.all
                          apply Runs.ret
                          replace h := Option.some.inj h; subst h
                          exact ⟨nofun, (.inr ⟨_, rfl, rfl, (Ends.H (xs := [(.v (.bool false))]) (.inr rfl) H (.tmp (v := (.v (.bool false))) rfl .nil) (.one (.c (.v _))))⟩)⟩
                        · replace h := cond_F hc11 h
                          apply Runs.skip
                          refine Runs.regionH 2 rfl H ?_; intro b14 σ H
                          refine Ops.int (m := s1) (m' := 1) (r := .int .i64 (w64 (s1 + 1))) rfl rfl rfl rfl rfl ?_
                          refine Ops.move (v := (.v (.int .i64 (w64 (s1 + 1))))) rfl rfl ?_
                          apply Ops.nil
                          replace H := H.all
                          replace h := Option.some.inj h; subst h
                          exact ⟨rfl, ⟨rfl, rfl, rfl, rfl, rfl, trivial⟩, H⟩
                    · replace h := cond_F hc9 h
                      apply Runs.exit
                      replace h := Option.some.inj h; subst h
                      exact ⟨nofun, (.inl ⟨_, rfl, rfl, ⟨rfl, rfl, trivial⟩, (H.erase 0)⟩)⟩
                  · rintro x e σ (⟨a2, rfl, rfl, he, H⟩ | ⟨r', rfl, rfl, hE⟩)
                    · skip
                      replace h := jgo h
                      obtain ⟨e, rfl⟩ := he.ex
                      apply Runs.then
                      refine Runs.regionH 7 rfl H ?_; intro b15 σ H
                      refine Ops.loadHA (off := 0) (cs := [(.v (.int .i64 f.Period)), (.v (.int .i64 f.Count)), (.v (.sl (f.Core.map (cL Span.cs)))), (.v (.sl (f.Odd.map Granule.cs)))]) H 1 rfl rfl rfl rfl rfl rfl rfl nofun rfl ?_
                      refine Ops.loadHA (off := 0) (cs := [(.v (.int .i64 x2.Period)), (.v (.int .i64 x2.Count)), (.v (.sl (x2.Core.map (cL Span.cs)))), (.v (.sl (x2.Odd.map Granule.cs)))]) H 0 rfl rfl rfl rfl rfl rfl rfl nofun rfl ?_
                      obtain ⟨x13, q13, h⟩ := bind_some h
                      refine Ops.call (ys := [(.agg [(.v (.int .i64 f.Period)), (.v (.int .i64 f.Count)), (.v (.sl (f.Core.map (cL Span.cs)))), (.v (.sl (f.Odd.map Granule.cs)))]), (.agg [(.v (.int .i64 x2.Period)), (.v (.int .i64 x2.Count)), (.v (.sl (x2.Core.map (cL Span.cs)))), (.v (.sl (x2.Odd.map Granule.cs)))])]) (r := (.v (.bool x13))) rfl (canon_Same_fn q13) rfl ?_
                      refine Ops.move (v := (.v (.bool x13))) rfl rfl ?_
                      refine Ops.mid 2 (K1 := fun e σ => EnvHas e [(100, (.v (.bool (x13 && epactlaw06_awake))))] ∧ Has σ (b15 + 6) (b15 + 7) []) rfl ?_ ?_
                      · refine Ops.split rfl rfl ?_ ?_ <;> intro hc12
                        · skip
                          refine Ops.wanted rfl rfl ?_
                          refine Ops.call (ys := []) (r := (.v (.bool epactlaw06_awake))) rfl (epactlaw06_awake_fn rfl) rfl ?_
                          refine Ops.pickT (v := (.v (.bool epactlaw06_awake))) rfl rfl rfl ?_
                          apply Ops.nil
                          exact ⟨⟨and_T hc12, trivial⟩, ((H.erase 1).erase 0).weak (by omega) (Nat.le_refl _)⟩
                        · skip
                          refine Ops.pass rfl rfl rfl ?_
                          refine Ops.pickF (v := (.v (.bool false))) rfl rfl rfl ?_
                          apply Ops.nil
                          exact ⟨⟨and_F hc12, trivial⟩, ((H.erase 1).erase 0).weak (by omega) (Nat.le_refl _)⟩
                      · rintro e σ ⟨he, H⟩
                        obtain ⟨e, rfl⟩ := he.ex
                        refine Ops.assign (v := (.v (.bool (x13 && epactlaw06_awake)))) rfl rfl ?_
                        apply Ops.nil
                        replace H := H.all
                        apply Runs.ret
                        replace h := Option.some.inj h; subst h
                        exact (Ends.H (xs := [(.v (.bool (x13 && epactlaw06_awake)))]) (.inr rfl) H (.tmp (v := (.v (.bool (x13 && epactlaw06_awake)))) rfl .nil) (.one (.c (.v _))))
                    · skip
                      replace h := jret h
                      replace h := Option.some.inj h; subst h
                      exact hE

end Go.Dn
