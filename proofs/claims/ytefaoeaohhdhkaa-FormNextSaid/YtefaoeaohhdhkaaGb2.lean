/- The interpreter answers as the plain functions do: part 2. -/
import Derived.Test.YtefaoeaohhdhkaaSh
import Derived.Test.YtefaoeaohhdhkaaGb1
set_option linter.unusedVariables false
set_option linter.unusedSimpArgs false
namespace Go.Dn
open Go Go.Proofs

set_option maxRecDepth 100000 in
set_option maxHeartbeats 4000000 in
theorem epactlaw05_FormTurns_fn {f : Form} {i : Int} {r : Bool} (h : epactlaw05_FormTurns f i = some r) : Fn CX 5 [(.agg (vs (Form.cs f))), (.v (.int .i32 i))] (.v (.bool r)) := by
  refine Fn.ends Try.func5 rfl rfl rfl rfl rfl rfl ?_
  have H : Hs (⟨0, fun _ => .none⟩ : Heap) [] := Has.nil (Nat.le_refl _)
  generalize (⟨0, fun _ => .none⟩ : Heap) = σ at H ⊢
  unfold epactlaw05_FormTurns at h
  apply Runs.then
  refine Runs.regionH 2 rfl H ?_; intro b1 σ H
  refine Ops.boxH (v := (.agg [(.v (.int .i64 f.Period)), (.v (.int .i64 f.Count)), (.v (.sl (f.Core.map (cL Span.cs)))), (.v (.sl (f.Odd.map Granule.cs)))])) (cs := [(.v (.int .i64 f.Period)), (.v (.int .i64 f.Count)), (.v (.sl (f.Core.map (cL Span.cs)))), (.v (.sl (f.Odd.map Granule.cs)))]) H (by omega) (by omega) rfl rfl rfl ?_; intro σ H
  refine Ops.assign (v := (.v (.bool false))) rfl rfl ?_
  apply Ops.nil
  replace H := H.all
  apply Runs.then
  refine Runs.regionH 4 rfl H ?_; intro b2 σ H
  refine Ops.move (v := (.v (.int .i32 i))) rfl rfl ?_
  refine Ops.conv (m := i) rfl rfl rfl rfl ?_
  refine Ops.rem (m := (w64 i)) (m' := 1048576) rfl rfl (by decide) rfl ?_
  refine Ops.assign (v := (.v (.int .i64 ((w64 i).tmod 1048576)))) rfl rfl ?_
  apply Ops.nil
  replace H := H.all
  apply Runs.then
  apply Runs.then
  refine Runs.regionH 21 rfl H ?_; intro b3 σ H
  refine Ops.loadHA (off := 0) (cs := [(.v (.int .i64 f.Period)), (.v (.int .i64 f.Count)), (.v (.sl (f.Core.map (cL Span.cs)))), (.v (.sl (f.Odd.map Granule.cs)))]) H 0 rfl rfl rfl rfl rfl rfl rfl nofun rfl ?_
  obtain ⟨x1, q1, h⟩ := bind_some h
  refine Ops.call (ys := [(.agg [(.v (.int .i64 f.Period)), (.v (.int .i64 f.Count)), (.v (.sl (f.Core.map (cL Span.cs)))), (.v (.sl (f.Odd.map Granule.cs)))])]) (r := (.v (.bool x1))) rfl (epactlaw05_right_fn q1) rfl ?_
  refine Ops.not (b := x1) rfl rfl ?_
  refine Ops.move (v := (.v (.bool (!x1)))) rfl rfl ?_
  refine Ops.mid 4 (K1 := fun e σ => EnvHas e [(22, (.v (.bool ((!x1) || (f.Count == 0))))), (2, (.ptr (b1 + 0) 4 0)), (5, (.v (.int .i64 ((w64 i).tmod 1048576))))] ∧ Has σ (b3 + 8) (b3 + 21) [.blk (b1 + 0) 25 [(.v (.int .i64 f.Period)), (.v (.int .i64 f.Count)), (.v (.sl (f.Core.map (cL Span.cs)))), (.v (.sl (f.Odd.map Granule.cs)))]]) rfl ?_ ?_
  · refine Ops.split rfl rfl ?_ ?_ <;> intro hc1
    · skip
      refine Ops.pass rfl rfl rfl ?_
      refine Ops.pass rfl rfl rfl ?_
      refine Ops.pass rfl rfl rfl ?_
      refine Ops.pickT (v := (.v (.bool true))) rfl rfl rfl ?_
      apply Ops.nil
      exact ⟨⟨or_T hc1, rfl, rfl, trivial⟩, H.weak (by omega) (Nat.le_refl _)⟩
    · skip
      refine Ops.wanted rfl rfl ?_
      refine Ops.fieldAddrH (off := 0) (fo := 1) H 0 rfl rfl rfl rfl rfl nofun rfl ?_
      refine Ops.wanted rfl rfl ?_
      refine Ops.loadH (off := 1) (v := (.v (.int .i64 f.Count))) H 0 rfl rfl rfl rfl rfl nofun rfl ?_
      refine Ops.wanted rfl rfl ?_
      refine Ops.int (m := f.Count) (m' := 0) (r := .bool (f.Count == 0)) rfl rfl rfl rfl rfl ?_
      refine Ops.pickF (v := (.v (.bool (f.Count == 0)))) rfl rfl rfl ?_
      apply Ops.nil
      exact ⟨⟨or_F hc1, rfl, rfl, trivial⟩, H.weak (by omega) (Nat.le_refl _)⟩
  · rintro e σ ⟨he, H⟩
    obtain ⟨e, rfl⟩ := he.ex
    refine Ops.move (v := (.v (.bool ((!x1) || (f.Count == 0))))) rfl rfl ?_
    obtain ⟨y1, hj1, h⟩ := bind_some h
    refine Ops.mid 4 (K1 := fun e σ => EnvHas e [(27, (.v (.bool y1))), (2, (.ptr (b1 + 0) 4 0)), (5, (.v (.int .i64 ((w64 i).tmod 1048576))))] ∧ Has σ (b3 + 13) (b3 + 21) [.blk (b1 + 0) 25 [(.v (.int .i64 f.Period)), (.v (.int .i64 f.Count)), (.v (.sl (f.Core.map (cL Span.cs)))), (.v (.sl (f.Odd.map Granule.cs)))]]) rfl ?_ ?_
    · refine Ops.split rfl rfl ?_ ?_ <;> intro hc2
      · replace h := cond_T hc2 hj1
        refine Ops.pass rfl rfl rfl ?_
        refine Ops.pass rfl rfl rfl ?_
        refine Ops.pass rfl rfl rfl ?_
        refine Ops.pickT (v := (.v (.bool true))) rfl rfl rfl ?_
        apply Ops.nil
        replace h := Option.some.inj h; subst h
        exact ⟨⟨rfl, rfl, rfl, trivial⟩, H.weak (by omega) (Nat.le_refl _)⟩
      · replace h := cond_F hc2 hj1
        refine Ops.wanted rfl rfl ?_
        refine Ops.loadHA (off := 0) (cs := [(.v (.int .i64 f.Period)), (.v (.int .i64 f.Count)), (.v (.sl (f.Core.map (cL Span.cs)))), (.v (.sl (f.Odd.map Granule.cs)))]) H 0 rfl rfl rfl rfl rfl rfl rfl nofun rfl ?_
        refine Ops.wanted rfl rfl ?_
        refine Ops.move (v := (.v (.int .i64 ((w64 i).tmod 1048576)))) rfl rfl ?_
        refine Ops.wanted rfl rfl ?_
        obtain ⟨x2, q2, h⟩ := bind_some h
        refine Ops.call (ys := [(.agg [(.v (.int .i64 f.Period)), (.v (.int .i64 f.Count)), (.v (.sl (f.Core.map (cL Span.cs)))), (.v (.sl (f.Odd.map Granule.cs)))]), (.v (.int .i64 ((w64 i).tmod 1048576)))]) (r := (.v (.bool x2))) rfl (epactlaw05_odd_fn q2) rfl ?_
        refine Ops.pickF (v := (.v (.bool x2))) rfl rfl rfl ?_
        apply Ops.nil
        replace h := Option.some.inj h; subst h
        exact ⟨⟨rfl, rfl, rfl, trivial⟩, H.weak (by omega) (Nat.le_refl _)⟩
    · rintro e σ ⟨he, H⟩
      obtain ⟨e, rfl⟩ := he.ex
      refine Ops.move (v := (.v (.bool y1))) rfl rfl ?_
      obtain ⟨y2, hj2, h⟩ := bind_some h
      refine Ops.mid 7 (K1 := fun e σ => EnvHas e [(35, (.v (.bool y2))), (2, (.ptr (b1 + 0) 4 0)), (5, (.v (.int .i64 ((w64 i).tmod 1048576))))] ∧ Has σ (b3 + 21) (b3 + 21) [.blk (b1 + 0) 25 [(.v (.int .i64 f.Period)), (.v (.int .i64 f.Count)), (.v (.sl (f.Core.map (cL Span.cs)))), (.v (.sl (f.Odd.map Granule.cs)))]]) rfl ?_ ?_
      · refine Ops.split rfl rfl ?_ ?_ <;> intro hc3
        · replace h := cond_T hc3 hj2
          refine Ops.pass rfl rfl rfl ?_
          refine Ops.pass rfl rfl rfl ?_
          refine Ops.pass rfl rfl rfl ?_
          refine Ops.pass rfl rfl rfl ?_
          refine Ops.pass rfl rfl rfl ?_
          refine Ops.pass rfl rfl rfl ?_
          refine Ops.pickT (v := (.v (.bool true))) rfl rfl rfl ?_
          apply Ops.nil
          replace h := Option.some.inj h; subst h
          exact ⟨⟨rfl, rfl, rfl, trivial⟩, H.weak (by omega) (Nat.le_refl _)⟩
        · replace h := cond_F hc3 hj2
          refine Ops.wanted rfl rfl ?_
          refine Ops.loadHA (off := 0) (cs := [(.v (.int .i64 f.Period)), (.v (.int .i64 f.Count)), (.v (.sl (f.Core.map (cL Span.cs)))), (.v (.sl (f.Odd.map Granule.cs)))]) H 0 rfl rfl rfl rfl rfl rfl rfl nofun rfl ?_
          refine Ops.wanted rfl rfl ?_
          refine Ops.move (v := (.v (.int .i64 ((w64 i).tmod 1048576)))) rfl rfl ?_
          refine Ops.wanted rfl rfl ?_
          refine Ops.fieldAddrH (off := 0) (fo := 1) H 0 rfl rfl rfl rfl rfl nofun rfl ?_
          refine Ops.wanted rfl rfl ?_
          refine Ops.loadH (off := 1) (v := (.v (.int .i64 f.Count))) H 0 rfl rfl rfl rfl rfl nofun rfl ?_
          refine Ops.wanted rfl rfl ?_
          refine Ops.int (m := ((w64 i).tmod 1048576)) (m' := f.Count) (r := .int .i64 (w64 (((w64 i).tmod 1048576) + f.Count))) rfl rfl rfl rfl rfl ?_
          refine Ops.wanted rfl rfl ?_
          obtain ⟨x3, q3, h⟩ := bind_some h
          refine Ops.call (ys := [(.agg [(.v (.int .i64 f.Period)), (.v (.int .i64 f.Count)), (.v (.sl (f.Core.map (cL Span.cs)))), (.v (.sl (f.Odd.map Granule.cs)))]), (.v (.int .i64 (w64 (((w64 i).tmod 1048576) + f.Count))))]) (r := (.v (.bool x3))) rfl (epactlaw05_odd_fn q3) rfl ?_
          refine Ops.pickF (v := (.v (.bool x3))) rfl rfl rfl ?_
          apply Ops.nil
          replace h := Option.some.inj h; subst h
          exact ⟨⟨rfl, rfl, rfl, trivial⟩, H.weak (by omega) (Nat.le_refl _)⟩
      · rintro e σ ⟨he, H⟩
        obtain ⟨e, rfl⟩ := he.ex
        apply Ops.nil
        replace H := H.all
        refine Runs.whether (v := y2) rfl ?_ ?_ <;> intro hc4
        · replace h := cond_T hc4 h
          apply Runs.then
          refine Runs.regionH 2 rfl H ?_; intro b4 σ H
          refine Ops.call (ys := []) (r := (.v (.bool epactlaw05_awake))) rfl (epactlaw05_awake_fn rfl) rfl ?_
          refine Ops.assign (v := (.v (.bool epactlaw05_awake))) rfl rfl ?_
          apply Ops.nil
          replace H := H.all
          apply Runs.ret
          replace h := Option.some.inj h; subst h
          exact (Ends.H (xs := [(.v (.bool epactlaw05_awake))]) (.inr rfl) H (.tmp (v := (.v (.bool epactlaw05_awake))) rfl .nil) (.one (.c (.v _))))
        · replace h := cond_F hc4 h
          apply Runs.skip
          apply Runs.then
          refine Runs.regionH 8 rfl H ?_; intro b5 σ H
          refine Ops.loadHA (off := 0) (cs := [(.v (.int .i64 f.Period)), (.v (.int .i64 f.Count)), (.v (.sl (f.Core.map (cL Span.cs)))), (.v (.sl (f.Odd.map Granule.cs)))]) H 0 rfl rfl rfl rfl rfl rfl rfl nofun rfl ?_
          refine Ops.move (v := (.v (.int .i64 ((w64 i).tmod 1048576)))) rfl rfl ?_
          obtain ⟨x4, q4, h⟩ := bind_some h
          refine Ops.call (ys := [(.agg [(.v (.int .i64 f.Period)), (.v (.int .i64 f.Count)), (.v (.sl (f.Core.map (cL Span.cs)))), (.v (.sl (f.Odd.map Granule.cs)))]), (.v (.int .i64 ((w64 i).tmod 1048576)))]) (r := (.tup [(.v (.sl (x4.1.map Span.cs))), (.v (.int .i64 x4.2))])) rfl (gran_Get_fn q4) rfl ?_
          refine Ops.move (v := (.tup [(.v (.sl (x4.1.map Span.cs))), (.v (.int .i64 x4.2))])) rfl rfl ?_
          refine Ops.extract (v := (.v (.sl (x4.1.map Span.cs)))) rfl rfl rfl ?_
          refine Ops.extract (v := (.v (.int .i64 x4.2))) rfl rfl rfl ?_
          refine Ops.assign (v := (.v (.sl (x4.1.map Span.cs)))) rfl rfl ?_
          refine Ops.assign (v := (.v (.int .i64 x4.2))) rfl rfl ?_
          apply Ops.nil
          replace H := H.all
          apply Runs.then
          refine Runs.regionH 11 rfl H ?_; intro b6 σ H
          refine Ops.loadHA (off := 0) (cs := [(.v (.int .i64 f.Period)), (.v (.int .i64 f.Count)), (.v (.sl (f.Core.map (cL Span.cs)))), (.v (.sl (f.Odd.map Granule.cs)))]) H 0 rfl rfl rfl rfl rfl rfl rfl nofun rfl ?_
          refine Ops.move (v := (.v (.int .i64 ((w64 i).tmod 1048576)))) rfl rfl ?_
          refine Ops.fieldAddrH (off := 0) (fo := 1) H 0 rfl rfl rfl rfl rfl nofun rfl ?_
          refine Ops.loadH (off := 1) (v := (.v (.int .i64 f.Count))) H 0 rfl rfl rfl rfl rfl nofun rfl ?_
          refine Ops.int (m := ((w64 i).tmod 1048576)) (m' := f.Count) (r := .int .i64 (w64 (((w64 i).tmod 1048576) + f.Count))) rfl rfl rfl rfl rfl ?_
          obtain ⟨x5, q5, h⟩ := bind_some h
          refine Ops.call (ys := [(.agg [(.v (.int .i64 f.Period)), (.v (.int .i64 f.Count)), (.v (.sl (f.Core.map (cL Span.cs)))), (.v (.sl (f.Odd.map Granule.cs)))]), (.v (.int .i64 (w64 (((w64 i).tmod 1048576) + f.Count))))]) (r := (.tup [(.v (.sl (x5.1.map Span.cs))), (.v (.int .i64 x5.2))])) rfl (gran_Get_fn q5) rfl ?_
          refine Ops.move (v := (.tup [(.v (.sl (x5.1.map Span.cs))), (.v (.int .i64 x5.2))])) rfl rfl ?_
          refine Ops.extract (v := (.v (.sl (x5.1.map Span.cs)))) rfl rfl rfl ?_
          refine Ops.extract (v := (.v (.int .i64 x5.2))) rfl rfl rfl ?_
          refine Ops.assign (v := (.v (.sl (x5.1.map Span.cs)))) rfl rfl ?_
          refine Ops.assign (v := (.v (.int .i64 x5.2))) rfl rfl ?_
          apply Ops.nil
          replace H := H.all
          apply Runs.then
          apply Runs.then
          refine Runs.regionH 6 rfl H ?_; intro b7 σ H
          refine Ops.move (v := (.v (.int .i64 x4.2))) rfl rfl ?_
          refine Ops.int (m := x4.2) (m' := 0) (r := .bool (x4.2 != 0)) rfl rfl rfl rfl rfl ?_
          refine Ops.move (v := (.v (.bool (x4.2 != 0)))) rfl rfl ?_
          refine Ops.mid 3 (K1 := fun e σ => EnvHas e [(57, (.v (.bool ((x4.2 != 0) || (x5.2 != 0))))), (2, (.ptr (b1 + 0) 4 0)), (6, (.v (.sl (x4.1.map Span.cs)))), (8, (.v (.sl (x5.1.map Span.cs))))] ∧ Has σ (b7 + 6) (b7 + 6) [.blk (b1 + 0) 25 [(.v (.int .i64 f.Period)), (.v (.int .i64 f.Count)), (.v (.sl (f.Core.map (cL Span.cs)))), (.v (.sl (f.Odd.map Granule.cs)))]]) rfl ?_ ?_
          · refine Ops.split rfl rfl ?_ ?_ <;> intro hc5
            · skip
              refine Ops.pass rfl rfl rfl ?_
              refine Ops.pass rfl rfl rfl ?_
              refine Ops.pickT (v := (.v (.bool true))) rfl rfl rfl ?_
              apply Ops.nil
              exact ⟨⟨or_T hc5, rfl, rfl, rfl, trivial⟩, H.weak (by omega) (Nat.le_refl _)⟩
            · skip
              refine Ops.wanted rfl rfl ?_
              refine Ops.move (v := (.v (.int .i64 x5.2))) rfl rfl ?_
              refine Ops.wanted rfl rfl ?_
              refine Ops.int (m := x5.2) (m' := 0) (r := .bool (x5.2 != 0)) rfl rfl rfl rfl rfl ?_
              refine Ops.pickF (v := (.v (.bool (x5.2 != 0)))) rfl rfl rfl ?_
              apply Ops.nil
              exact ⟨⟨or_F hc5, rfl, rfl, rfl, trivial⟩, H.weak (by omega) (Nat.le_refl _)⟩
          · rintro e σ ⟨he, H⟩
            obtain ⟨e, rfl⟩ := he.ex
            apply Ops.nil
            replace H := H.all
            refine Runs.whether (v := ((x4.2 != 0) || (x5.2 != 0))) rfl ?_ ?_ <;> intro hc6
            · replace h := cond_T hc6 h
              apply Runs.then
              refine Runs.regionH 2 rfl H ?_; intro b8 σ H
              refine Ops.call (ys := []) (r := (.v (.bool epactlaw05_awake))) rfl (epactlaw05_awake_fn rfl) rfl ?_
              refine Ops.assign (v := (.v (.bool epactlaw05_awake))) rfl rfl ?_
              apply Ops.nil
              replace H := H.all
              apply Runs.ret
              replace h := Option.some.inj h; subst h
              exact (Ends.H (xs := [(.v (.bool epactlaw05_awake))]) (.inr rfl) H (.tmp (v := (.v (.bool epactlaw05_awake))) rfl .nil) (.one (.c (.v _))))
            · replace h := cond_F hc6 h
              apply Runs.skip
              apply Runs.then
              refine Runs.regionH 9 rfl H ?_; intro b9 σ H
              refine Ops.move (v := (.v (.sl (x4.1.map Span.cs)))) rfl rfl ?_
              refine Ops.fieldAddrH (off := 0) (fo := 0) H 0 rfl rfl rfl rfl rfl nofun rfl ?_
              refine Ops.loadH (off := 0) (v := (.v (.int .i64 f.Period))) H 0 rfl rfl rfl rfl rfl nofun rfl ?_
              obtain ⟨x6, q6, h⟩ := bind_some h
              refine Ops.call (ys := [(.v (.sl (x4.1.map Span.cs))), (.v (.int .i64 f.Period))]) (r := (.tup [(.v (.sl (x6.1.map Span.cs))), (.v (.int .i64 x6.2))])) rfl (spans_Move_fn q6) rfl ?_
              refine Ops.move (v := (.tup [(.v (.sl (x6.1.map Span.cs))), (.v (.int .i64 x6.2))])) rfl rfl ?_
              refine Ops.extract (v := (.v (.sl (x6.1.map Span.cs)))) rfl rfl rfl ?_
              refine Ops.extract (v := (.v (.int .i64 x6.2))) rfl rfl rfl ?_
              refine Ops.assign (v := (.v (.sl (x6.1.map Span.cs)))) rfl rfl ?_
              refine Ops.assign (v := (.v (.int .i64 x6.2))) rfl rfl ?_
              apply Ops.nil
              replace H := H.all
              apply Runs.then
              refine Runs.regionH 11 rfl H ?_; intro b10 σ H
              refine Ops.move (v := (.v (.int .i64 x6.2))) rfl rfl ?_
              refine Ops.int (m := x6.2) (m' := 0) (r := .bool (x6.2 == 0)) rfl rfl rfl rfl rfl ?_
              refine Ops.move (v := (.v (.bool (x6.2 == 0)))) rfl rfl ?_
              obtain ⟨y3, hj3, h⟩ := bind_some h
              refine Ops.mid 4 (K1 := fun e σ => EnvHas e [(72, (.v (.bool y3)))] ∧ Has σ (b10 + 7) (b10 + 11) []) rfl ?_ ?_
              · refine Ops.split rfl rfl ?_ ?_ <;> intro hc7
                · replace h := cond_T hc7 hj3
                  refine Ops.wanted rfl rfl ?_
                  refine Ops.move (v := (.v (.sl (x6.1.map Span.cs)))) rfl rfl ?_
                  refine Ops.wanted rfl rfl ?_
                  refine Ops.move (v := (.v (.sl (x5.1.map Span.cs)))) rfl rfl ?_
                  refine Ops.wanted rfl rfl ?_
                  obtain ⟨x7, q7, h⟩ := bind_some h
                  refine Ops.call (ys := [(.v (.sl (x6.1.map Span.cs))), (.v (.sl (x5.1.map Span.cs)))]) (r := (.v (.bool x7))) rfl (spans_Same_fn q7) rfl ?_
                  refine Ops.pickT (v := (.v (.bool x7))) rfl rfl rfl ?_
                  apply Ops.nil
                  replace h := Option.some.inj h; subst h
                  exact ⟨⟨rfl, trivial⟩, (H.erase 0).weak (by omega) (Nat.le_refl _)⟩
                · replace h := cond_F hc7 hj3
                  refine Ops.pass rfl rfl rfl ?_
                  refine Ops.pass rfl rfl rfl ?_
                  refine Ops.pass rfl rfl rfl ?_
                  refine Ops.pickF (v := (.v (.bool false))) rfl rfl rfl ?_
                  apply Ops.nil
                  replace h := Option.some.inj h; subst h
                  exact ⟨⟨rfl, trivial⟩, (H.erase 0).weak (by omega) (Nat.le_refl _)⟩
              · rintro e σ ⟨he, H⟩
                obtain ⟨e, rfl⟩ := he.ex
                refine Ops.move (v := (.v (.bool y3))) rfl rfl ?_
                refine Ops.mid 2 (K1 := fun e σ => EnvHas e [(75, (.v (.bool (y3 && epactlaw05_awake))))] ∧ Has σ (b10 + 10) (b10 + 11) []) rfl ?_ ?_
                · refine Ops.split rfl rfl ?_ ?_ <;> intro hc8
                  · skip
                    refine Ops.wanted rfl rfl ?_
                    refine Ops.call (ys := []) (r := (.v (.bool epactlaw05_awake))) rfl (epactlaw05_awake_fn rfl) rfl ?_
                    refine Ops.pickT (v := (.v (.bool epactlaw05_awake))) rfl rfl rfl ?_
                    apply Ops.nil
                    exact ⟨⟨and_T hc8, trivial⟩, H.weak (by omega) (Nat.le_refl _)⟩
                  · skip
                    refine Ops.pass rfl rfl rfl ?_
                    refine Ops.pickF (v := (.v (.bool false))) rfl rfl rfl ?_
                    apply Ops.nil
                    exact ⟨⟨and_F hc8, trivial⟩, H.weak (by omega) (Nat.le_refl _)⟩
                · rintro e σ ⟨he, H⟩
                  obtain ⟨e, rfl⟩ := he.ex
                  refine Ops.assign (v := (.v (.bool (y3 && epactlaw05_awake)))) rfl rfl ?_
                  apply Ops.nil
                  replace H := H.all
                  apply Runs.ret
                  replace h := Option.some.inj h; subst h
                  exact (Ends.H (xs := [(.v (.bool (y3 && epactlaw05_awake)))]) (.inr rfl) H (.tmp (v := (.v (.bool (y3 && epactlaw05_awake)))) rfl .nil) (.one (.c (.v _))))

set_option maxRecDepth 100000 in
set_option maxHeartbeats 4000000 in
theorem epactlaw05_FormNext_fn {f : Form} {i : Int} {r : Bool} (h : epactlaw05_FormNext f i = some r) : Fn CX 3 [(.agg (vs (Form.cs f))), (.v (.int .i32 i))] (.v (.bool r)) := by
  refine Fn.ends Try.func3 rfl rfl rfl rfl rfl rfl ?_
  have H : Hs (⟨0, fun _ => .none⟩ : Heap) [] := Has.nil (Nat.le_refl _)
  generalize (⟨0, fun _ => .none⟩ : Heap) = σ at H ⊢
  unfold epactlaw05_FormNext at h
  apply Runs.then
  refine Runs.regionH 2 rfl H ?_; intro b1 σ H
  refine Ops.boxH (v := (.agg [(.v (.int .i64 f.Period)), (.v (.int .i64 f.Count)), (.v (.sl (f.Core.map (cL Span.cs)))), (.v (.sl (f.Odd.map Granule.cs)))])) (cs := [(.v (.int .i64 f.Period)), (.v (.int .i64 f.Count)), (.v (.sl (f.Core.map (cL Span.cs)))), (.v (.sl (f.Odd.map Granule.cs)))]) H (by omega) (by omega) rfl rfl rfl ?_; intro σ H
  refine Ops.assign (v := (.v (.bool false))) rfl rfl ?_
  apply Ops.nil
  replace H := H.all
  apply Runs.then
  apply Runs.then
  refine Runs.regionH 3 rfl H ?_; intro b2 σ H
  refine Ops.loadHA (off := 0) (cs := [(.v (.int .i64 f.Period)), (.v (.int .i64 f.Count)), (.v (.sl (f.Core.map (cL Span.cs)))), (.v (.sl (f.Odd.map Granule.cs)))]) H 0 rfl rfl rfl rfl rfl rfl rfl nofun rfl ?_
  obtain ⟨x1, q1, h⟩ := bind_some h
  refine Ops.call (ys := [(.agg [(.v (.int .i64 f.Period)), (.v (.int .i64 f.Count)), (.v (.sl (f.Core.map (cL Span.cs)))), (.v (.sl (f.Odd.map Granule.cs)))])]) (r := (.v (.bool x1))) rfl (epactlaw05_right_fn q1) rfl ?_
  refine Ops.not (b := x1) rfl rfl ?_
  apply Ops.nil
  replace H := H.all
  refine Runs.whether (v := (!x1)) rfl ?_ ?_ <;> intro hc1
  · replace h := cond_T hc1 h
    apply Runs.then
    refine Runs.regionH 2 rfl H ?_; intro b3 σ H
    refine Ops.call (ys := []) (r := (.v (.bool epactlaw05_awake))) rfl (epactlaw05_awake_fn rfl) rfl ?_
    refine Ops.assign (v := (.v (.bool epactlaw05_awake))) rfl rfl ?_
    apply Ops.nil
    replace H := H.all
    apply Runs.ret
    replace h := Option.some.inj h; subst h
    exact (Ends.H (xs := [(.v (.bool epactlaw05_awake))]) (.inr rfl) H (.tmp (v := (.v (.bool epactlaw05_awake))) rfl .nil) (.one (.c (.v _))))
  · replace h := cond_F hc1 h
    apply Runs.skip
    apply Runs.then
    refine Runs.regionH 4 rfl H ?_; intro b4 σ H
    refine Ops.move (v := (.v (.int .i32 i))) rfl rfl ?_
    refine Ops.conv (m := i) rfl rfl rfl rfl ?_
    refine Ops.shr (m := (w64 i)) (m' := 1) rfl rfl (by decide) rfl ?_
    refine Ops.assign (v := (.v (.int .i64 ((w64 i).fdiv (2 ^ 1))))) rfl rfl ?_
    apply Ops.nil
    replace H := H.all
    apply Runs.then
    refine Runs.regionH 8 rfl H ?_; intro b5 σ H
    refine Ops.loadHA (off := 0) (cs := [(.v (.int .i64 f.Period)), (.v (.int .i64 f.Count)), (.v (.sl (f.Core.map (cL Span.cs)))), (.v (.sl (f.Odd.map Granule.cs)))]) H 0 rfl rfl rfl rfl rfl rfl rfl nofun rfl ?_
    refine Ops.move (v := (.v (.int .i64 ((w64 i).fdiv (2 ^ 1))))) rfl rfl ?_
    obtain ⟨x2, q2, h⟩ := bind_some h
    refine Ops.call (ys := [(.agg [(.v (.int .i64 f.Period)), (.v (.int .i64 f.Count)), (.v (.sl (f.Core.map (cL Span.cs)))), (.v (.sl (f.Odd.map Granule.cs)))]), (.v (.int .i64 ((w64 i).fdiv (2 ^ 1))))]) (r := (.tup [(.v (.int .i64 x2.1)), (.v (.bool x2.2))])) rfl (gran_Behind_fn q2) rfl ?_
    refine Ops.move (v := (.tup [(.v (.int .i64 x2.1)), (.v (.bool x2.2))])) rfl rfl ?_
    refine Ops.extract (v := (.v (.int .i64 x2.1))) rfl rfl rfl ?_
    refine Ops.extract (v := (.v (.bool x2.2))) rfl rfl rfl ?_
    refine Ops.assign (v := (.v (.int .i64 x2.1))) rfl rfl ?_
    refine Ops.assign (v := (.v (.bool x2.2))) rfl rfl ?_
    apply Ops.nil
    replace H := H.all
    apply Runs.then
    refine Runs.regionH 8 rfl H ?_; intro b6 σ H
    refine Ops.loadHA (off := 0) (cs := [(.v (.int .i64 f.Period)), (.v (.int .i64 f.Count)), (.v (.sl (f.Core.map (cL Span.cs)))), (.v (.sl (f.Odd.map Granule.cs)))]) H 0 rfl rfl rfl rfl rfl rfl rfl nofun rfl ?_
    refine Ops.move (v := (.v (.int .i64 ((w64 i).fdiv (2 ^ 1))))) rfl rfl ?_
    obtain ⟨x3, q3, h⟩ := bind_some h
    refine Ops.call (ys := [(.agg [(.v (.int .i64 f.Period)), (.v (.int .i64 f.Count)), (.v (.sl (f.Core.map (cL Span.cs)))), (.v (.sl (f.Odd.map Granule.cs)))]), (.v (.int .i64 ((w64 i).fdiv (2 ^ 1))))]) (r := (.tup [(.v (.int .i64 x3.1)), (.v (.bool x3.2))])) rfl (gran_Before_fn q3) rfl ?_
    refine Ops.move (v := (.tup [(.v (.int .i64 x3.1)), (.v (.bool x3.2))])) rfl rfl ?_
    refine Ops.extract (v := (.v (.int .i64 x3.1))) rfl rfl rfl ?_
    refine Ops.extract (v := (.v (.bool x3.2))) rfl rfl rfl ?_
    refine Ops.assign (v := (.v (.int .i64 x3.1))) rfl rfl ?_
    refine Ops.assign (v := (.v (.bool x3.2))) rfl rfl ?_
    apply Ops.nil
    replace H := H.all
    apply Runs.then
    apply Runs.then
    refine Runs.regionH 14 rfl H ?_; intro b7 σ H
    refine Ops.move (v := (.v (.bool x2.2))) rfl rfl ?_
    refine Ops.move (v := (.v (.bool x2.2))) rfl rfl ?_
    refine Ops.mid 4 (K1 := fun e σ => EnvHas e [(42, (.v (.bool (x2.2 && (decide (x2.1 ≤ ((w64 i).fdiv (2 ^ 1)))))))), (2, (.ptr (b1 + 0) 4 0)), (5, (.v (.int .i64 ((w64 i).fdiv (2 ^ 1))))), (6, (.v (.int .i64 x2.1))), (7, (.v (.bool x2.2))), (8, (.v (.int .i64 x3.1))), (9, (.v (.bool x3.2)))] ∧ Has σ (b7 + 6) (b7 + 14) [.blk (b1 + 0) 25 [(.v (.int .i64 f.Period)), (.v (.int .i64 f.Count)), (.v (.sl (f.Core.map (cL Span.cs)))), (.v (.sl (f.Odd.map Granule.cs)))]]) rfl ?_ ?_
    · refine Ops.split rfl rfl ?_ ?_ <;> intro hc2
      · skip
        refine Ops.wanted rfl rfl ?_
        refine Ops.move (v := (.v (.int .i64 x2.1))) rfl rfl ?_
        refine Ops.wanted rfl rfl ?_
        refine Ops.move (v := (.v (.int .i64 ((w64 i).fdiv (2 ^ 1))))) rfl rfl ?_
        refine Ops.wanted rfl rfl ?_
        refine Ops.int (m := x2.1) (m' := ((w64 i).fdiv (2 ^ 1))) (r := .bool (decide (x2.1 ≤ ((w64 i).fdiv (2 ^ 1))))) rfl rfl rfl rfl rfl ?_
        refine Ops.pickT (v := (.v (.bool (decide (x2.1 ≤ ((w64 i).fdiv (2 ^ 1))))))) rfl rfl rfl ?_
        apply Ops.nil
        exact ⟨⟨and_T hc2, rfl, rfl, rfl, rfl, rfl, rfl, trivial⟩, H.weak (by omega) (Nat.le_refl _)⟩
      · skip
        refine Ops.pass rfl rfl rfl ?_
        refine Ops.pass rfl rfl rfl ?_
        refine Ops.pass rfl rfl rfl ?_
        refine Ops.pickF (v := (.v (.bool false))) rfl rfl rfl ?_
        apply Ops.nil
        exact ⟨⟨and_F hc2, rfl, rfl, rfl, rfl, rfl, rfl, trivial⟩, H.weak (by omega) (Nat.le_refl _)⟩
    · rintro e σ ⟨he, H⟩
      obtain ⟨e, rfl⟩ := he.ex
      refine Ops.move (v := (.v (.bool (x2.2 && (decide (x2.1 ≤ ((w64 i).fdiv (2 ^ 1)))))))) rfl rfl ?_
      refine Ops.mid 7 (K1 := fun e σ => EnvHas e [(50, (.v (.bool ((x2.2 && (decide (x2.1 ≤ ((w64 i).fdiv (2 ^ 1))))) || (x3.2 && (decide (x3.1 ≥ ((w64 i).fdiv (2 ^ 1))))))))), (2, (.ptr (b1 + 0) 4 0)), (5, (.v (.int .i64 ((w64 i).fdiv (2 ^ 1))))), (6, (.v (.int .i64 x2.1))), (7, (.v (.bool x2.2))), (8, (.v (.int .i64 x3.1))), (9, (.v (.bool x3.2)))] ∧ Has σ (b7 + 14) (b7 + 14) [.blk (b1 + 0) 25 [(.v (.int .i64 f.Period)), (.v (.int .i64 f.Count)), (.v (.sl (f.Core.map (cL Span.cs)))), (.v (.sl (f.Odd.map Granule.cs)))]]) rfl ?_ ?_
      · refine Ops.split rfl rfl ?_ ?_ <;> intro hc3
        · skip
          refine Ops.pass rfl rfl rfl ?_
          refine Ops.pass rfl rfl rfl ?_
          refine Ops.passU rfl rfl rfl ?_
          refine Ops.passU rfl rfl rfl ?_
          refine Ops.passU rfl rfl rfl ?_
          refine Ops.pass rfl rfl rfl ?_
          refine Ops.pickT (v := (.v (.bool true))) rfl rfl rfl ?_
          apply Ops.nil
          exact ⟨⟨or_T hc3, rfl, rfl, rfl, rfl, rfl, rfl, trivial⟩, H.weak (by omega) (Nat.le_refl _)⟩
        · skip
          refine Ops.wanted rfl rfl ?_
          refine Ops.move (v := (.v (.bool x3.2))) rfl rfl ?_
          refine Ops.wanted rfl rfl ?_
          refine Ops.move (v := (.v (.bool x3.2))) rfl rfl ?_
          refine Ops.mid 4 (K1 := fun e σ => EnvHas e [(49, (.v (.bool (x3.2 && (decide (x3.1 ≥ ((w64 i).fdiv (2 ^ 1)))))))), (2, (.ptr (b1 + 0) 4 0)), (5, (.v (.int .i64 ((w64 i).fdiv (2 ^ 1))))), (6, (.v (.int .i64 x2.1))), (7, (.v (.bool x2.2))), (8, (.v (.int .i64 x3.1))), (9, (.v (.bool x3.2))), (43, (.v (.bool false)))] ∧ Has σ (b7 + 13) (b7 + 14) [.blk (b1 + 0) 25 [(.v (.int .i64 f.Period)), (.v (.int .i64 f.Count)), (.v (.sl (f.Core.map (cL Span.cs)))), (.v (.sl (f.Odd.map Granule.cs)))]]) rfl ?_ ?_
          · refine Ops.split rfl rfl ?_ ?_ <;> intro hc4
            · skip
              refine Ops.wanted rfl rfl ?_
              refine Ops.move (v := (.v (.int .i64 x3.1))) rfl rfl ?_
              refine Ops.wanted rfl rfl ?_
              refine Ops.move (v := (.v (.int .i64 ((w64 i).fdiv (2 ^ 1))))) rfl rfl ?_
              refine Ops.wanted rfl rfl ?_
              refine Ops.int (m := x3.1) (m' := ((w64 i).fdiv (2 ^ 1))) (r := .bool (decide (x3.1 ≥ ((w64 i).fdiv (2 ^ 1))))) rfl rfl rfl rfl rfl ?_
              refine Ops.wanted rfl rfl ?_
              refine Ops.pickT (v := (.v (.bool (decide (x3.1 ≥ ((w64 i).fdiv (2 ^ 1))))))) rfl rfl rfl ?_
              apply Ops.nil
              exact ⟨⟨and_T hc4, rfl, rfl, rfl, rfl, rfl, rfl, rfl, trivial⟩, H.weak (by omega) (Nat.le_refl _)⟩
            · skip
              refine Ops.pass rfl rfl rfl ?_
              refine Ops.pass rfl rfl rfl ?_
              refine Ops.pass rfl rfl rfl ?_
              refine Ops.wanted rfl rfl ?_
              refine Ops.pickF (v := (.v (.bool false))) rfl rfl rfl ?_
              apply Ops.nil
              exact ⟨⟨and_F hc4, rfl, rfl, rfl, rfl, rfl, rfl, rfl, trivial⟩, H.weak (by omega) (Nat.le_refl _)⟩
          · rintro e σ ⟨he, H⟩
            obtain ⟨e, rfl⟩ := he.ex
            refine Ops.pickF (v := (.v (.bool (x3.2 && (decide (x3.1 ≥ ((w64 i).fdiv (2 ^ 1)))))))) rfl rfl rfl ?_
            apply Ops.nil
            exact ⟨⟨or_F hc3, rfl, rfl, rfl, rfl, rfl, rfl, trivial⟩, H.weak (by omega) (Nat.le_refl _)⟩
      · rintro e σ ⟨he, H⟩
        obtain ⟨e, rfl⟩ := he.ex
        apply Ops.nil
        replace H := H.all
        refine Runs.whether (v := ((x2.2 && (decide (x2.1 ≤ ((w64 i).fdiv (2 ^ 1))))) || (x3.2 && (decide (x3.1 ≥ ((w64 i).fdiv (2 ^ 1))))))) rfl ?_ ?_ <;> intro hc5
        · replace h := cond_T hc5 h
          apply Runs.then
          refine Runs.regionH 1 rfl H ?_; intro b8 σ H
          refine Ops.assign (v := (.v (.bool false))) rfl rfl ?_
          apply Ops.nil
          replace H := H.all
          apply Runs.ret
          replace h := Option.some.inj h; subst h
          exact (Ends.H (xs := [(.v (.bool false))]) (.inr rfl) H (.tmp (v := (.v (.bool false))) rfl .nil) (.one (.c (.v _))))
        · replace h := cond_F hc5 h
          apply Runs.skip
          apply Runs.then
          apply Runs.then
          refine Runs.regionH 3 rfl H ?_; intro b9 σ H
          refine Ops.move (v := (.v (.int .i64 ((w64 i).fdiv (2 ^ 1))))) rfl rfl ?_
          refine Ops.int (m := ((w64 i).fdiv (2 ^ 1))) (m' := 1) (r := .int .i64 (w64 (((w64 i).fdiv (2 ^ 1)) + 1))) rfl rfl rfl rfl rfl ?_
          refine Ops.assign (v := (.v (.int .i64 (w64 (((w64 i).fdiv (2 ^ 1)) + 1))))) rfl rfl ?_
          apply Ops.nil
          replace H := H.all
          apply Runs.inBlock
          obtain ⟨y1, hj1, h⟩ := bind_some h
          obtain ⟨n1, hj1⟩ := loopO_iff.1 hj1
          refine Runs.mono (Runs.loopO hj1 (fun s1 e σ => EnvHas e [(2, (.ptr (b1 + 0) 4 0)), (5, (.v (.int .i64 ((w64 i).fdiv (2 ^ 1))))), (6, (.v (.int .i64 x2.1))), (7, (.v (.bool x2.2))), (8, (.v (.int .i64 x3.1))), (9, (.v (.bool x3.2))), (10, (.v (.int .i64 s1)))] ∧ Hs σ [.blk (b1 + 0) 25 [(.v (.int .i64 f.Period)), (.v (.int .i64 f.Count)), (.v (.sl (f.Core.map (cL Span.cs)))), (.v (.sl (f.Odd.map Granule.cs)))]]) (fun y1 x e σ => (∃ a1, y1 = (.go a1) ∧ x = .exit 0 ∧ EnvHas e [(2, (.ptr (b1 + 0) 4 0)), (5, (.v (.int .i64 a1))), (6, (.v (.int .i64 x2.1))), (7, (.v (.bool x2.2))), (8, (.v (.int .i64 x3.1))), (9, (.v (.bool x3.2)))] ∧ Hs σ [.blk (b1 + 0) 25 [(.v (.int .i64 f.Period)), (.v (.int .i64 f.Count)), (.v (.sl (f.Core.map (cL Span.cs)))), (.v (.sl (f.Odd.map Granule.cs)))]]) ∨ (∃ r', y1 = (.ret r') ∧ x = .ret ∧ Ends CX Try.f3.results.toList (.v (.bool r')) x e σ)) ⟨⟨rfl, rfl, rfl, rfl, rfl, rfl, rfl, trivial⟩, H⟩ ?_) ?_
          · intro s1 e σ hI z h
            obtain ⟨he, H⟩ := hI
            obtain ⟨e, rfl⟩ := he.ex
            unfold epactlaw05_FormNext.s0 at h
            apply Runs.then
            apply Runs.then
            refine Runs.regionH 12 rfl H ?_; intro b10 σ H
            refine Ops.move (v := (.v (.bool x2.2))) rfl rfl ?_
            refine Ops.move (v := (.v (.bool x2.2))) rfl rfl ?_
            refine Ops.mid 4 (K1 := fun e σ => EnvHas e [(58, (.v (.bool (x2.2 && (decide (s1 < x2.1)))))), (2, (.ptr (b1 + 0) 4 0)), (5, (.v (.int .i64 ((w64 i).fdiv (2 ^ 1))))), (6, (.v (.int .i64 x2.1))), (7, (.v (.bool x2.2))), (8, (.v (.int .i64 x3.1))), (9, (.v (.bool x3.2))), (10, (.v (.int .i64 s1)))] ∧ Has σ (b10 + 6) (b10 + 12) [.blk (b1 + 0) 25 [(.v (.int .i64 f.Period)), (.v (.int .i64 f.Count)), (.v (.sl (f.Core.map (cL Span.cs)))), (.v (.sl (f.Odd.map Granule.cs)))]]) rfl ?_ ?_
            · refine Ops.split rfl rfl ?_ ?_ <;> intro hc6
              · skip
                refine Ops.wanted rfl rfl ?_
                refine Ops.move (v := (.v (.int .i64 s1))) rfl rfl ?_
                refine Ops.wanted rfl rfl ?_
                refine Ops.move (v := (.v (.int .i64 x2.1))) rfl rfl ?_
                refine Ops.wanted rfl rfl ?_
                refine Ops.int (m := s1) (m' := x2.1) (r := .bool (decide (s1 < x2.1))) rfl rfl rfl rfl rfl ?_
                refine Ops.pickT (v := (.v (.bool (decide (s1 < x2.1))))) rfl rfl rfl ?_
                apply Ops.nil
                exact ⟨⟨and_T hc6, rfl, rfl, rfl, rfl, rfl, rfl, rfl, trivial⟩, H.weak (by omega) (Nat.le_refl _)⟩
              · skip
                refine Ops.pass rfl rfl rfl ?_
                refine Ops.pass rfl rfl rfl ?_
                refine Ops.pass rfl rfl rfl ?_
                refine Ops.pickF (v := (.v (.bool false))) rfl rfl rfl ?_
                apply Ops.nil
                exact ⟨⟨and_F hc6, rfl, rfl, rfl, rfl, rfl, rfl, rfl, trivial⟩, H.weak (by omega) (Nat.le_refl _)⟩
            · rintro e σ ⟨he, H⟩
              obtain ⟨e, rfl⟩ := he.ex
              refine Ops.move (v := (.v (.bool (x2.2 && (decide (s1 < x2.1)))))) rfl rfl ?_
              refine Ops.mid 5 (K1 := fun e σ => EnvHas e [(64, (.v (.bool ((x2.2 && (decide (s1 < x2.1))) && (decide (s1 < (w64 (((w64 i).fdiv (2 ^ 1)) + 40)))))))), (2, (.ptr (b1 + 0) 4 0)), (5, (.v (.int .i64 ((w64 i).fdiv (2 ^ 1))))), (6, (.v (.int .i64 x2.1))), (7, (.v (.bool x2.2))), (8, (.v (.int .i64 x3.1))), (9, (.v (.bool x3.2))), (10, (.v (.int .i64 s1)))] ∧ Has σ (b10 + 12) (b10 + 12) [.blk (b1 + 0) 25 [(.v (.int .i64 f.Period)), (.v (.int .i64 f.Count)), (.v (.sl (f.Core.map (cL Span.cs)))), (.v (.sl (f.Odd.map Granule.cs)))]]) rfl ?_ ?_
              · refine Ops.split rfl rfl ?_ ?_ <;> intro hc7
                · skip
                  refine Ops.wanted rfl rfl ?_
                  refine Ops.move (v := (.v (.int .i64 s1))) rfl rfl ?_
                  refine Ops.wanted rfl rfl ?_
                  refine Ops.move (v := (.v (.int .i64 ((w64 i).fdiv (2 ^ 1))))) rfl rfl ?_
                  refine Ops.wanted rfl rfl ?_
                  refine Ops.int (m := ((w64 i).fdiv (2 ^ 1))) (m' := 40) (r := .int .i64 (w64 (((w64 i).fdiv (2 ^ 1)) + 40))) rfl rfl rfl rfl rfl ?_
                  refine Ops.wanted rfl rfl ?_
                  refine Ops.int (m := s1) (m' := (w64 (((w64 i).fdiv (2 ^ 1)) + 40))) (r := .bool (decide (s1 < (w64 (((w64 i).fdiv (2 ^ 1)) + 40))))) rfl rfl rfl rfl rfl ?_
                  refine Ops.pickT (v := (.v (.bool (decide (s1 < (w64 (((w64 i).fdiv (2 ^ 1)) + 40))))))) rfl rfl rfl ?_
                  apply Ops.nil
                  exact ⟨⟨and_T hc7, rfl, rfl, rfl, rfl, rfl, rfl, rfl, trivial⟩, H.weak (by omega) (Nat.le_refl _)⟩
                · skip
                  refine Ops.pass rfl rfl rfl ?_
                  refine Ops.pass rfl rfl rfl ?_
                  refine Ops.pass rfl rfl rfl ?_
                  refine Ops.pass rfl rfl rfl ?_
                  refine Ops.pickF (v := (.v (.bool false))) rfl rfl rfl ?_
                  apply Ops.nil
                  exact ⟨⟨and_F hc7, rfl, rfl, rfl, rfl, rfl, rfl, rfl, trivial⟩, H.weak (by omega) (Nat.le_refl _)⟩
              · rintro e σ ⟨he, H⟩
                obtain ⟨e, rfl⟩ := he.ex
                apply Ops.nil
                replace H := H.all
                refine Runs.whether (v := ((x2.2 && (decide (s1 < x2.1))) && (decide (s1 < (w64 (((w64 i).fdiv (2 ^ 1)) + 40)))))) rfl ?_ ?_ <;> intro hc8
                · replace h := cond_T hc8 h
                  apply Runs.skip
                  apply Runs.then
                  apply Runs.inBlock
                  apply Runs.then
                  refine Runs.regionH 8 rfl H ?_; intro b11 σ H
                  refine Ops.loadHA (off := 0) (cs := [(.v (.int .i64 f.Period)), (.v (.int .i64 f.Count)), (.v (.sl (f.Core.map (cL Span.cs)))), (.v (.sl (f.Odd.map Granule.cs)))]) H 0 rfl rfl rfl rfl rfl rfl rfl nofun rfl ?_
                  refine Ops.move (v := (.v (.int .i64 s1))) rfl rfl ?_
                  obtain ⟨x4, q4, h⟩ := bind_some h
                  refine Ops.call (ys := [(.agg [(.v (.int .i64 f.Period)), (.v (.int .i64 f.Count)), (.v (.sl (f.Core.map (cL Span.cs)))), (.v (.sl (f.Odd.map Granule.cs)))]), (.v (.int .i64 s1))]) (r := (.tup [(.v (.sl (x4.1.map Span.cs))), (.v (.int .i64 x4.2))])) rfl (gran_Get_fn q4) rfl ?_
                  refine Ops.move (v := (.tup [(.v (.sl (x4.1.map Span.cs))), (.v (.int .i64 x4.2))])) rfl rfl ?_
                  refine Ops.extract (v := (.v (.sl (x4.1.map Span.cs)))) rfl rfl rfl ?_
                  refine Ops.extract (v := (.v (.int .i64 x4.2))) rfl rfl rfl ?_
                  refine Ops.assign (v := (.v (.sl (x4.1.map Span.cs)))) rfl rfl ?_
                  refine Ops.assign (v := (.v (.int .i64 x4.2))) rfl rfl ?_
                  apply Ops.nil
                  replace H := H.all
                  apply Runs.then
                  refine Runs.regionH 7 rfl H ?_; intro b12 σ H
                  refine Ops.move (v := (.v (.int .i64 x4.2))) rfl rfl ?_
                  refine Ops.int (m := x4.2) (m' := 0) (r := .bool (x4.2 == 0)) rfl rfl rfl rfl rfl ?_
                  refine Ops.move (v := (.v (.bool (x4.2 == 0)))) rfl rfl ?_
                  refine Ops.mid 4 (K1 := fun e σ => EnvHas e [(79, (.v (.bool ((x4.2 == 0) && (decide ((x4.1.length : Int) > 0)))))), (2, (.ptr (b1 + 0) 4 0)), (5, (.v (.int .i64 ((w64 i).fdiv (2 ^ 1))))), (6, (.v (.int .i64 x2.1))), (7, (.v (.bool x2.2))), (8, (.v (.int .i64 x3.1))), (9, (.v (.bool x3.2))), (10, (.v (.int .i64 s1)))] ∧ Has σ (b12 + 7) (b12 + 7) [.blk (b1 + 0) 25 [(.v (.int .i64 f.Period)), (.v (.int .i64 f.Count)), (.v (.sl (f.Core.map (cL Span.cs)))), (.v (.sl (f.Odd.map Granule.cs)))]]) rfl ?_ ?_
                  · refine Ops.split rfl rfl ?_ ?_ <;> intro hc9
                    · skip
                      refine Ops.wanted rfl rfl ?_
                      refine Ops.move (v := (.v (.sl (x4.1.map Span.cs)))) rfl rfl ?_
                      refine Ops.wanted rfl rfl ?_
                      refine Ops.lenPt (c := Span.cs) (xs := x4.1) rfl rfl rfl ?_
                      refine Ops.wanted rfl rfl ?_
                      refine Ops.int (m := (x4.1.length : Int)) (m' := 0) (r := .bool (decide ((x4.1.length : Int) > 0))) rfl rfl rfl rfl rfl ?_
                      refine Ops.pickT (v := (.v (.bool (decide ((x4.1.length : Int) > 0))))) rfl rfl rfl ?_
                      apply Ops.nil
                      exact ⟨⟨and_T hc9, rfl, rfl, rfl, rfl, rfl, rfl, rfl, trivial⟩, H.weak (by omega) (Nat.le_refl _)⟩
                    · skip
                      refine Ops.pass rfl rfl rfl ?_
                      refine Ops.pass rfl rfl rfl ?_
                      refine Ops.pass rfl rfl rfl ?_
                      refine Ops.pickF (v := (.v (.bool false))) rfl rfl rfl ?_
                      apply Ops.nil
                      exact ⟨⟨and_F hc9, rfl, rfl, rfl, rfl, rfl, rfl, rfl, trivial⟩, H.weak (by omega) (Nat.le_refl _)⟩
                  · rintro e σ ⟨he, H⟩
                    obtain ⟨e, rfl⟩ := he.ex
                    apply Ops.nil
                    replace H := H.all
                    refine Runs.whether (v := ((x4.2 == 0) && (decide ((x4.1.length : Int) > 0)))) rfl ?_ ?_ <;> intro hc10
                    · replace h := cond_T hc10 h
                      apply Runs.then
                      refine Runs.regionH 1 rfl H ?_; intro b13 σ H
                      refine Ops.assign (v := (.v (.bool false))) rfl rfl ?_
                      apply Ops.nil
                      replace H := H.all
                      apply Runs.ret
                      replace h := Option.some.inj h; subst h
                      exact ⟨nofun, (.inr ⟨_, rfl, rfl, (Ends.H (xs := [(.v (.bool false))]) (.inr rfl) H (.tmp (v := (.v (.bool false))) rfl .nil) (.one (.c (.v _))))⟩)⟩
                    · replace h := cond_F hc10 h
                      apply Runs.skip
                      refine Runs.regionH 3 rfl H ?_; intro b14 σ H
                      refine Ops.move (v := (.v (.int .i64 s1))) rfl rfl ?_
                      refine Ops.int (m := s1) (m' := 1) (r := .int .i64 (w64 (s1 + 1))) rfl rfl rfl rfl rfl ?_
                      refine Ops.assign (v := (.v (.int .i64 (w64 (s1 + 1))))) rfl rfl ?_
                      apply Ops.nil
                      replace H := H.all
                      replace h := Option.some.inj h; subst h
                      exact ⟨rfl, ⟨rfl, rfl, rfl, rfl, rfl, rfl, rfl, trivial⟩, H⟩
                · replace h := cond_F hc8 h
                  apply Runs.exit
                  replace h := Option.some.inj h; subst h
                  exact ⟨nofun, (.inl ⟨_, rfl, rfl, ⟨rfl, rfl, rfl, rfl, rfl, rfl, trivial⟩, H⟩)⟩
          · rintro x e σ (⟨a2, rfl, rfl, he, H⟩ | ⟨r', rfl, rfl, hE⟩)
            · skip
              replace h := jgo h
              obtain ⟨e, rfl⟩ := he.ex
              apply Runs.then
              apply Runs.then
              refine Runs.regionH 3 rfl H ?_; intro b15 σ H
              refine Ops.move (v := (.v (.int .i64 a2))) rfl rfl ?_
              refine Ops.int (m := a2) (m' := 1) (r := .int .i64 (w64 (a2 - 1))) rfl rfl rfl rfl rfl ?_
              refine Ops.assign (v := (.v (.int .i64 (w64 (a2 - 1))))) rfl rfl ?_
              apply Ops.nil
              replace H := H.all
              apply Runs.inBlock
              obtain ⟨y2, hj2, h⟩ := bind_some h
              obtain ⟨n2, hj2⟩ := loopO_iff.1 hj2
              refine Runs.mono (Runs.loopO hj2 (fun s2 e σ => EnvHas e [(2, (.ptr (b1 + 0) 4 0)), (5, (.v (.int .i64 a2))), (6, (.v (.int .i64 x2.1))), (7, (.v (.bool x2.2))), (8, (.v (.int .i64 x3.1))), (9, (.v (.bool x3.2))), (13, (.v (.int .i64 s2)))] ∧ Hs σ [.blk (b1 + 0) 25 [(.v (.int .i64 f.Period)), (.v (.int .i64 f.Count)), (.v (.sl (f.Core.map (cL Span.cs)))), (.v (.sl (f.Odd.map Granule.cs)))]]) (fun y2 x e σ => (∃ a3, y2 = (.go a3) ∧ x = .exit 2 ∧ EnvHas e [(2, (.ptr (b1 + 0) 4 0)), (5, (.v (.int .i64 a2))), (6, (.v (.int .i64 x2.1))), (7, (.v (.bool x2.2))), (8, (.v (.int .i64 x3.1))), (9, (.v (.bool x3.2)))] ∧ Hs σ [.blk (b1 + 0) 25 [(.v (.int .i64 f.Period)), (.v (.int .i64 f.Count)), (.v (.sl (f.Core.map (cL Span.cs)))), (.v (.sl (f.Odd.map Granule.cs)))]]) ∨ (∃ r', y2 = (.ret r') ∧ x = .ret ∧ Ends CX Try.f3.results.toList (.v (.bool r')) x e σ)) ⟨⟨rfl, rfl, rfl, rfl, rfl, rfl, rfl, trivial⟩, H⟩ ?_) ?_
              · intro s2 e σ hI z h
                obtain ⟨he, H⟩ := hI
                obtain ⟨e, rfl⟩ := he.ex
                unfold epactlaw05_FormNext.s1 at h
                apply Runs.then
                apply Runs.then
                refine Runs.regionH 12 rfl H ?_; intro b16 σ H
                refine Ops.move (v := (.v (.bool x3.2))) rfl rfl ?_
                refine Ops.move (v := (.v (.bool x3.2))) rfl rfl ?_
                refine Ops.mid 4 (K1 := fun e σ => EnvHas e [(87, (.v (.bool (x3.2 && (decide (s2 > x3.1)))))), (2, (.ptr (b1 + 0) 4 0)), (5, (.v (.int .i64 a2))), (6, (.v (.int .i64 x2.1))), (7, (.v (.bool x2.2))), (8, (.v (.int .i64 x3.1))), (9, (.v (.bool x3.2))), (13, (.v (.int .i64 s2)))] ∧ Has σ (b16 + 6) (b16 + 12) [.blk (b1 + 0) 25 [(.v (.int .i64 f.Period)), (.v (.int .i64 f.Count)), (.v (.sl (f.Core.map (cL Span.cs)))), (.v (.sl (f.Odd.map Granule.cs)))]]) rfl ?_ ?_
                · refine Ops.split rfl rfl ?_ ?_ <;> intro hc11
                  · skip
                    refine Ops.wanted rfl rfl ?_
                    refine Ops.move (v := (.v (.int .i64 s2))) rfl rfl ?_
                    refine Ops.wanted rfl rfl ?_
                    refine Ops.move (v := (.v (.int .i64 x3.1))) rfl rfl ?_
                    refine Ops.wanted rfl rfl ?_
                    refine Ops.int (m := s2) (m' := x3.1) (r := .bool (decide (s2 > x3.1))) rfl rfl rfl rfl rfl ?_
                    refine Ops.pickT (v := (.v (.bool (decide (s2 > x3.1))))) rfl rfl rfl ?_
                    apply Ops.nil
                    exact ⟨⟨and_T hc11, rfl, rfl, rfl, rfl, rfl, rfl, rfl, trivial⟩, H.weak (by omega) (Nat.le_refl _)⟩
                  · skip
                    refine Ops.pass rfl rfl rfl ?_
                    refine Ops.pass rfl rfl rfl ?_
                    refine Ops.pass rfl rfl rfl ?_
                    refine Ops.pickF (v := (.v (.bool false))) rfl rfl rfl ?_
                    apply Ops.nil
                    exact ⟨⟨and_F hc11, rfl, rfl, rfl, rfl, rfl, rfl, rfl, trivial⟩, H.weak (by omega) (Nat.le_refl _)⟩
                · rintro e σ ⟨he, H⟩
                  obtain ⟨e, rfl⟩ := he.ex
                  refine Ops.move (v := (.v (.bool (x3.2 && (decide (s2 > x3.1)))))) rfl rfl ?_
                  refine Ops.mid 5 (K1 := fun e σ => EnvHas e [(93, (.v (.bool ((x3.2 && (decide (s2 > x3.1))) && (decide (s2 > (w64 (a2 - 40)))))))), (2, (.ptr (b1 + 0) 4 0)), (5, (.v (.int .i64 a2))), (6, (.v (.int .i64 x2.1))), (7, (.v (.bool x2.2))), (8, (.v (.int .i64 x3.1))), (9, (.v (.bool x3.2))), (13, (.v (.int .i64 s2)))] ∧ Has σ (b16 + 12) (b16 + 12) [.blk (b1 + 0) 25 [(.v (.int .i64 f.Period)), (.v (.int .i64 f.Count)), (.v (.sl (f.Core.map (cL Span.cs)))), (.v (.sl (f.Odd.map Granule.cs)))]]) rfl ?_ ?_
                  · refine Ops.split rfl rfl ?_ ?_ <;> intro hc12
                    · skip
                      refine Ops.wanted rfl rfl ?_
                      refine Ops.move (v := (.v (.int .i64 s2))) rfl rfl ?_
                      refine Ops.wanted rfl rfl ?_
                      refine Ops.move (v := (.v (.int .i64 a2))) rfl rfl ?_
                      refine Ops.wanted rfl rfl ?_
                      refine Ops.int (m := a2) (m' := 40) (r := .int .i64 (w64 (a2 - 40))) rfl rfl rfl rfl rfl ?_
                      refine Ops.wanted rfl rfl ?_
                      refine Ops.int (m := s2) (m' := (w64 (a2 - 40))) (r := .bool (decide (s2 > (w64 (a2 - 40))))) rfl rfl rfl rfl rfl ?_
                      refine Ops.pickT (v := (.v (.bool (decide (s2 > (w64 (a2 - 40))))))) rfl rfl rfl ?_
                      apply Ops.nil
                      exact ⟨⟨and_T hc12, rfl, rfl, rfl, rfl, rfl, rfl, rfl, trivial⟩, H.weak (by omega) (Nat.le_refl _)⟩
                    · skip
                      refine Ops.pass rfl rfl rfl ?_
                      refine Ops.pass rfl rfl rfl ?_
                      refine Ops.pass rfl rfl rfl ?_
                      refine Ops.pass rfl rfl rfl ?_
                      refine Ops.pickF (v := (.v (.bool false))) rfl rfl rfl ?_
                      apply Ops.nil
                      exact ⟨⟨and_F hc12, rfl, rfl, rfl, rfl, rfl, rfl, rfl, trivial⟩, H.weak (by omega) (Nat.le_refl _)⟩
                  · rintro e σ ⟨he, H⟩
                    obtain ⟨e, rfl⟩ := he.ex
                    apply Ops.nil
                    replace H := H.all
                    refine Runs.whether (v := ((x3.2 && (decide (s2 > x3.1))) && (decide (s2 > (w64 (a2 - 40)))))) rfl ?_ ?_ <;> intro hc13
                    · replace h := cond_T hc13 h
                      apply Runs.skip
                      apply Runs.then
                      apply Runs.inBlock
                      apply Runs.then
                      refine Runs.regionH 8 rfl H ?_; intro b17 σ H
                      refine Ops.loadHA (off := 0) (cs := [(.v (.int .i64 f.Period)), (.v (.int .i64 f.Count)), (.v (.sl (f.Core.map (cL Span.cs)))), (.v (.sl (f.Odd.map Granule.cs)))]) H 0 rfl rfl rfl rfl rfl rfl rfl nofun rfl ?_
                      refine Ops.move (v := (.v (.int .i64 s2))) rfl rfl ?_
                      obtain ⟨x5, q5, h⟩ := bind_some h
                      refine Ops.call (ys := [(.agg [(.v (.int .i64 f.Period)), (.v (.int .i64 f.Count)), (.v (.sl (f.Core.map (cL Span.cs)))), (.v (.sl (f.Odd.map Granule.cs)))]), (.v (.int .i64 s2))]) (r := (.tup [(.v (.sl (x5.1.map Span.cs))), (.v (.int .i64 x5.2))])) rfl (gran_Get_fn q5) rfl ?_
                      refine Ops.move (v := (.tup [(.v (.sl (x5.1.map Span.cs))), (.v (.int .i64 x5.2))])) rfl rfl ?_
                      refine Ops.extract (v := (.v (.sl (x5.1.map Span.cs)))) rfl rfl rfl ?_
                      refine Ops.extract (v := (.v (.int .i64 x5.2))) rfl rfl rfl ?_
                      refine Ops.assign (v := (.v (.sl (x5.1.map Span.cs)))) rfl rfl ?_
                      refine Ops.assign (v := (.v (.int .i64 x5.2))) rfl rfl ?_
                      apply Ops.nil
                      replace H := H.all
                      apply Runs.then
                      refine Runs.regionH 7 rfl H ?_; intro b18 σ H
                      refine Ops.move (v := (.v (.int .i64 x5.2))) rfl rfl ?_
                      refine Ops.int (m := x5.2) (m' := 0) (r := .bool (x5.2 == 0)) rfl rfl rfl rfl rfl ?_
                      refine Ops.move (v := (.v (.bool (x5.2 == 0)))) rfl rfl ?_
                      refine Ops.mid 4 (K1 := fun e σ => EnvHas e [(108, (.v (.bool ((x5.2 == 0) && (decide ((x5.1.length : Int) > 0)))))), (2, (.ptr (b1 + 0) 4 0)), (5, (.v (.int .i64 a2))), (6, (.v (.int .i64 x2.1))), (7, (.v (.bool x2.2))), (8, (.v (.int .i64 x3.1))), (9, (.v (.bool x3.2))), (13, (.v (.int .i64 s2)))] ∧ Has σ (b18 + 7) (b18 + 7) [.blk (b1 + 0) 25 [(.v (.int .i64 f.Period)), (.v (.int .i64 f.Count)), (.v (.sl (f.Core.map (cL Span.cs)))), (.v (.sl (f.Odd.map Granule.cs)))]]) rfl ?_ ?_
                      · refine Ops.split rfl rfl ?_ ?_ <;> intro hc14
                        · skip
                          refine Ops.wanted rfl rfl ?_
                          refine Ops.move (v := (.v (.sl (x5.1.map Span.cs)))) rfl rfl ?_
                          refine Ops.wanted rfl rfl ?_
                          refine Ops.lenPt (c := Span.cs) (xs := x5.1) rfl rfl rfl ?_
                          refine Ops.wanted rfl rfl ?_
                          refine Ops.int (m := (x5.1.length : Int)) (m' := 0) (r := .bool (decide ((x5.1.length : Int) > 0))) rfl rfl rfl rfl rfl ?_
                          refine Ops.pickT (v := (.v (.bool (decide ((x5.1.length : Int) > 0))))) rfl rfl rfl ?_
                          apply Ops.nil
                          exact ⟨⟨and_T hc14, rfl, rfl, rfl, rfl, rfl, rfl, rfl, trivial⟩, H.weak (by omega) (Nat.le_refl _)⟩
                        · skip
                          refine Ops.pass rfl rfl rfl ?_
                          refine Ops.pass rfl rfl rfl ?_
                          refine Ops.pass rfl rfl rfl ?_
                          refine Ops.pickF (v := (.v (.bool false))) rfl rfl rfl ?_
                          apply Ops.nil
                          exact ⟨⟨and_F hc14, rfl, rfl, rfl, rfl, rfl, rfl, rfl, trivial⟩, H.weak (by omega) (Nat.le_refl _)⟩
                      · rintro e σ ⟨he, H⟩
                        obtain ⟨e, rfl⟩ := he.ex
                        apply Ops.nil
                        replace H := H.all
                        refine Runs.whether (v := ((x5.2 == 0) && (decide ((x5.1.length : Int) > 0)))) rfl ?_ ?_ <;> intro hc15
                        · replace h := cond_T hc15 h
                          apply Runs.then
                          refine Runs.regionH 1 rfl H ?_; intro b19 σ H
                          refine Ops.assign (v := (.v (.bool false))) rfl rfl ?_
                          apply Ops.nil
                          replace H := H.all
                          apply Runs.ret
                          replace h := Option.some.inj h; subst h
                          exact ⟨nofun, (.inr ⟨_, rfl, rfl, (Ends.H (xs := [(.v (.bool false))]) (.inr rfl) H (.tmp (v := (.v (.bool false))) rfl .nil) (.one (.c (.v _))))⟩)⟩
                        · replace h := cond_F hc15 h
                          apply Runs.skip
                          refine Runs.regionH 3 rfl H ?_; intro b20 σ H
                          refine Ops.move (v := (.v (.int .i64 s2))) rfl rfl ?_
                          refine Ops.int (m := s2) (m' := 1) (r := .int .i64 (w64 (s2 - 1))) rfl rfl rfl rfl rfl ?_
                          refine Ops.assign (v := (.v (.int .i64 (w64 (s2 - 1))))) rfl rfl ?_
                          apply Ops.nil
                          replace H := H.all
                          replace h := Option.some.inj h; subst h
                          exact ⟨rfl, ⟨rfl, rfl, rfl, rfl, rfl, rfl, rfl, trivial⟩, H⟩
                    · replace h := cond_F hc13 h
                      apply Runs.exit
                      replace h := Option.some.inj h; subst h
                      exact ⟨nofun, (.inl ⟨_, rfl, rfl, ⟨rfl, rfl, rfl, rfl, rfl, rfl, trivial⟩, H⟩)⟩
              · rintro x e σ (⟨a4, rfl, rfl, he, H⟩ | ⟨r', rfl, rfl, hE⟩)
                · skip
                  replace h := jgo h
                  obtain ⟨e, rfl⟩ := he.ex
                  apply Runs.then
                  obtain ⟨y3, hj3, h⟩ := bind_some h
                  refine Runs.mono (Q := fun x e σ => (∃ a5, y3 = (.go a5) ∧ x = .normal ∧ EnvHas e [] ∧ Hs σ []) ∨ (∃ r', y3 = (.ret r') ∧ x = .ret ∧ Ends CX Try.f3.results.toList (.v (.bool r')) x e σ)) ?_ ?_
                  · replace h := hj3
                    apply Runs.then
                    refine Runs.regionH 1 rfl H ?_; intro b21 σ H
                    refine Ops.move (v := (.v (.bool x2.2))) rfl rfl ?_
                    apply Ops.nil
                    replace H := H.all
                    refine Runs.whether (v := x2.2) rfl ?_ ?_ <;> intro hc16
                    · replace h := cond_T hc16 h
                      apply Runs.then
                      refine Runs.regionH 8 rfl H ?_; intro b22 σ H
                      refine Ops.loadHA (off := 0) (cs := [(.v (.int .i64 f.Period)), (.v (.int .i64 f.Count)), (.v (.sl (f.Core.map (cL Span.cs)))), (.v (.sl (f.Odd.map Granule.cs)))]) H 0 rfl rfl rfl rfl rfl rfl rfl nofun rfl ?_
                      refine Ops.move (v := (.v (.int .i64 x2.1))) rfl rfl ?_
                      obtain ⟨x6, q6, h⟩ := bind_some h
                      refine Ops.call (ys := [(.agg [(.v (.int .i64 f.Period)), (.v (.int .i64 f.Count)), (.v (.sl (f.Core.map (cL Span.cs)))), (.v (.sl (f.Odd.map Granule.cs)))]), (.v (.int .i64 x2.1))]) (r := (.tup [(.v (.int .i64 x6.1)), (.v (.bool x6.2))])) rfl (gran_Before_fn q6) rfl ?_
                      refine Ops.move (v := (.tup [(.v (.int .i64 x6.1)), (.v (.bool x6.2))])) rfl rfl ?_
                      refine Ops.extract (v := (.v (.int .i64 x6.1))) rfl rfl rfl ?_
                      refine Ops.extract (v := (.v (.bool x6.2))) rfl rfl rfl ?_
                      refine Ops.assign (v := (.v (.int .i64 x6.1))) rfl rfl ?_
                      refine Ops.assign (v := (.v (.bool x6.2))) rfl rfl ?_
                      apply Ops.nil
                      replace H := H.all
                      apply Runs.then
                      refine Runs.regionH 18 rfl H ?_; intro b23 σ H
                      refine Ops.move (v := (.v (.bool x6.2))) rfl rfl ?_
                      refine Ops.move (v := (.v (.bool x6.2))) rfl rfl ?_
                      refine Ops.mid 4 (K1 := fun e σ => EnvHas e [(121, (.v (.bool (x6.2 && (decide (x6.1 > a2)))))), (8, (.v (.int .i64 x3.1))), (9, (.v (.bool x3.2))), (16, (.v (.int .i64 x6.1))), (17, (.v (.bool x6.2)))] ∧ Has σ (b23 + 6) (b23 + 18) []) rfl ?_ ?_
                      · refine Ops.split rfl rfl ?_ ?_ <;> intro hc17
                        · skip
                          refine Ops.wanted rfl rfl ?_
                          refine Ops.move (v := (.v (.int .i64 x6.1))) rfl rfl ?_
                          refine Ops.wanted rfl rfl ?_
                          refine Ops.move (v := (.v (.int .i64 a2))) rfl rfl ?_
                          refine Ops.wanted rfl rfl ?_
                          refine Ops.int (m := x6.1) (m' := a2) (r := .bool (decide (x6.1 > a2))) rfl rfl rfl rfl rfl ?_
                          refine Ops.pickT (v := (.v (.bool (decide (x6.1 > a2))))) rfl rfl rfl ?_
                          apply Ops.nil
                          exact ⟨⟨and_T hc17, rfl, rfl, rfl, rfl, trivial⟩, (H.erase 0).weak (by omega) (Nat.le_refl _)⟩
                        · skip
                          refine Ops.pass rfl rfl rfl ?_
                          refine Ops.pass rfl rfl rfl ?_
                          refine Ops.pass rfl rfl rfl ?_
                          refine Ops.pickF (v := (.v (.bool false))) rfl rfl rfl ?_
                          apply Ops.nil
                          exact ⟨⟨and_F hc17, rfl, rfl, rfl, rfl, trivial⟩, (H.erase 0).weak (by omega) (Nat.le_refl _)⟩
                      · rintro e σ ⟨he, H⟩
                        obtain ⟨e, rfl⟩ := he.ex
                        refine Ops.move (v := (.v (.bool (x6.2 && (decide (x6.1 > a2)))))) rfl rfl ?_
                        refine Ops.mid 11 (K1 := fun e σ => EnvHas e [(133, (.v (.bool ((x6.2 && (decide (x6.1 > a2))) || (x3.2 && ((!x6.2) || (decide (x6.1 < x3.1))))))))] ∧ Has σ (b23 + 18) (b23 + 18) []) rfl ?_ ?_
                        · refine Ops.split rfl rfl ?_ ?_ <;> intro hc18
                          · skip
                            refine Ops.pass rfl rfl rfl ?_
                            refine Ops.pass rfl rfl rfl ?_
                            refine Ops.passU rfl rfl rfl ?_
                            refine Ops.passU rfl rfl rfl ?_
                            refine Ops.passU rfl rfl rfl ?_
                            refine Ops.passU rfl rfl rfl ?_
                            refine Ops.passU rfl rfl rfl ?_
                            refine Ops.passU rfl rfl rfl ?_
                            refine Ops.passU rfl rfl rfl ?_
                            refine Ops.pass rfl rfl rfl ?_
                            refine Ops.pickT (v := (.v (.bool true))) rfl rfl rfl ?_
                            apply Ops.nil
                            exact ⟨⟨or_T hc18, trivial⟩, H.weak (by omega) (Nat.le_refl _)⟩
                          · skip
                            refine Ops.wanted rfl rfl ?_
                            refine Ops.move (v := (.v (.bool x3.2))) rfl rfl ?_
                            refine Ops.wanted rfl rfl ?_
                            refine Ops.move (v := (.v (.bool x3.2))) rfl rfl ?_
                            refine Ops.mid 8 (K1 := fun e σ => EnvHas e [(132, (.v (.bool (x3.2 && ((!x6.2) || (decide (x6.1 < x3.1))))))), (122, (.v (.bool false)))] ∧ Has σ (b23 + 17) (b23 + 18) []) rfl ?_ ?_
                            · refine Ops.split rfl rfl ?_ ?_ <;> intro hc19
                              · skip
                                refine Ops.wanted rfl rfl ?_
                                refine Ops.move (v := (.v (.bool x6.2))) rfl rfl ?_
                                refine Ops.wanted rfl rfl ?_
                                refine Ops.not (b := x6.2) rfl rfl ?_
                                refine Ops.wanted rfl rfl ?_
                                refine Ops.move (v := (.v (.bool (!x6.2)))) rfl rfl ?_
                                refine Ops.mid 4 (K1 := fun e σ => EnvHas e [(131, (.v (.bool ((!x6.2) || (decide (x6.1 < x3.1)))))), (122, (.v (.bool false))), (124, (.v (.bool true)))] ∧ Has σ (b23 + 16) (b23 + 18) []) rfl ?_ ?_
                                · refine Ops.split rfl rfl ?_ ?_ <;> intro hc20
                                  · skip
                                    refine Ops.pass rfl rfl rfl ?_
                                    refine Ops.pass rfl rfl rfl ?_
                                    refine Ops.pass rfl rfl rfl ?_
                                    refine Ops.wanted rfl rfl ?_
                                    refine Ops.pickT (v := (.v (.bool true))) rfl rfl rfl ?_
                                    apply Ops.nil
                                    exact ⟨⟨or_T hc20, rfl, rfl, trivial⟩, H.weak (by omega) (Nat.le_refl _)⟩
                                  · skip
                                    refine Ops.wanted rfl rfl ?_
                                    refine Ops.move (v := (.v (.int .i64 x6.1))) rfl rfl ?_
                                    refine Ops.wanted rfl rfl ?_
                                    refine Ops.move (v := (.v (.int .i64 x3.1))) rfl rfl ?_
                                    refine Ops.wanted rfl rfl ?_
                                    refine Ops.int (m := x6.1) (m' := x3.1) (r := .bool (decide (x6.1 < x3.1))) rfl rfl rfl rfl rfl ?_
                                    refine Ops.wanted rfl rfl ?_
                                    refine Ops.pickF (v := (.v (.bool (decide (x6.1 < x3.1))))) rfl rfl rfl ?_
                                    apply Ops.nil
                                    exact ⟨⟨or_F hc20, rfl, rfl, trivial⟩, H.weak (by omega) (Nat.le_refl _)⟩
                                · rintro e σ ⟨he, H⟩
                                  obtain ⟨e, rfl⟩ := he.ex
                                  refine Ops.wanted rfl rfl ?_
                                  refine Ops.pickT (v := (.v (.bool ((!x6.2) || (decide (x6.1 < x3.1)))))) rfl rfl rfl ?_
                                  apply Ops.nil
                                  exact ⟨⟨and_T hc19, rfl, trivial⟩, H.weak (by omega) (Nat.le_refl _)⟩
                              · skip
                                refine Ops.pass rfl rfl rfl ?_
                                refine Ops.pass rfl rfl rfl ?_
                                refine Ops.pass rfl rfl rfl ?_
                                refine Ops.passU rfl rfl rfl ?_
                                refine Ops.passU rfl rfl rfl ?_
                                refine Ops.passU rfl rfl rfl ?_
                                refine Ops.pass rfl rfl rfl ?_
                                refine Ops.wanted rfl rfl ?_
                                refine Ops.pickF (v := (.v (.bool false))) rfl rfl rfl ?_
                                apply Ops.nil
                                exact ⟨⟨and_F hc19, rfl, trivial⟩, H.weak (by omega) (Nat.le_refl _)⟩
                            · rintro e σ ⟨he, H⟩
                              obtain ⟨e, rfl⟩ := he.ex
                              refine Ops.pickF (v := (.v (.bool (x3.2 && ((!x6.2) || (decide (x6.1 < x3.1))))))) rfl rfl rfl ?_
                              apply Ops.nil
                              exact ⟨⟨or_F hc18, trivial⟩, H.weak (by omega) (Nat.le_refl _)⟩
                        · rintro e σ ⟨he, H⟩
                          obtain ⟨e, rfl⟩ := he.ex
                          apply Ops.nil
                          replace H := H.all
                          refine Runs.whether (v := ((x6.2 && (decide (x6.1 > a2))) || (x3.2 && ((!x6.2) || (decide (x6.1 < x3.1)))))) rfl ?_ ?_ <;> intro hc21
                          · replace h := cond_T hc21 h
                            apply Runs.then
                            refine Runs.regionH 1 rfl H ?_; intro b24 σ H
                            refine Ops.assign (v := (.v (.bool false))) rfl rfl ?_
                            apply Ops.nil
                            replace H := H.all
                            apply Runs.ret
                            replace h := Option.some.inj h; subst h
                            exact (.inr ⟨_, rfl, rfl, (Ends.H (xs := [(.v (.bool false))]) (.inr rfl) H (.tmp (v := (.v (.bool false))) rfl .nil) (.one (.c (.v _))))⟩)
                          · replace h := cond_F hc21 h
                            apply Runs.skip
                            replace h := Option.some.inj h; subst h
                            exact (.inl ⟨_, rfl, rfl, trivial, H⟩)
                    · replace h := cond_F hc16 h
                      apply Runs.skip
                      replace h := Option.some.inj h; subst h
                      exact (.inl ⟨_, rfl, rfl, trivial, (H.erase 0)⟩)
                  · rintro x e σ (⟨a6, rfl, rfl, he, H⟩ | ⟨r', rfl, rfl, hE⟩)
                    · skip
                      replace h := jgo h
                      obtain ⟨e, rfl⟩ := he.ex
                      apply Runs.then
                      refine Runs.regionH 2 rfl H ?_; intro b25 σ H
                      refine Ops.call (ys := []) (r := (.v (.bool epactlaw05_awake))) rfl (epactlaw05_awake_fn rfl) rfl ?_
                      refine Ops.assign (v := (.v (.bool epactlaw05_awake))) rfl rfl ?_
                      apply Ops.nil
                      replace H := H.all
                      apply Runs.ret
                      replace h := Option.some.inj h; subst h
                      exact (Ends.H (xs := [(.v (.bool epactlaw05_awake))]) (.inr rfl) H (.tmp (v := (.v (.bool epactlaw05_awake))) rfl .nil) (.one (.c (.v _))))
                    · skip
                      replace h := jret h
                      replace h := Option.some.inj h; subst h
                      exact hE
                · skip
                  replace h := jret h
                  replace h := Option.some.inj h; subst h
                  exact hE
            · skip
              replace h := jret h
              replace h := Option.some.inj h; subst h
              exact hE

end Go.Dn
