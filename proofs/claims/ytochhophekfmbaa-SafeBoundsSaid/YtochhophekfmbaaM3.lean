/- Part 3 of what the row stands on. -/
import Derived.Test.YtochhophekfmbaaM2
set_option linter.unusedVariables false
set_option linter.unusedSimpArgs false
namespace Go.Dn
open Go Go.Proofs

set_option maxRecDepth 100000 in
set_option maxHeartbeats 4000000 in
theorem safe_Add_fn {a : Int} {b : Int} {r : Int × Int} (h : safe_Add a b = r) : Fn CX 17 [(.v (.int .i64 a)), (.v (.int .i64 b))] (.tup [(.v (.int .i64 r.1)), (.v (.int .i64 r.2))]) := by
  refine Fn.ends Try.func17 rfl rfl rfl rfl rfl rfl ?_
  have H : Hs (⟨0, fun _ => .none⟩ : Heap) [] := Has.nil (Nat.le_refl _)
  generalize (⟨0, fun _ => .none⟩ : Heap) = σ at H ⊢
  unfold safe_Add at h
  apply Runs.then
  refine Runs.regionH 2 rfl H ?_; intro b1 σ H
  refine Ops.assign (v := (.v (.int .i64 0))) rfl rfl ?_
  refine Ops.assign (v := (.v (.int .i64 0))) rfl rfl ?_
  apply Ops.nil
  replace H := H.all
  apply Runs.then
  refine Runs.regionH 4 rfl H ?_; intro b2 σ H
  refine Ops.move (v := (.v (.int .i64 a))) rfl rfl ?_
  refine Ops.move (v := (.v (.int .i64 b))) rfl rfl ?_
  refine Ops.int (m := a) (m' := b) (r := .int .i64 (w64 (a + b))) rfl rfl rfl rfl rfl ?_
  refine Ops.assign (v := (.v (.int .i64 (w64 (a + b))))) rfl rfl ?_
  apply Ops.nil
  replace H := H.all
  apply Runs.then
  apply Runs.then
  refine Runs.regionH 10 rfl H ?_; intro b3 σ H
  refine Ops.move (v := (.v (.int .i64 (w64 (a + b))))) rfl rfl ?_
  refine Ops.move (v := (.v (.int .i64 a))) rfl rfl ?_
  refine Ops.int (m := (w64 (a + b))) (m' := a) (r := .bool (decide ((w64 (a + b)) > a))) rfl rfl rfl rfl rfl ?_
  refine Ops.move (v := (.v (.int .i64 b))) rfl rfl ?_
  refine Ops.int (m := b) (m' := 0) (r := .bool (decide (b > 0))) rfl rfl rfl rfl rfl ?_
  refine Ops.neB (b := (decide ((w64 (a + b)) > a))) (b' := (decide (b > 0))) rfl rfl rfl rfl ?_
  refine Ops.move (v := (.v (.bool ((decide ((w64 (a + b)) > a)) != (decide (b > 0)))))) rfl rfl ?_
  refine Ops.mid 3 (K1 := fun e σ => EnvHas e [(19, (.v (.bool (((decide ((w64 (a + b)) > a)) != (decide (b > 0))) && (b != 0))))), (6, (.v (.int .i64 (w64 (a + b)))))] ∧ Has σ (b3 + 10) (b3 + 10) []) rfl ?_ ?_
  · refine Ops.split rfl rfl ?_ ?_ <;> intro hc1
    · skip
      refine Ops.wanted rfl rfl ?_
      refine Ops.move (v := (.v (.int .i64 b))) rfl rfl ?_
      refine Ops.wanted rfl rfl ?_
      refine Ops.int (m := b) (m' := 0) (r := .bool (b != 0)) rfl rfl rfl rfl rfl ?_
      refine Ops.pickT (v := (.v (.bool (b != 0)))) rfl rfl rfl ?_
      apply Ops.nil
      exact ⟨⟨and_T hc1, rfl, trivial⟩, H.weak (by omega) (Nat.le_refl _)⟩
    · skip
      refine Ops.pass rfl rfl rfl ?_
      refine Ops.pass rfl rfl rfl ?_
      refine Ops.pickF (v := (.v (.bool false))) rfl rfl rfl ?_
      apply Ops.nil
      exact ⟨⟨and_F hc1, rfl, trivial⟩, H.weak (by omega) (Nat.le_refl _)⟩
  · rintro e σ ⟨he, H⟩
    obtain ⟨e, rfl⟩ := he.ex
    apply Ops.nil
    replace H := H.all
    refine Runs.whether (v := (((decide ((w64 (a + b)) > a)) != (decide (b > 0))) && (b != 0))) rfl ?_ ?_ <;> intro hc2
    · replace h := cond_T hc2 h
      apply Runs.then
      refine Runs.regionH 2 rfl H ?_; intro b4 σ H
      refine Ops.assign (v := (.v (.int .i64 0))) rfl rfl ?_
      refine Ops.assign (v := (.v (.int .i64 10))) rfl rfl ?_
      apply Ops.nil
      replace H := H.all
      apply Runs.ret
      subst h
      exact (Ends.H (xs := [(.v (.int .i64 0)), (.v (.int .i64 10))]) (.inr rfl) H (.tmp (v := (.v (.int .i64 0))) rfl (.tmp (v := (.v (.int .i64 10))) rfl .nil)) (.two (.cons (.c (.v _)) (.cons (.c (.v _)) .nil))))
    · replace h := cond_F hc2 h
      apply Runs.skip
      apply Runs.then
      refine Runs.regionH 3 rfl H ?_; intro b5 σ H
      refine Ops.move (v := (.v (.int .i64 (w64 (a + b))))) rfl rfl ?_
      refine Ops.assign (v := (.v (.int .i64 (w64 (a + b))))) rfl rfl ?_
      refine Ops.assign (v := (.v (.int .i64 0))) rfl rfl ?_
      apply Ops.nil
      replace H := H.all
      apply Runs.ret
      subst h
      exact (Ends.H (xs := [(.v (.int .i64 (w64 (a + b)))), (.v (.int .i64 0))]) (.inr rfl) H (.tmp (v := (.v (.int .i64 (w64 (a + b))))) rfl (.tmp (v := (.v (.int .i64 0))) rfl .nil)) (.two (.cons (.c (.v _)) (.cons (.c (.v _)) .nil))))

set_option maxRecDepth 100000 in
set_option maxHeartbeats 4000000 in
theorem epactref01_of_fn {a : Int} {r : epactref01_long} (h : epactref01_of a = some r) : Fn CX 55 [(.v (.int .i64 a))] (.agg (vs (epactref01_long.cs r))) := by
  refine Fn.ends Try.func55 rfl rfl rfl rfl rfl rfl ?_
  have H : Hs (⟨0, fun _ => .none⟩ : Heap) [] := Has.nil (Nat.le_refl _)
  generalize (⟨0, fun _ => .none⟩ : Heap) = σ at H ⊢
  unfold epactref01_of at h
  apply Runs.then
  refine Runs.regionH 1 rfl H ?_; intro b1 σ H
  refine Ops.allocH (cs := [(.v (.bool false)), (.v (.int .u32 0)), (.v (.int .u32 0)), (.v (.int .u32 0)), (.v (.int .u32 0)), (.v (.int .u32 0)), (.v (.int .u32 0)), (.v (.int .u32 0)), (.v (.int .u32 0)), (.v (.int .u32 0))]) H (by omega) (by omega) rfl rfl ?_; intro σ H
  apply Ops.nil
  replace H := H.all
  apply Runs.then
  refine Runs.regionH 5 rfl H ?_; intro b2 σ H
  refine Ops.move (v := (.v (.int .i64 a))) rfl rfl ?_
  refine Ops.int (m := a) (m' := 0) (r := .bool (decide (a < 0))) rfl rfl rfl rfl rfl ?_
  refine Ops.buildA (cs := [(.v (.bool (decide (a < 0)))), (.v (.int .u32 0)), (.v (.int .u32 0)), (.v (.int .u32 0)), (.v (.int .u32 0)), (.v (.int .u32 0)), (.v (.int .u32 0)), (.v (.int .u32 0)), (.v (.int .u32 0)), (.v (.int .u32 0))]) rfl rfl ?_
  refine Ops.allocH (cs := [(.v (.bool false)), (.v (.int .u32 0)), (.v (.int .u32 0)), (.v (.int .u32 0)), (.v (.int .u32 0)), (.v (.int .u32 0)), (.v (.int .u32 0)), (.v (.int .u32 0)), (.v (.int .u32 0)), (.v (.int .u32 0))]) H (by omega) (by omega) rfl rfl ?_; intro σ H
  refine Ops.storeH (off := 0) (v := (.agg [(.v (.bool (decide (a < 0)))), (.v (.int .u32 0)), (.v (.int .u32 0)), (.v (.int .u32 0)), (.v (.int .u32 0)), (.v (.int .u32 0)), (.v (.int .u32 0)), (.v (.int .u32 0)), (.v (.int .u32 0)), (.v (.int .u32 0))])) (ys := [(.v (.bool (decide (a < 0)))), (.v (.int .u32 0)), (.v (.int .u32 0)), (.v (.int .u32 0)), (.v (.int .u32 0)), (.v (.int .u32 0)), (.v (.int .u32 0)), (.v (.int .u32 0)), (.v (.int .u32 0)), (.v (.int .u32 0))]) (cells' := [(.v (.bool (decide (a < 0)))), (.v (.int .u32 0)), (.v (.int .u32 0)), (.v (.int .u32 0)), (.v (.int .u32 0)), (.v (.int .u32 0)), (.v (.int .u32 0)), (.v (.int .u32 0)), (.v (.int .u32 0)), (.v (.int .u32 0))]) H 0 rfl rfl rfl rfl rfl rfl rfl rfl rfl nofun ?_; intro σ H
  apply Ops.nil
  replace H := H.all
  apply Runs.then
  apply Runs.then
  refine Runs.regionH 1 rfl H ?_; intro b3 σ H
  refine Ops.assign (v := (.v (.int .i64 0))) rfl rfl ?_
  apply Ops.nil
  replace H := H.all
  apply Runs.inBlock
  apply Runs.again
  apply Runs.then
  apply Runs.then
  refine Runs.regionH 2 rfl H ?_; intro b4 σ H
  refine Ops.move (v := (.v (.int .i64 0))) rfl rfl ?_
  refine Ops.int (m := 0) (m' := 4) (r := .bool true) rfl rfl rfl rfl rfl ?_
  apply Ops.nil
  replace H := H.all
  refine Runs.yes rfl ?_
  apply Runs.skip
  apply Runs.then
  obtain ⟨y1, hj1, h⟩ := bind_some h
  refine Runs.mono (Q := fun x e σ => x = .normal ∧ EnvHas e [(0, (.v (.int .i64 y1.1))), (2, (.ptr (b1 + 0) 10 0)), (3, (.ptr (b2 + 3) 10 0)), (4, (.v (.int .i64 0)))] ∧ Hs σ [.blk (b2 + 3) 73 [(.v (.bool (decide (a < 0)))), (.v (.int .u32 y1.2)), (.v (.int .u32 0)), (.v (.int .u32 0)), (.v (.int .u32 0)), (.v (.int .u32 0)), (.v (.int .u32 0)), (.v (.int .u32 0)), (.v (.int .u32 0)), (.v (.int .u32 0))], .blk (b1 + 0) 73 [(.v (.bool false)), (.v (.int .u32 0)), (.v (.int .u32 0)), (.v (.int .u32 0)), (.v (.int .u32 0)), (.v (.int .u32 0)), (.v (.int .u32 0)), (.v (.int .u32 0)), (.v (.int .u32 0)), (.v (.int .u32 0))]]) ?_ ?_
  · replace h := hj1
    apply Runs.inBlock
    obtain ⟨y2, hj2, h⟩ := bind_some h
    refine Runs.mono (Q := fun x e σ => x = .normal ∧ EnvHas e [(0, (.v (.int .i64 y2.1))), (2, (.ptr (b1 + 0) 10 0)), (3, (.ptr (b2 + 3) 10 0)), (4, (.v (.int .i64 0)))] ∧ Hs σ [.blk (b2 + 3) 73 [(.v (.bool (decide (a < 0)))), (.v (.int .u32 y2.2)), (.v (.int .u32 0)), (.v (.int .u32 0)), (.v (.int .u32 0)), (.v (.int .u32 0)), (.v (.int .u32 0)), (.v (.int .u32 0)), (.v (.int .u32 0)), (.v (.int .u32 0))], .blk (b1 + 0) 73 [(.v (.bool false)), (.v (.int .u32 0)), (.v (.int .u32 0)), (.v (.int .u32 0)), (.v (.int .u32 0)), (.v (.int .u32 0)), (.v (.int .u32 0)), (.v (.int .u32 0)), (.v (.int .u32 0)), (.v (.int .u32 0))]]) ?_ ?_
    · replace h := hj2
      apply Runs.then
      refine Runs.regionH 3 rfl H ?_; intro b5 σ H
      refine Ops.move (v := (.v (.int .i64 a))) rfl rfl ?_
      refine Ops.rem (m := a) (m' := 65536) rfl rfl (by decide) rfl ?_
      refine Ops.assign (v := (.v (.int .i64 (a.tmod 65536)))) rfl rfl ?_
      apply Ops.nil
      replace H := H.all
      apply Runs.then
      obtain ⟨y3, hj3, h⟩ := bind_some h
      refine Runs.mono (Q := fun x e σ => x = .normal ∧ EnvHas e [(0, (.v (.int .i64 a))), (2, (.ptr (b1 + 0) 10 0)), (3, (.ptr (b2 + 3) 10 0)), (4, (.v (.int .i64 0))), (5, (.v (.int .i64 y3)))] ∧ Hs σ [.blk (b2 + 3) 73 [(.v (.bool (decide (a < 0)))), (.v (.int .u32 0)), (.v (.int .u32 0)), (.v (.int .u32 0)), (.v (.int .u32 0)), (.v (.int .u32 0)), (.v (.int .u32 0)), (.v (.int .u32 0)), (.v (.int .u32 0)), (.v (.int .u32 0))], .blk (b1 + 0) 73 [(.v (.bool false)), (.v (.int .u32 0)), (.v (.int .u32 0)), (.v (.int .u32 0)), (.v (.int .u32 0)), (.v (.int .u32 0)), (.v (.int .u32 0)), (.v (.int .u32 0)), (.v (.int .u32 0)), (.v (.int .u32 0))]]) ?_ ?_
      · replace h := hj3
        apply Runs.then
        refine Runs.regionH 2 rfl H ?_; intro b6 σ H
        refine Ops.move (v := (.v (.int .i64 (a.tmod 65536)))) rfl rfl ?_
        refine Ops.int (m := (a.tmod 65536)) (m' := 0) (r := .bool (decide ((a.tmod 65536) < 0))) rfl rfl rfl rfl rfl ?_
        apply Ops.nil
        replace H := H.all
        refine Runs.whether (v := (decide ((a.tmod 65536) < 0))) rfl ?_ ?_ <;> intro hc1
        · replace h := cond_T hc1 h
          refine Runs.regionH 3 rfl H ?_; intro b7 σ H
          refine Ops.move (v := (.v (.int .i64 (a.tmod 65536)))) rfl rfl ?_
          refine Ops.neg (m := (a.tmod 65536)) rfl rfl ?_
          obtain ⟨x1, q1, h⟩ := bind_some h
          refine Ops.assign (v := (.v (.int .i64 x1))) (by rw [← Option.some.inj q1]; rfl) rfl ?_
          apply Ops.nil
          replace H := H.all
          replace h := Option.some.inj h; subst h
          exact ⟨rfl, ⟨rfl, rfl, rfl, rfl, rfl, trivial⟩, H⟩
        · replace h := cond_F hc1 h
          apply Runs.skip
          replace h := Option.some.inj h; subst h
          exact ⟨rfl, ⟨rfl, rfl, rfl, rfl, rfl, trivial⟩, H⟩
      · rintro x e σ ⟨rfl, he, H⟩
        obtain ⟨e, rfl⟩ := he.ex
        apply Runs.then
        refine Runs.regionH 6 rfl H ?_; intro b8 σ H
        refine Ops.move (v := (.v (.int .i64 0))) rfl rfl ?_
        refine Ops.move (v := (.v (.int .i64 y3))) rfl rfl ?_
        refine Ops.conv (m := y3) rfl rfl rfl rfl ?_
        refine Ops.fieldAddrH (off := 0) (fo := 1) H 0 rfl rfl rfl rfl rfl nofun rfl ?_
        refine Ops.arrAddrH (off := 1) (m := 9) (s := 1) (iv := 0) H 0 rfl rfl rfl rfl (by decide) (by decide) rfl rfl nofun rfl ?_
        refine Ops.storeH (off := 1) (v := (.v (.int .u32 (IntKind.u32.wrap y3)))) (ys := [(.v (.int .u32 (IntKind.u32.wrap y3)))]) (cells' := [(.v (.bool (decide (a < 0)))), (.v (.int .u32 (IntKind.u32.wrap y3))), (.v (.int .u32 0)), (.v (.int .u32 0)), (.v (.int .u32 0)), (.v (.int .u32 0)), (.v (.int .u32 0)), (.v (.int .u32 0)), (.v (.int .u32 0)), (.v (.int .u32 0))]) H 0 rfl rfl rfl rfl rfl rfl rfl rfl rfl nofun ?_; intro σ H
        apply Ops.nil
        replace H := H.all
        refine Runs.regionH 3 rfl H ?_; intro b9 σ H
        refine Ops.move (v := (.v (.int .i64 a))) rfl rfl ?_
        refine Ops.quo (m := a) (m' := 65536) rfl rfl (by decide) rfl ?_
        refine Ops.assign (v := (.v (.int .i64 (w64 (a.tdiv 65536))))) rfl rfl ?_
        apply Ops.nil
        replace H := H.all
        replace h := Option.some.inj h; subst h
        exact ⟨rfl, ⟨rfl, rfl, rfl, rfl, trivial⟩, H⟩
    · rintro x e σ ⟨rfl, he, H⟩
      obtain ⟨e, rfl⟩ := he.ex
      replace h := Option.some.inj h; subst h
      exact ⟨rfl, ⟨rfl, rfl, rfl, rfl, trivial⟩, H⟩
  · rintro x e σ ⟨rfl, he, H⟩
    obtain ⟨e, rfl⟩ := he.ex
    refine Runs.regionH 3 rfl H ?_; intro b10 σ H
    refine Ops.move (v := (.v (.int .i64 0))) rfl rfl ?_
    refine Ops.int (m := 0) (m' := 1) (r := .int .i64 1) rfl rfl rfl rfl rfl ?_
    refine Ops.assign (v := (.v (.int .i64 1))) rfl rfl ?_
    apply Ops.nil
    replace H := H.all
    apply Runs.again
    apply Runs.then
    apply Runs.then
    refine Runs.regionH 2 rfl H ?_; intro b11 σ H
    refine Ops.move (v := (.v (.int .i64 1))) rfl rfl ?_
    refine Ops.int (m := 1) (m' := 4) (r := .bool true) rfl rfl rfl rfl rfl ?_
    apply Ops.nil
    replace H := H.all
    refine Runs.yes rfl ?_
    apply Runs.skip
    apply Runs.then
    obtain ⟨y4, hj4, h⟩ := bind_some h
    refine Runs.mono (Q := fun x e σ => x = .normal ∧ EnvHas e [(0, (.v (.int .i64 y4.1))), (2, (.ptr (b1 + 0) 10 0)), (3, (.ptr (b2 + 3) 10 0)), (4, (.v (.int .i64 1)))] ∧ Hs σ [.blk (b2 + 3) 73 [(.v (.bool (decide (a < 0)))), (.v (.int .u32 y1.2)), (.v (.int .u32 y4.2)), (.v (.int .u32 0)), (.v (.int .u32 0)), (.v (.int .u32 0)), (.v (.int .u32 0)), (.v (.int .u32 0)), (.v (.int .u32 0)), (.v (.int .u32 0))], .blk (b1 + 0) 73 [(.v (.bool false)), (.v (.int .u32 0)), (.v (.int .u32 0)), (.v (.int .u32 0)), (.v (.int .u32 0)), (.v (.int .u32 0)), (.v (.int .u32 0)), (.v (.int .u32 0)), (.v (.int .u32 0)), (.v (.int .u32 0))]]) ?_ ?_
    · replace h := hj4
      apply Runs.inBlock
      obtain ⟨y5, hj5, h⟩ := bind_some h
      refine Runs.mono (Q := fun x e σ => x = .normal ∧ EnvHas e [(0, (.v (.int .i64 y5.1))), (2, (.ptr (b1 + 0) 10 0)), (3, (.ptr (b2 + 3) 10 0)), (4, (.v (.int .i64 1)))] ∧ Hs σ [.blk (b2 + 3) 73 [(.v (.bool (decide (a < 0)))), (.v (.int .u32 y1.2)), (.v (.int .u32 y5.2)), (.v (.int .u32 0)), (.v (.int .u32 0)), (.v (.int .u32 0)), (.v (.int .u32 0)), (.v (.int .u32 0)), (.v (.int .u32 0)), (.v (.int .u32 0))], .blk (b1 + 0) 73 [(.v (.bool false)), (.v (.int .u32 0)), (.v (.int .u32 0)), (.v (.int .u32 0)), (.v (.int .u32 0)), (.v (.int .u32 0)), (.v (.int .u32 0)), (.v (.int .u32 0)), (.v (.int .u32 0)), (.v (.int .u32 0))]]) ?_ ?_
      · replace h := hj5
        apply Runs.then
        refine Runs.regionH 3 rfl H ?_; intro b12 σ H
        refine Ops.move (v := (.v (.int .i64 y1.1))) rfl rfl ?_
        refine Ops.rem (m := y1.1) (m' := 65536) rfl rfl (by decide) rfl ?_
        refine Ops.assign (v := (.v (.int .i64 (y1.1.tmod 65536)))) rfl rfl ?_
        apply Ops.nil
        replace H := H.all
        apply Runs.then
        obtain ⟨y6, hj6, h⟩ := bind_some h
        refine Runs.mono (Q := fun x e σ => x = .normal ∧ EnvHas e [(0, (.v (.int .i64 y1.1))), (2, (.ptr (b1 + 0) 10 0)), (3, (.ptr (b2 + 3) 10 0)), (4, (.v (.int .i64 1))), (5, (.v (.int .i64 y6)))] ∧ Hs σ [.blk (b2 + 3) 73 [(.v (.bool (decide (a < 0)))), (.v (.int .u32 y1.2)), (.v (.int .u32 0)), (.v (.int .u32 0)), (.v (.int .u32 0)), (.v (.int .u32 0)), (.v (.int .u32 0)), (.v (.int .u32 0)), (.v (.int .u32 0)), (.v (.int .u32 0))], .blk (b1 + 0) 73 [(.v (.bool false)), (.v (.int .u32 0)), (.v (.int .u32 0)), (.v (.int .u32 0)), (.v (.int .u32 0)), (.v (.int .u32 0)), (.v (.int .u32 0)), (.v (.int .u32 0)), (.v (.int .u32 0)), (.v (.int .u32 0))]]) ?_ ?_
        · replace h := hj6
          apply Runs.then
          refine Runs.regionH 2 rfl H ?_; intro b13 σ H
          refine Ops.move (v := (.v (.int .i64 (y1.1.tmod 65536)))) rfl rfl ?_
          refine Ops.int (m := (y1.1.tmod 65536)) (m' := 0) (r := .bool (decide ((y1.1.tmod 65536) < 0))) rfl rfl rfl rfl rfl ?_
          apply Ops.nil
          replace H := H.all
          refine Runs.whether (v := (decide ((y1.1.tmod 65536) < 0))) rfl ?_ ?_ <;> intro hc2
          · replace h := cond_T hc2 h
            refine Runs.regionH 3 rfl H ?_; intro b14 σ H
            refine Ops.move (v := (.v (.int .i64 (y1.1.tmod 65536)))) rfl rfl ?_
            refine Ops.neg (m := (y1.1.tmod 65536)) rfl rfl ?_
            obtain ⟨x2, q2, h⟩ := bind_some h
            refine Ops.assign (v := (.v (.int .i64 x2))) (by rw [← Option.some.inj q2]; rfl) rfl ?_
            apply Ops.nil
            replace H := H.all
            replace h := Option.some.inj h; subst h
            exact ⟨rfl, ⟨rfl, rfl, rfl, rfl, rfl, trivial⟩, H⟩
          · replace h := cond_F hc2 h
            apply Runs.skip
            replace h := Option.some.inj h; subst h
            exact ⟨rfl, ⟨rfl, rfl, rfl, rfl, rfl, trivial⟩, H⟩
        · rintro x e σ ⟨rfl, he, H⟩
          obtain ⟨e, rfl⟩ := he.ex
          apply Runs.then
          refine Runs.regionH 6 rfl H ?_; intro b15 σ H
          refine Ops.move (v := (.v (.int .i64 1))) rfl rfl ?_
          refine Ops.move (v := (.v (.int .i64 y6))) rfl rfl ?_
          refine Ops.conv (m := y6) rfl rfl rfl rfl ?_
          refine Ops.fieldAddrH (off := 0) (fo := 1) H 0 rfl rfl rfl rfl rfl nofun rfl ?_
          refine Ops.arrAddrH (off := 1) (m := 9) (s := 1) (iv := 1) H 0 rfl rfl rfl rfl (by decide) (by decide) rfl rfl nofun rfl ?_
          refine Ops.storeH (off := 2) (v := (.v (.int .u32 (IntKind.u32.wrap y6)))) (ys := [(.v (.int .u32 (IntKind.u32.wrap y6)))]) (cells' := [(.v (.bool (decide (a < 0)))), (.v (.int .u32 y1.2)), (.v (.int .u32 (IntKind.u32.wrap y6))), (.v (.int .u32 0)), (.v (.int .u32 0)), (.v (.int .u32 0)), (.v (.int .u32 0)), (.v (.int .u32 0)), (.v (.int .u32 0)), (.v (.int .u32 0))]) H 0 rfl rfl rfl rfl rfl rfl rfl rfl rfl nofun ?_; intro σ H
          apply Ops.nil
          replace H := H.all
          refine Runs.regionH 3 rfl H ?_; intro b16 σ H
          refine Ops.move (v := (.v (.int .i64 y1.1))) rfl rfl ?_
          refine Ops.quo (m := y1.1) (m' := 65536) rfl rfl (by decide) rfl ?_
          obtain ⟨x3, q3, h⟩ := bind_some h
          refine Ops.assign (v := (.v (.int .i64 x3))) (by rw [← Option.some.inj q3]; rfl) rfl ?_
          apply Ops.nil
          replace H := H.all
          replace h := Option.some.inj h; subst h
          exact ⟨rfl, ⟨rfl, rfl, rfl, rfl, trivial⟩, H⟩
      · rintro x e σ ⟨rfl, he, H⟩
        obtain ⟨e, rfl⟩ := he.ex
        replace h := Option.some.inj h; subst h
        exact ⟨rfl, ⟨rfl, rfl, rfl, rfl, trivial⟩, H⟩
    · rintro x e σ ⟨rfl, he, H⟩
      obtain ⟨e, rfl⟩ := he.ex
      refine Runs.regionH 3 rfl H ?_; intro b17 σ H
      refine Ops.move (v := (.v (.int .i64 1))) rfl rfl ?_
      refine Ops.int (m := 1) (m' := 1) (r := .int .i64 2) rfl rfl rfl rfl rfl ?_
      refine Ops.assign (v := (.v (.int .i64 2))) rfl rfl ?_
      apply Ops.nil
      replace H := H.all
      apply Runs.again
      apply Runs.then
      apply Runs.then
      refine Runs.regionH 2 rfl H ?_; intro b18 σ H
      refine Ops.move (v := (.v (.int .i64 2))) rfl rfl ?_
      refine Ops.int (m := 2) (m' := 4) (r := .bool true) rfl rfl rfl rfl rfl ?_
      apply Ops.nil
      replace H := H.all
      refine Runs.yes rfl ?_
      apply Runs.skip
      apply Runs.then
      obtain ⟨y7, hj7, h⟩ := bind_some h
      refine Runs.mono (Q := fun x e σ => x = .normal ∧ EnvHas e [(0, (.v (.int .i64 y7.1))), (2, (.ptr (b1 + 0) 10 0)), (3, (.ptr (b2 + 3) 10 0)), (4, (.v (.int .i64 2)))] ∧ Hs σ [.blk (b2 + 3) 73 [(.v (.bool (decide (a < 0)))), (.v (.int .u32 y1.2)), (.v (.int .u32 y4.2)), (.v (.int .u32 y7.2)), (.v (.int .u32 0)), (.v (.int .u32 0)), (.v (.int .u32 0)), (.v (.int .u32 0)), (.v (.int .u32 0)), (.v (.int .u32 0))], .blk (b1 + 0) 73 [(.v (.bool false)), (.v (.int .u32 0)), (.v (.int .u32 0)), (.v (.int .u32 0)), (.v (.int .u32 0)), (.v (.int .u32 0)), (.v (.int .u32 0)), (.v (.int .u32 0)), (.v (.int .u32 0)), (.v (.int .u32 0))]]) ?_ ?_
      · replace h := hj7
        apply Runs.inBlock
        obtain ⟨y8, hj8, h⟩ := bind_some h
        refine Runs.mono (Q := fun x e σ => x = .normal ∧ EnvHas e [(0, (.v (.int .i64 y8.1))), (2, (.ptr (b1 + 0) 10 0)), (3, (.ptr (b2 + 3) 10 0)), (4, (.v (.int .i64 2)))] ∧ Hs σ [.blk (b2 + 3) 73 [(.v (.bool (decide (a < 0)))), (.v (.int .u32 y1.2)), (.v (.int .u32 y4.2)), (.v (.int .u32 y8.2)), (.v (.int .u32 0)), (.v (.int .u32 0)), (.v (.int .u32 0)), (.v (.int .u32 0)), (.v (.int .u32 0)), (.v (.int .u32 0))], .blk (b1 + 0) 73 [(.v (.bool false)), (.v (.int .u32 0)), (.v (.int .u32 0)), (.v (.int .u32 0)), (.v (.int .u32 0)), (.v (.int .u32 0)), (.v (.int .u32 0)), (.v (.int .u32 0)), (.v (.int .u32 0)), (.v (.int .u32 0))]]) ?_ ?_
        · replace h := hj8
          apply Runs.then
          refine Runs.regionH 3 rfl H ?_; intro b19 σ H
          refine Ops.move (v := (.v (.int .i64 y4.1))) rfl rfl ?_
          refine Ops.rem (m := y4.1) (m' := 65536) rfl rfl (by decide) rfl ?_
          refine Ops.assign (v := (.v (.int .i64 (y4.1.tmod 65536)))) rfl rfl ?_
          apply Ops.nil
          replace H := H.all
          apply Runs.then
          obtain ⟨y9, hj9, h⟩ := bind_some h
          refine Runs.mono (Q := fun x e σ => x = .normal ∧ EnvHas e [(0, (.v (.int .i64 y4.1))), (2, (.ptr (b1 + 0) 10 0)), (3, (.ptr (b2 + 3) 10 0)), (4, (.v (.int .i64 2))), (5, (.v (.int .i64 y9)))] ∧ Hs σ [.blk (b2 + 3) 73 [(.v (.bool (decide (a < 0)))), (.v (.int .u32 y1.2)), (.v (.int .u32 y4.2)), (.v (.int .u32 0)), (.v (.int .u32 0)), (.v (.int .u32 0)), (.v (.int .u32 0)), (.v (.int .u32 0)), (.v (.int .u32 0)), (.v (.int .u32 0))], .blk (b1 + 0) 73 [(.v (.bool false)), (.v (.int .u32 0)), (.v (.int .u32 0)), (.v (.int .u32 0)), (.v (.int .u32 0)), (.v (.int .u32 0)), (.v (.int .u32 0)), (.v (.int .u32 0)), (.v (.int .u32 0)), (.v (.int .u32 0))]]) ?_ ?_
          · replace h := hj9
            apply Runs.then
            refine Runs.regionH 2 rfl H ?_; intro b20 σ H
            refine Ops.move (v := (.v (.int .i64 (y4.1.tmod 65536)))) rfl rfl ?_
            refine Ops.int (m := (y4.1.tmod 65536)) (m' := 0) (r := .bool (decide ((y4.1.tmod 65536) < 0))) rfl rfl rfl rfl rfl ?_
            apply Ops.nil
            replace H := H.all
            refine Runs.whether (v := (decide ((y4.1.tmod 65536) < 0))) rfl ?_ ?_ <;> intro hc3
            · replace h := cond_T hc3 h
              refine Runs.regionH 3 rfl H ?_; intro b21 σ H
              refine Ops.move (v := (.v (.int .i64 (y4.1.tmod 65536)))) rfl rfl ?_
              refine Ops.neg (m := (y4.1.tmod 65536)) rfl rfl ?_
              obtain ⟨x4, q4, h⟩ := bind_some h
              refine Ops.assign (v := (.v (.int .i64 x4))) (by rw [← Option.some.inj q4]; rfl) rfl ?_
              apply Ops.nil
              replace H := H.all
              replace h := Option.some.inj h; subst h
              exact ⟨rfl, ⟨rfl, rfl, rfl, rfl, rfl, trivial⟩, H⟩
            · replace h := cond_F hc3 h
              apply Runs.skip
              replace h := Option.some.inj h; subst h
              exact ⟨rfl, ⟨rfl, rfl, rfl, rfl, rfl, trivial⟩, H⟩
          · rintro x e σ ⟨rfl, he, H⟩
            obtain ⟨e, rfl⟩ := he.ex
            apply Runs.then
            refine Runs.regionH 6 rfl H ?_; intro b22 σ H
            refine Ops.move (v := (.v (.int .i64 2))) rfl rfl ?_
            refine Ops.move (v := (.v (.int .i64 y9))) rfl rfl ?_
            refine Ops.conv (m := y9) rfl rfl rfl rfl ?_
            refine Ops.fieldAddrH (off := 0) (fo := 1) H 0 rfl rfl rfl rfl rfl nofun rfl ?_
            refine Ops.arrAddrH (off := 1) (m := 9) (s := 1) (iv := 2) H 0 rfl rfl rfl rfl (by decide) (by decide) rfl rfl nofun rfl ?_
            refine Ops.storeH (off := 3) (v := (.v (.int .u32 (IntKind.u32.wrap y9)))) (ys := [(.v (.int .u32 (IntKind.u32.wrap y9)))]) (cells' := [(.v (.bool (decide (a < 0)))), (.v (.int .u32 y1.2)), (.v (.int .u32 y4.2)), (.v (.int .u32 (IntKind.u32.wrap y9))), (.v (.int .u32 0)), (.v (.int .u32 0)), (.v (.int .u32 0)), (.v (.int .u32 0)), (.v (.int .u32 0)), (.v (.int .u32 0))]) H 0 rfl rfl rfl rfl rfl rfl rfl rfl rfl nofun ?_; intro σ H
            apply Ops.nil
            replace H := H.all
            refine Runs.regionH 3 rfl H ?_; intro b23 σ H
            refine Ops.move (v := (.v (.int .i64 y4.1))) rfl rfl ?_
            refine Ops.quo (m := y4.1) (m' := 65536) rfl rfl (by decide) rfl ?_
            obtain ⟨x5, q5, h⟩ := bind_some h
            refine Ops.assign (v := (.v (.int .i64 x5))) (by rw [← Option.some.inj q5]; rfl) rfl ?_
            apply Ops.nil
            replace H := H.all
            replace h := Option.some.inj h; subst h
            exact ⟨rfl, ⟨rfl, rfl, rfl, rfl, trivial⟩, H⟩
        · rintro x e σ ⟨rfl, he, H⟩
          obtain ⟨e, rfl⟩ := he.ex
          replace h := Option.some.inj h; subst h
          exact ⟨rfl, ⟨rfl, rfl, rfl, rfl, trivial⟩, H⟩
      · rintro x e σ ⟨rfl, he, H⟩
        obtain ⟨e, rfl⟩ := he.ex
        refine Runs.regionH 3 rfl H ?_; intro b24 σ H
        refine Ops.move (v := (.v (.int .i64 2))) rfl rfl ?_
        refine Ops.int (m := 2) (m' := 1) (r := .int .i64 3) rfl rfl rfl rfl rfl ?_
        refine Ops.assign (v := (.v (.int .i64 3))) rfl rfl ?_
        apply Ops.nil
        replace H := H.all
        apply Runs.again
        apply Runs.then
        apply Runs.then
        refine Runs.regionH 2 rfl H ?_; intro b25 σ H
        refine Ops.move (v := (.v (.int .i64 3))) rfl rfl ?_
        refine Ops.int (m := 3) (m' := 4) (r := .bool true) rfl rfl rfl rfl rfl ?_
        apply Ops.nil
        replace H := H.all
        refine Runs.yes rfl ?_
        apply Runs.skip
        apply Runs.then
        obtain ⟨y10, hj10, h⟩ := bind_some h
        refine Runs.mono (Q := fun x e σ => x = .normal ∧ EnvHas e [(0, (.v (.int .i64 y10.1))), (2, (.ptr (b1 + 0) 10 0)), (3, (.ptr (b2 + 3) 10 0)), (4, (.v (.int .i64 3)))] ∧ Hs σ [.blk (b2 + 3) 73 [(.v (.bool (decide (a < 0)))), (.v (.int .u32 y1.2)), (.v (.int .u32 y4.2)), (.v (.int .u32 y7.2)), (.v (.int .u32 y10.2)), (.v (.int .u32 0)), (.v (.int .u32 0)), (.v (.int .u32 0)), (.v (.int .u32 0)), (.v (.int .u32 0))], .blk (b1 + 0) 73 [(.v (.bool false)), (.v (.int .u32 0)), (.v (.int .u32 0)), (.v (.int .u32 0)), (.v (.int .u32 0)), (.v (.int .u32 0)), (.v (.int .u32 0)), (.v (.int .u32 0)), (.v (.int .u32 0)), (.v (.int .u32 0))]]) ?_ ?_
        · replace h := hj10
          apply Runs.inBlock
          obtain ⟨y11, hj11, h⟩ := bind_some h
          refine Runs.mono (Q := fun x e σ => x = .normal ∧ EnvHas e [(0, (.v (.int .i64 y11.1))), (2, (.ptr (b1 + 0) 10 0)), (3, (.ptr (b2 + 3) 10 0)), (4, (.v (.int .i64 3)))] ∧ Hs σ [.blk (b2 + 3) 73 [(.v (.bool (decide (a < 0)))), (.v (.int .u32 y1.2)), (.v (.int .u32 y4.2)), (.v (.int .u32 y7.2)), (.v (.int .u32 y11.2)), (.v (.int .u32 0)), (.v (.int .u32 0)), (.v (.int .u32 0)), (.v (.int .u32 0)), (.v (.int .u32 0))], .blk (b1 + 0) 73 [(.v (.bool false)), (.v (.int .u32 0)), (.v (.int .u32 0)), (.v (.int .u32 0)), (.v (.int .u32 0)), (.v (.int .u32 0)), (.v (.int .u32 0)), (.v (.int .u32 0)), (.v (.int .u32 0)), (.v (.int .u32 0))]]) ?_ ?_
          · replace h := hj11
            apply Runs.then
            refine Runs.regionH 3 rfl H ?_; intro b26 σ H
            refine Ops.move (v := (.v (.int .i64 y7.1))) rfl rfl ?_
            refine Ops.rem (m := y7.1) (m' := 65536) rfl rfl (by decide) rfl ?_
            refine Ops.assign (v := (.v (.int .i64 (y7.1.tmod 65536)))) rfl rfl ?_
            apply Ops.nil
            replace H := H.all
            apply Runs.then
            obtain ⟨y12, hj12, h⟩ := bind_some h
            refine Runs.mono (Q := fun x e σ => x = .normal ∧ EnvHas e [(0, (.v (.int .i64 y7.1))), (2, (.ptr (b1 + 0) 10 0)), (3, (.ptr (b2 + 3) 10 0)), (4, (.v (.int .i64 3))), (5, (.v (.int .i64 y12)))] ∧ Hs σ [.blk (b2 + 3) 73 [(.v (.bool (decide (a < 0)))), (.v (.int .u32 y1.2)), (.v (.int .u32 y4.2)), (.v (.int .u32 y7.2)), (.v (.int .u32 0)), (.v (.int .u32 0)), (.v (.int .u32 0)), (.v (.int .u32 0)), (.v (.int .u32 0)), (.v (.int .u32 0))], .blk (b1 + 0) 73 [(.v (.bool false)), (.v (.int .u32 0)), (.v (.int .u32 0)), (.v (.int .u32 0)), (.v (.int .u32 0)), (.v (.int .u32 0)), (.v (.int .u32 0)), (.v (.int .u32 0)), (.v (.int .u32 0)), (.v (.int .u32 0))]]) ?_ ?_
            · replace h := hj12
              apply Runs.then
              refine Runs.regionH 2 rfl H ?_; intro b27 σ H
              refine Ops.move (v := (.v (.int .i64 (y7.1.tmod 65536)))) rfl rfl ?_
              refine Ops.int (m := (y7.1.tmod 65536)) (m' := 0) (r := .bool (decide ((y7.1.tmod 65536) < 0))) rfl rfl rfl rfl rfl ?_
              apply Ops.nil
              replace H := H.all
              refine Runs.whether (v := (decide ((y7.1.tmod 65536) < 0))) rfl ?_ ?_ <;> intro hc4
              · replace h := cond_T hc4 h
                refine Runs.regionH 3 rfl H ?_; intro b28 σ H
                refine Ops.move (v := (.v (.int .i64 (y7.1.tmod 65536)))) rfl rfl ?_
                refine Ops.neg (m := (y7.1.tmod 65536)) rfl rfl ?_
                obtain ⟨x6, q6, h⟩ := bind_some h
                refine Ops.assign (v := (.v (.int .i64 x6))) (by rw [← Option.some.inj q6]; rfl) rfl ?_
                apply Ops.nil
                replace H := H.all
                replace h := Option.some.inj h; subst h
                exact ⟨rfl, ⟨rfl, rfl, rfl, rfl, rfl, trivial⟩, H⟩
              · replace h := cond_F hc4 h
                apply Runs.skip
                replace h := Option.some.inj h; subst h
                exact ⟨rfl, ⟨rfl, rfl, rfl, rfl, rfl, trivial⟩, H⟩
            · rintro x e σ ⟨rfl, he, H⟩
              obtain ⟨e, rfl⟩ := he.ex
              apply Runs.then
              refine Runs.regionH 6 rfl H ?_; intro b29 σ H
              refine Ops.move (v := (.v (.int .i64 3))) rfl rfl ?_
              refine Ops.move (v := (.v (.int .i64 y12))) rfl rfl ?_
              refine Ops.conv (m := y12) rfl rfl rfl rfl ?_
              refine Ops.fieldAddrH (off := 0) (fo := 1) H 0 rfl rfl rfl rfl rfl nofun rfl ?_
              refine Ops.arrAddrH (off := 1) (m := 9) (s := 1) (iv := 3) H 0 rfl rfl rfl rfl (by decide) (by decide) rfl rfl nofun rfl ?_
              refine Ops.storeH (off := 4) (v := (.v (.int .u32 (IntKind.u32.wrap y12)))) (ys := [(.v (.int .u32 (IntKind.u32.wrap y12)))]) (cells' := [(.v (.bool (decide (a < 0)))), (.v (.int .u32 y1.2)), (.v (.int .u32 y4.2)), (.v (.int .u32 y7.2)), (.v (.int .u32 (IntKind.u32.wrap y12))), (.v (.int .u32 0)), (.v (.int .u32 0)), (.v (.int .u32 0)), (.v (.int .u32 0)), (.v (.int .u32 0))]) H 0 rfl rfl rfl rfl rfl rfl rfl rfl rfl nofun ?_; intro σ H
              apply Ops.nil
              replace H := H.all
              refine Runs.regionH 3 rfl H ?_; intro b30 σ H
              refine Ops.move (v := (.v (.int .i64 y7.1))) rfl rfl ?_
              refine Ops.quo (m := y7.1) (m' := 65536) rfl rfl (by decide) rfl ?_
              obtain ⟨x7, q7, h⟩ := bind_some h
              refine Ops.assign (v := (.v (.int .i64 x7))) (by rw [← Option.some.inj q7]; rfl) rfl ?_
              apply Ops.nil
              replace H := H.all
              replace h := Option.some.inj h; subst h
              exact ⟨rfl, ⟨rfl, rfl, rfl, rfl, trivial⟩, H⟩
          · rintro x e σ ⟨rfl, he, H⟩
            obtain ⟨e, rfl⟩ := he.ex
            replace h := Option.some.inj h; subst h
            exact ⟨rfl, ⟨rfl, rfl, rfl, rfl, trivial⟩, H⟩
        · rintro x e σ ⟨rfl, he, H⟩
          obtain ⟨e, rfl⟩ := he.ex
          refine Runs.regionH 3 rfl H ?_; intro b31 σ H
          refine Ops.move (v := (.v (.int .i64 3))) rfl rfl ?_
          refine Ops.int (m := 3) (m' := 1) (r := .int .i64 4) rfl rfl rfl rfl rfl ?_
          refine Ops.assign (v := (.v (.int .i64 4))) rfl rfl ?_
          apply Ops.nil
          replace H := H.all
          apply Runs.again
          apply Runs.then
          apply Runs.then
          refine Runs.regionH 2 rfl H ?_; intro b32 σ H
          refine Ops.move (v := (.v (.int .i64 4))) rfl rfl ?_
          refine Ops.int (m := 4) (m' := 4) (r := .bool false) rfl rfl rfl rfl rfl ?_
          apply Ops.nil
          replace H := H.all
          refine Runs.no rfl ?_
          apply Runs.exit
          apply Runs.then
          refine Runs.regionH 2 rfl H ?_; intro b33 σ H
          refine Ops.loadHA (off := 0) (cs := [(.v (.bool (decide (a < 0)))), (.v (.int .u32 y1.2)), (.v (.int .u32 y4.2)), (.v (.int .u32 y7.2)), (.v (.int .u32 y10.2)), (.v (.int .u32 0)), (.v (.int .u32 0)), (.v (.int .u32 0)), (.v (.int .u32 0)), (.v (.int .u32 0))]) H 0 rfl rfl rfl rfl rfl rfl rfl nofun rfl ?_
          refine Ops.storeH (off := 0) (v := (.agg [(.v (.bool (decide (a < 0)))), (.v (.int .u32 y1.2)), (.v (.int .u32 y4.2)), (.v (.int .u32 y7.2)), (.v (.int .u32 y10.2)), (.v (.int .u32 0)), (.v (.int .u32 0)), (.v (.int .u32 0)), (.v (.int .u32 0)), (.v (.int .u32 0))])) (ys := [(.v (.bool (decide (a < 0)))), (.v (.int .u32 y1.2)), (.v (.int .u32 y4.2)), (.v (.int .u32 y7.2)), (.v (.int .u32 y10.2)), (.v (.int .u32 0)), (.v (.int .u32 0)), (.v (.int .u32 0)), (.v (.int .u32 0)), (.v (.int .u32 0))]) (cells' := [(.v (.bool (decide (a < 0)))), (.v (.int .u32 y1.2)), (.v (.int .u32 y4.2)), (.v (.int .u32 y7.2)), (.v (.int .u32 y10.2)), (.v (.int .u32 0)), (.v (.int .u32 0)), (.v (.int .u32 0)), (.v (.int .u32 0)), (.v (.int .u32 0))]) H 1 rfl rfl rfl rfl rfl rfl rfl rfl rfl nofun ?_; intro σ H
          apply Ops.nil
          replace H := H.all
          apply Runs.ret
          replace h := Option.some.inj h; subst h
          exact (Ends.H (xs := [(.agg [(.v (.bool (decide (a < 0)))), (.v (.int .u32 y1.2)), (.v (.int .u32 y4.2)), (.v (.int .u32 y7.2)), (.v (.int .u32 y10.2)), (.v (.int .u32 0)), (.v (.int .u32 0)), (.v (.int .u32 0)), (.v (.int .u32 0)), (.v (.int .u32 0))])]) (.inr rfl) H (.agg (cs := [(.v (.bool (decide (a < 0)))), (.v (.int .u32 y1.2)), (.v (.int .u32 y4.2)), (.v (.int .u32 y7.2)), (.v (.int .u32 y10.2)), (.v (.int .u32 0)), (.v (.int .u32 0)), (.v (.int .u32 0)), (.v (.int .u32 0)), (.v (.int .u32 0))]) (off := 0) 1 rfl rfl rfl rfl rfl rfl rfl .nil) (.one (.p rfl)))

set_option maxRecDepth 100000 in
set_option maxHeartbeats 4000000 in
theorem epactref01_more_fn {a : Arr9_u32} {b : Arr9_u32} {r : Arr9_u32} (h : epactref01_more a b = some r) : Fn CX 73 [(.agg (vs (Arr9_u32.cs a))), (.agg (vs (Arr9_u32.cs b)))] (.agg (vs (Arr9_u32.cs r))) := by
  refine Fn.ends Try.func73 rfl rfl rfl rfl rfl rfl ?_
  have H : Hs (⟨0, fun _ => .none⟩ : Heap) [] := Has.nil (Nat.le_refl _)
  generalize (⟨0, fun _ => .none⟩ : Heap) = σ at H ⊢
  unfold epactref01_more at h
  apply Runs.then
  refine Runs.regionH 3 rfl H ?_; intro b1 σ H
  refine Ops.boxH (v := (.agg [(.v (.int .u32 a.d0)), (.v (.int .u32 a.d1)), (.v (.int .u32 a.d2)), (.v (.int .u32 a.d3)), (.v (.int .u32 a.d4)), (.v (.int .u32 a.d5)), (.v (.int .u32 a.d6)), (.v (.int .u32 a.d7)), (.v (.int .u32 a.d8))])) (cs := [(.v (.int .u32 a.d0)), (.v (.int .u32 a.d1)), (.v (.int .u32 a.d2)), (.v (.int .u32 a.d3)), (.v (.int .u32 a.d4)), (.v (.int .u32 a.d5)), (.v (.int .u32 a.d6)), (.v (.int .u32 a.d7)), (.v (.int .u32 a.d8))]) H (by omega) (by omega) rfl rfl rfl ?_; intro σ H
  refine Ops.boxH (v := (.agg [(.v (.int .u32 b.d0)), (.v (.int .u32 b.d1)), (.v (.int .u32 b.d2)), (.v (.int .u32 b.d3)), (.v (.int .u32 b.d4)), (.v (.int .u32 b.d5)), (.v (.int .u32 b.d6)), (.v (.int .u32 b.d7)), (.v (.int .u32 b.d8))])) (cs := [(.v (.int .u32 b.d0)), (.v (.int .u32 b.d1)), (.v (.int .u32 b.d2)), (.v (.int .u32 b.d3)), (.v (.int .u32 b.d4)), (.v (.int .u32 b.d5)), (.v (.int .u32 b.d6)), (.v (.int .u32 b.d7)), (.v (.int .u32 b.d8))]) H (by omega) (by omega) rfl rfl rfl ?_; intro σ H
  refine Ops.allocH (cs := [(.v (.int .u32 0)), (.v (.int .u32 0)), (.v (.int .u32 0)), (.v (.int .u32 0)), (.v (.int .u32 0)), (.v (.int .u32 0)), (.v (.int .u32 0)), (.v (.int .u32 0)), (.v (.int .u32 0))]) H (by omega) (by omega) rfl rfl ?_; intro σ H
  apply Ops.nil
  replace H := H.all
  apply Runs.then
  refine Runs.regionH 1 rfl H ?_; intro b2 σ H
  refine Ops.allocH (cs := [(.v (.int .u32 0)), (.v (.int .u32 0)), (.v (.int .u32 0)), (.v (.int .u32 0)), (.v (.int .u32 0)), (.v (.int .u32 0)), (.v (.int .u32 0)), (.v (.int .u32 0)), (.v (.int .u32 0))]) H (by omega) (by omega) rfl rfl ?_; intro σ H
  apply Ops.nil
  replace H := H.all
  apply Runs.then
  refine Runs.regionH 1 rfl H ?_; intro b3 σ H
  refine Ops.assign (v := (.v (.int .u32 0))) rfl rfl ?_
  apply Ops.nil
  replace H := H.all
  apply Runs.then
  apply Runs.then
  refine Runs.regionH 1 rfl H ?_; intro b4 σ H
  refine Ops.assign (v := (.v (.int .i64 0))) rfl rfl ?_
  apply Ops.nil
  replace H := H.all
  apply Runs.inBlock
  apply Runs.again
  apply Runs.then
  apply Runs.then
  refine Runs.regionH 2 rfl H ?_; intro b5 σ H
  refine Ops.move (v := (.v (.int .i64 0))) rfl rfl ?_
  refine Ops.int (m := 0) (m' := 9) (r := .bool true) rfl rfl rfl rfl rfl ?_
  apply Ops.nil
  replace H := H.all
  refine Runs.yes rfl ?_
  apply Runs.skip
  apply Runs.then
  apply Runs.inBlock
  apply Runs.then
  refine Runs.drawnH 10 rfl (by kernel_rfl) H ?_; intro b6 σ H B6
  refine Ops.move (v := (.v (.int .i64 0))) rfl rfl ?_
  refine Ops.arrAddrH (off := 0) (m := 9) (s := 1) (iv := 0) H 3 rfl rfl rfl rfl (by decide) (by decide) rfl rfl (fun _ => .inl ⟨B6 3 _ rfl _ rfl, nofun⟩) rfl ?_
  refine Ops.loadH (off := 0) (v := (.v (.int .u32 a.d0))) H 3 rfl rfl rfl rfl rfl (fun _ => .inl ⟨B6 3 _ rfl _ rfl, nofun⟩) rfl ?_
  refine Ops.move (v := (.v (.int .i64 0))) rfl rfl ?_
  refine Ops.arrAddrH (off := 0) (m := 9) (s := 1) (iv := 0) H 2 rfl rfl rfl rfl (by decide) (by decide) rfl rfl (fun _ => .inl ⟨B6 2 _ rfl _ rfl, nofun⟩) rfl ?_
  refine Ops.loadH (off := 0) (v := (.v (.int .u32 b.d0))) H 2 rfl rfl rfl rfl rfl (fun _ => .inl ⟨B6 2 _ rfl _ rfl, nofun⟩) rfl ?_
  refine Ops.int (m := a.d0) (m' := b.d0) (r := .int .u32 (IntKind.u32.wrap (a.d0 + b.d0))) rfl rfl rfl rfl rfl ?_
  refine Ops.move (v := (.v (.int .u32 0))) rfl rfl ?_
  refine Ops.int (m := (IntKind.u32.wrap (a.d0 + b.d0))) (m' := 0) (r := .int .u32 (IntKind.u32.wrap ((IntKind.u32.wrap (a.d0 + b.d0)) + 0))) rfl rfl rfl rfl rfl ?_
  obtain ⟨x1, q1, h⟩ := bind_some h
  refine Ops.assign (v := (.v (.int .u32 x1))) (by rw [← Option.some.inj q1]; rfl) rfl ?_
  apply Ops.nil
  replace H := H.all
  apply Runs.then
  refine Runs.regionH 5 rfl H ?_; intro b7 σ H
  refine Ops.move (v := (.v (.int .i64 0))) rfl rfl ?_
  refine Ops.move (v := (.v (.int .u32 x1))) rfl rfl ?_
  refine Ops.rem (m := x1) (m' := 65536) rfl rfl (by decide) rfl ?_
  refine Ops.arrAddrH (off := 0) (m := 9) (s := 1) (iv := 0) H 0 rfl rfl rfl rfl (by decide) (by decide) rfl rfl nofun rfl ?_
  refine Ops.storeH (off := 0) (v := (.v (.int .u32 (x1.tmod 65536)))) (ys := [(.v (.int .u32 (x1.tmod 65536)))]) (cells' := [(.v (.int .u32 (x1.tmod 65536))), (.v (.int .u32 0)), (.v (.int .u32 0)), (.v (.int .u32 0)), (.v (.int .u32 0)), (.v (.int .u32 0)), (.v (.int .u32 0)), (.v (.int .u32 0)), (.v (.int .u32 0))]) H 0 rfl rfl rfl rfl rfl rfl rfl rfl rfl nofun ?_; intro σ H
  apply Ops.nil
  replace H := H.all
  refine Runs.regionH 3 rfl H ?_; intro b8 σ H
  refine Ops.move (v := (.v (.int .u32 x1))) rfl rfl ?_
  refine Ops.quo (m := x1) (m' := 65536) rfl rfl (by decide) rfl ?_
  obtain ⟨x2, q2, h⟩ := bind_some h
  refine Ops.assign (v := (.v (.int .u32 x2))) (by rw [← Option.some.inj q2]; rfl) rfl ?_
  apply Ops.nil
  replace H := H.all
  refine Runs.regionH 3 rfl H ?_; intro b9 σ H
  refine Ops.move (v := (.v (.int .i64 0))) rfl rfl ?_
  refine Ops.int (m := 0) (m' := 1) (r := .int .i64 1) rfl rfl rfl rfl rfl ?_
  refine Ops.assign (v := (.v (.int .i64 1))) rfl rfl ?_
  apply Ops.nil
  replace H := H.all
  apply Runs.again
  apply Runs.then
  apply Runs.then
  refine Runs.regionH 2 rfl H ?_; intro b10 σ H
  refine Ops.move (v := (.v (.int .i64 1))) rfl rfl ?_
  refine Ops.int (m := 1) (m' := 9) (r := .bool true) rfl rfl rfl rfl rfl ?_
  apply Ops.nil
  replace H := H.all
  refine Runs.yes rfl ?_
  apply Runs.skip
  apply Runs.then
  apply Runs.inBlock
  apply Runs.then
  refine Runs.drawnH 10 rfl (by kernel_rfl) H ?_; intro b11 σ H B11
  refine Ops.move (v := (.v (.int .i64 1))) rfl rfl ?_
  refine Ops.arrAddrH (off := 0) (m := 9) (s := 1) (iv := 1) H 3 rfl rfl rfl rfl (by decide) (by decide) rfl rfl (fun _ => .inl ⟨B11 3 _ rfl _ rfl, nofun⟩) rfl ?_
  refine Ops.loadH (off := 1) (v := (.v (.int .u32 a.d1))) H 3 rfl rfl rfl rfl rfl (fun _ => .inl ⟨B11 3 _ rfl _ rfl, nofun⟩) rfl ?_
  refine Ops.move (v := (.v (.int .i64 1))) rfl rfl ?_
  refine Ops.arrAddrH (off := 0) (m := 9) (s := 1) (iv := 1) H 2 rfl rfl rfl rfl (by decide) (by decide) rfl rfl (fun _ => .inl ⟨B11 2 _ rfl _ rfl, nofun⟩) rfl ?_
  refine Ops.loadH (off := 1) (v := (.v (.int .u32 b.d1))) H 2 rfl rfl rfl rfl rfl (fun _ => .inl ⟨B11 2 _ rfl _ rfl, nofun⟩) rfl ?_
  refine Ops.int (m := a.d1) (m' := b.d1) (r := .int .u32 (IntKind.u32.wrap (a.d1 + b.d1))) rfl rfl rfl rfl rfl ?_
  refine Ops.move (v := (.v (.int .u32 x2))) rfl rfl ?_
  refine Ops.int (m := (IntKind.u32.wrap (a.d1 + b.d1))) (m' := x2) (r := .int .u32 (IntKind.u32.wrap ((IntKind.u32.wrap (a.d1 + b.d1)) + x2))) rfl rfl rfl rfl rfl ?_
  obtain ⟨x3, q3, h⟩ := bind_some h
  refine Ops.assign (v := (.v (.int .u32 x3))) (by rw [← Option.some.inj q3]; rfl) rfl ?_
  apply Ops.nil
  replace H := H.all
  apply Runs.then
  refine Runs.regionH 5 rfl H ?_; intro b12 σ H
  refine Ops.move (v := (.v (.int .i64 1))) rfl rfl ?_
  refine Ops.move (v := (.v (.int .u32 x3))) rfl rfl ?_
  refine Ops.rem (m := x3) (m' := 65536) rfl rfl (by decide) rfl ?_
  refine Ops.arrAddrH (off := 0) (m := 9) (s := 1) (iv := 1) H 0 rfl rfl rfl rfl (by decide) (by decide) rfl rfl nofun rfl ?_
  refine Ops.storeH (off := 1) (v := (.v (.int .u32 (x3.tmod 65536)))) (ys := [(.v (.int .u32 (x3.tmod 65536)))]) (cells' := [(.v (.int .u32 (x1.tmod 65536))), (.v (.int .u32 (x3.tmod 65536))), (.v (.int .u32 0)), (.v (.int .u32 0)), (.v (.int .u32 0)), (.v (.int .u32 0)), (.v (.int .u32 0)), (.v (.int .u32 0)), (.v (.int .u32 0))]) H 0 rfl rfl rfl rfl rfl rfl rfl rfl rfl nofun ?_; intro σ H
  apply Ops.nil
  replace H := H.all
  refine Runs.regionH 3 rfl H ?_; intro b13 σ H
  refine Ops.move (v := (.v (.int .u32 x3))) rfl rfl ?_
  refine Ops.quo (m := x3) (m' := 65536) rfl rfl (by decide) rfl ?_
  obtain ⟨x4, q4, h⟩ := bind_some h
  refine Ops.assign (v := (.v (.int .u32 x4))) (by rw [← Option.some.inj q4]; rfl) rfl ?_
  apply Ops.nil
  replace H := H.all
  refine Runs.regionH 3 rfl H ?_; intro b14 σ H
  refine Ops.move (v := (.v (.int .i64 1))) rfl rfl ?_
  refine Ops.int (m := 1) (m' := 1) (r := .int .i64 2) rfl rfl rfl rfl rfl ?_
  refine Ops.assign (v := (.v (.int .i64 2))) rfl rfl ?_
  apply Ops.nil
  replace H := H.all
  apply Runs.again
  apply Runs.then
  apply Runs.then
  refine Runs.regionH 2 rfl H ?_; intro b15 σ H
  refine Ops.move (v := (.v (.int .i64 2))) rfl rfl ?_
  refine Ops.int (m := 2) (m' := 9) (r := .bool true) rfl rfl rfl rfl rfl ?_
  apply Ops.nil
  replace H := H.all
  refine Runs.yes rfl ?_
  apply Runs.skip
  apply Runs.then
  apply Runs.inBlock
  apply Runs.then
  refine Runs.drawnH 10 rfl (by kernel_rfl) H ?_; intro b16 σ H B16
  refine Ops.move (v := (.v (.int .i64 2))) rfl rfl ?_
  refine Ops.arrAddrH (off := 0) (m := 9) (s := 1) (iv := 2) H 3 rfl rfl rfl rfl (by decide) (by decide) rfl rfl (fun _ => .inl ⟨B16 3 _ rfl _ rfl, nofun⟩) rfl ?_
  refine Ops.loadH (off := 2) (v := (.v (.int .u32 a.d2))) H 3 rfl rfl rfl rfl rfl (fun _ => .inl ⟨B16 3 _ rfl _ rfl, nofun⟩) rfl ?_
  refine Ops.move (v := (.v (.int .i64 2))) rfl rfl ?_
  refine Ops.arrAddrH (off := 0) (m := 9) (s := 1) (iv := 2) H 2 rfl rfl rfl rfl (by decide) (by decide) rfl rfl (fun _ => .inl ⟨B16 2 _ rfl _ rfl, nofun⟩) rfl ?_
  refine Ops.loadH (off := 2) (v := (.v (.int .u32 b.d2))) H 2 rfl rfl rfl rfl rfl (fun _ => .inl ⟨B16 2 _ rfl _ rfl, nofun⟩) rfl ?_
  refine Ops.int (m := a.d2) (m' := b.d2) (r := .int .u32 (IntKind.u32.wrap (a.d2 + b.d2))) rfl rfl rfl rfl rfl ?_
  refine Ops.move (v := (.v (.int .u32 x4))) rfl rfl ?_
  refine Ops.int (m := (IntKind.u32.wrap (a.d2 + b.d2))) (m' := x4) (r := .int .u32 (IntKind.u32.wrap ((IntKind.u32.wrap (a.d2 + b.d2)) + x4))) rfl rfl rfl rfl rfl ?_
  obtain ⟨x5, q5, h⟩ := bind_some h
  refine Ops.assign (v := (.v (.int .u32 x5))) (by rw [← Option.some.inj q5]; rfl) rfl ?_
  apply Ops.nil
  replace H := H.all
  apply Runs.then
  refine Runs.regionH 5 rfl H ?_; intro b17 σ H
  refine Ops.move (v := (.v (.int .i64 2))) rfl rfl ?_
  refine Ops.move (v := (.v (.int .u32 x5))) rfl rfl ?_
  refine Ops.rem (m := x5) (m' := 65536) rfl rfl (by decide) rfl ?_
  refine Ops.arrAddrH (off := 0) (m := 9) (s := 1) (iv := 2) H 0 rfl rfl rfl rfl (by decide) (by decide) rfl rfl nofun rfl ?_
  refine Ops.storeH (off := 2) (v := (.v (.int .u32 (x5.tmod 65536)))) (ys := [(.v (.int .u32 (x5.tmod 65536)))]) (cells' := [(.v (.int .u32 (x1.tmod 65536))), (.v (.int .u32 (x3.tmod 65536))), (.v (.int .u32 (x5.tmod 65536))), (.v (.int .u32 0)), (.v (.int .u32 0)), (.v (.int .u32 0)), (.v (.int .u32 0)), (.v (.int .u32 0)), (.v (.int .u32 0))]) H 0 rfl rfl rfl rfl rfl rfl rfl rfl rfl nofun ?_; intro σ H
  apply Ops.nil
  replace H := H.all
  refine Runs.regionH 3 rfl H ?_; intro b18 σ H
  refine Ops.move (v := (.v (.int .u32 x5))) rfl rfl ?_
  refine Ops.quo (m := x5) (m' := 65536) rfl rfl (by decide) rfl ?_
  obtain ⟨x6, q6, h⟩ := bind_some h
  refine Ops.assign (v := (.v (.int .u32 x6))) (by rw [← Option.some.inj q6]; rfl) rfl ?_
  apply Ops.nil
  replace H := H.all
  refine Runs.regionH 3 rfl H ?_; intro b19 σ H
  refine Ops.move (v := (.v (.int .i64 2))) rfl rfl ?_
  refine Ops.int (m := 2) (m' := 1) (r := .int .i64 3) rfl rfl rfl rfl rfl ?_
  refine Ops.assign (v := (.v (.int .i64 3))) rfl rfl ?_
  apply Ops.nil
  replace H := H.all
  apply Runs.again
  apply Runs.then
  apply Runs.then
  refine Runs.regionH 2 rfl H ?_; intro b20 σ H
  refine Ops.move (v := (.v (.int .i64 3))) rfl rfl ?_
  refine Ops.int (m := 3) (m' := 9) (r := .bool true) rfl rfl rfl rfl rfl ?_
  apply Ops.nil
  replace H := H.all
  refine Runs.yes rfl ?_
  apply Runs.skip
  apply Runs.then
  apply Runs.inBlock
  apply Runs.then
  refine Runs.drawnH 10 rfl (by kernel_rfl) H ?_; intro b21 σ H B21
  refine Ops.move (v := (.v (.int .i64 3))) rfl rfl ?_
  refine Ops.arrAddrH (off := 0) (m := 9) (s := 1) (iv := 3) H 3 rfl rfl rfl rfl (by decide) (by decide) rfl rfl (fun _ => .inl ⟨B21 3 _ rfl _ rfl, nofun⟩) rfl ?_
  refine Ops.loadH (off := 3) (v := (.v (.int .u32 a.d3))) H 3 rfl rfl rfl rfl rfl (fun _ => .inl ⟨B21 3 _ rfl _ rfl, nofun⟩) rfl ?_
  refine Ops.move (v := (.v (.int .i64 3))) rfl rfl ?_
  refine Ops.arrAddrH (off := 0) (m := 9) (s := 1) (iv := 3) H 2 rfl rfl rfl rfl (by decide) (by decide) rfl rfl (fun _ => .inl ⟨B21 2 _ rfl _ rfl, nofun⟩) rfl ?_
  refine Ops.loadH (off := 3) (v := (.v (.int .u32 b.d3))) H 2 rfl rfl rfl rfl rfl (fun _ => .inl ⟨B21 2 _ rfl _ rfl, nofun⟩) rfl ?_
  refine Ops.int (m := a.d3) (m' := b.d3) (r := .int .u32 (IntKind.u32.wrap (a.d3 + b.d3))) rfl rfl rfl rfl rfl ?_
  refine Ops.move (v := (.v (.int .u32 x6))) rfl rfl ?_
  refine Ops.int (m := (IntKind.u32.wrap (a.d3 + b.d3))) (m' := x6) (r := .int .u32 (IntKind.u32.wrap ((IntKind.u32.wrap (a.d3 + b.d3)) + x6))) rfl rfl rfl rfl rfl ?_
  obtain ⟨x7, q7, h⟩ := bind_some h
  refine Ops.assign (v := (.v (.int .u32 x7))) (by rw [← Option.some.inj q7]; rfl) rfl ?_
  apply Ops.nil
  replace H := H.all
  apply Runs.then
  refine Runs.regionH 5 rfl H ?_; intro b22 σ H
  refine Ops.move (v := (.v (.int .i64 3))) rfl rfl ?_
  refine Ops.move (v := (.v (.int .u32 x7))) rfl rfl ?_
  refine Ops.rem (m := x7) (m' := 65536) rfl rfl (by decide) rfl ?_
  refine Ops.arrAddrH (off := 0) (m := 9) (s := 1) (iv := 3) H 0 rfl rfl rfl rfl (by decide) (by decide) rfl rfl nofun rfl ?_
  refine Ops.storeH (off := 3) (v := (.v (.int .u32 (x7.tmod 65536)))) (ys := [(.v (.int .u32 (x7.tmod 65536)))]) (cells' := [(.v (.int .u32 (x1.tmod 65536))), (.v (.int .u32 (x3.tmod 65536))), (.v (.int .u32 (x5.tmod 65536))), (.v (.int .u32 (x7.tmod 65536))), (.v (.int .u32 0)), (.v (.int .u32 0)), (.v (.int .u32 0)), (.v (.int .u32 0)), (.v (.int .u32 0))]) H 0 rfl rfl rfl rfl rfl rfl rfl rfl rfl nofun ?_; intro σ H
  apply Ops.nil
  replace H := H.all
  refine Runs.regionH 3 rfl H ?_; intro b23 σ H
  refine Ops.move (v := (.v (.int .u32 x7))) rfl rfl ?_
  refine Ops.quo (m := x7) (m' := 65536) rfl rfl (by decide) rfl ?_
  obtain ⟨x8, q8, h⟩ := bind_some h
  refine Ops.assign (v := (.v (.int .u32 x8))) (by rw [← Option.some.inj q8]; rfl) rfl ?_
  apply Ops.nil
  replace H := H.all
  refine Runs.regionH 3 rfl H ?_; intro b24 σ H
  refine Ops.move (v := (.v (.int .i64 3))) rfl rfl ?_
  refine Ops.int (m := 3) (m' := 1) (r := .int .i64 4) rfl rfl rfl rfl rfl ?_
  refine Ops.assign (v := (.v (.int .i64 4))) rfl rfl ?_
  apply Ops.nil
  replace H := H.all
  apply Runs.again
  apply Runs.then
  apply Runs.then
  refine Runs.regionH 2 rfl H ?_; intro b25 σ H
  refine Ops.move (v := (.v (.int .i64 4))) rfl rfl ?_
  refine Ops.int (m := 4) (m' := 9) (r := .bool true) rfl rfl rfl rfl rfl ?_
  apply Ops.nil
  replace H := H.all
  refine Runs.yes rfl ?_
  apply Runs.skip
  apply Runs.then
  apply Runs.inBlock
  apply Runs.then
  refine Runs.drawnH 10 rfl (by kernel_rfl) H ?_; intro b26 σ H B26
  refine Ops.move (v := (.v (.int .i64 4))) rfl rfl ?_
  refine Ops.arrAddrH (off := 0) (m := 9) (s := 1) (iv := 4) H 3 rfl rfl rfl rfl (by decide) (by decide) rfl rfl (fun _ => .inl ⟨B26 3 _ rfl _ rfl, nofun⟩) rfl ?_
  refine Ops.loadH (off := 4) (v := (.v (.int .u32 a.d4))) H 3 rfl rfl rfl rfl rfl (fun _ => .inl ⟨B26 3 _ rfl _ rfl, nofun⟩) rfl ?_
  refine Ops.move (v := (.v (.int .i64 4))) rfl rfl ?_
  refine Ops.arrAddrH (off := 0) (m := 9) (s := 1) (iv := 4) H 2 rfl rfl rfl rfl (by decide) (by decide) rfl rfl (fun _ => .inl ⟨B26 2 _ rfl _ rfl, nofun⟩) rfl ?_
  refine Ops.loadH (off := 4) (v := (.v (.int .u32 b.d4))) H 2 rfl rfl rfl rfl rfl (fun _ => .inl ⟨B26 2 _ rfl _ rfl, nofun⟩) rfl ?_
  refine Ops.int (m := a.d4) (m' := b.d4) (r := .int .u32 (IntKind.u32.wrap (a.d4 + b.d4))) rfl rfl rfl rfl rfl ?_
  refine Ops.move (v := (.v (.int .u32 x8))) rfl rfl ?_
  refine Ops.int (m := (IntKind.u32.wrap (a.d4 + b.d4))) (m' := x8) (r := .int .u32 (IntKind.u32.wrap ((IntKind.u32.wrap (a.d4 + b.d4)) + x8))) rfl rfl rfl rfl rfl ?_
  obtain ⟨x9, q9, h⟩ := bind_some h
  refine Ops.assign (v := (.v (.int .u32 x9))) (by rw [← Option.some.inj q9]; rfl) rfl ?_
  apply Ops.nil
  replace H := H.all
  apply Runs.then
  refine Runs.regionH 5 rfl H ?_; intro b27 σ H
  refine Ops.move (v := (.v (.int .i64 4))) rfl rfl ?_
  refine Ops.move (v := (.v (.int .u32 x9))) rfl rfl ?_
  refine Ops.rem (m := x9) (m' := 65536) rfl rfl (by decide) rfl ?_
  refine Ops.arrAddrH (off := 0) (m := 9) (s := 1) (iv := 4) H 0 rfl rfl rfl rfl (by decide) (by decide) rfl rfl nofun rfl ?_
  refine Ops.storeH (off := 4) (v := (.v (.int .u32 (x9.tmod 65536)))) (ys := [(.v (.int .u32 (x9.tmod 65536)))]) (cells' := [(.v (.int .u32 (x1.tmod 65536))), (.v (.int .u32 (x3.tmod 65536))), (.v (.int .u32 (x5.tmod 65536))), (.v (.int .u32 (x7.tmod 65536))), (.v (.int .u32 (x9.tmod 65536))), (.v (.int .u32 0)), (.v (.int .u32 0)), (.v (.int .u32 0)), (.v (.int .u32 0))]) H 0 rfl rfl rfl rfl rfl rfl rfl rfl rfl nofun ?_; intro σ H
  apply Ops.nil
  replace H := H.all
  refine Runs.regionH 3 rfl H ?_; intro b28 σ H
  refine Ops.move (v := (.v (.int .u32 x9))) rfl rfl ?_
  refine Ops.quo (m := x9) (m' := 65536) rfl rfl (by decide) rfl ?_
  obtain ⟨x10, q10, h⟩ := bind_some h
  refine Ops.assign (v := (.v (.int .u32 x10))) (by rw [← Option.some.inj q10]; rfl) rfl ?_
  apply Ops.nil
  replace H := H.all
  refine Runs.regionH 3 rfl H ?_; intro b29 σ H
  refine Ops.move (v := (.v (.int .i64 4))) rfl rfl ?_
  refine Ops.int (m := 4) (m' := 1) (r := .int .i64 5) rfl rfl rfl rfl rfl ?_
  refine Ops.assign (v := (.v (.int .i64 5))) rfl rfl ?_
  apply Ops.nil
  replace H := H.all
  apply Runs.again
  apply Runs.then
  apply Runs.then
  refine Runs.regionH 2 rfl H ?_; intro b30 σ H
  refine Ops.move (v := (.v (.int .i64 5))) rfl rfl ?_
  refine Ops.int (m := 5) (m' := 9) (r := .bool true) rfl rfl rfl rfl rfl ?_
  apply Ops.nil
  replace H := H.all
  refine Runs.yes rfl ?_
  apply Runs.skip
  apply Runs.then
  apply Runs.inBlock
  apply Runs.then
  refine Runs.drawnH 10 rfl (by kernel_rfl) H ?_; intro b31 σ H B31
  refine Ops.move (v := (.v (.int .i64 5))) rfl rfl ?_
  refine Ops.arrAddrH (off := 0) (m := 9) (s := 1) (iv := 5) H 3 rfl rfl rfl rfl (by decide) (by decide) rfl rfl (fun _ => .inl ⟨B31 3 _ rfl _ rfl, nofun⟩) rfl ?_
  refine Ops.loadH (off := 5) (v := (.v (.int .u32 a.d5))) H 3 rfl rfl rfl rfl rfl (fun _ => .inl ⟨B31 3 _ rfl _ rfl, nofun⟩) rfl ?_
  refine Ops.move (v := (.v (.int .i64 5))) rfl rfl ?_
  refine Ops.arrAddrH (off := 0) (m := 9) (s := 1) (iv := 5) H 2 rfl rfl rfl rfl (by decide) (by decide) rfl rfl (fun _ => .inl ⟨B31 2 _ rfl _ rfl, nofun⟩) rfl ?_
  refine Ops.loadH (off := 5) (v := (.v (.int .u32 b.d5))) H 2 rfl rfl rfl rfl rfl (fun _ => .inl ⟨B31 2 _ rfl _ rfl, nofun⟩) rfl ?_
  refine Ops.int (m := a.d5) (m' := b.d5) (r := .int .u32 (IntKind.u32.wrap (a.d5 + b.d5))) rfl rfl rfl rfl rfl ?_
  refine Ops.move (v := (.v (.int .u32 x10))) rfl rfl ?_
  refine Ops.int (m := (IntKind.u32.wrap (a.d5 + b.d5))) (m' := x10) (r := .int .u32 (IntKind.u32.wrap ((IntKind.u32.wrap (a.d5 + b.d5)) + x10))) rfl rfl rfl rfl rfl ?_
  obtain ⟨x11, q11, h⟩ := bind_some h
  refine Ops.assign (v := (.v (.int .u32 x11))) (by rw [← Option.some.inj q11]; rfl) rfl ?_
  apply Ops.nil
  replace H := H.all
  apply Runs.then
  refine Runs.regionH 5 rfl H ?_; intro b32 σ H
  refine Ops.move (v := (.v (.int .i64 5))) rfl rfl ?_
  refine Ops.move (v := (.v (.int .u32 x11))) rfl rfl ?_
  refine Ops.rem (m := x11) (m' := 65536) rfl rfl (by decide) rfl ?_
  refine Ops.arrAddrH (off := 0) (m := 9) (s := 1) (iv := 5) H 0 rfl rfl rfl rfl (by decide) (by decide) rfl rfl nofun rfl ?_
  refine Ops.storeH (off := 5) (v := (.v (.int .u32 (x11.tmod 65536)))) (ys := [(.v (.int .u32 (x11.tmod 65536)))]) (cells' := [(.v (.int .u32 (x1.tmod 65536))), (.v (.int .u32 (x3.tmod 65536))), (.v (.int .u32 (x5.tmod 65536))), (.v (.int .u32 (x7.tmod 65536))), (.v (.int .u32 (x9.tmod 65536))), (.v (.int .u32 (x11.tmod 65536))), (.v (.int .u32 0)), (.v (.int .u32 0)), (.v (.int .u32 0))]) H 0 rfl rfl rfl rfl rfl rfl rfl rfl rfl nofun ?_; intro σ H
  apply Ops.nil
  replace H := H.all
  refine Runs.regionH 3 rfl H ?_; intro b33 σ H
  refine Ops.move (v := (.v (.int .u32 x11))) rfl rfl ?_
  refine Ops.quo (m := x11) (m' := 65536) rfl rfl (by decide) rfl ?_
  obtain ⟨x12, q12, h⟩ := bind_some h
  refine Ops.assign (v := (.v (.int .u32 x12))) (by rw [← Option.some.inj q12]; rfl) rfl ?_
  apply Ops.nil
  replace H := H.all
  refine Runs.regionH 3 rfl H ?_; intro b34 σ H
  refine Ops.move (v := (.v (.int .i64 5))) rfl rfl ?_
  refine Ops.int (m := 5) (m' := 1) (r := .int .i64 6) rfl rfl rfl rfl rfl ?_
  refine Ops.assign (v := (.v (.int .i64 6))) rfl rfl ?_
  apply Ops.nil
  replace H := H.all
  apply Runs.again
  apply Runs.then
  apply Runs.then
  refine Runs.regionH 2 rfl H ?_; intro b35 σ H
  refine Ops.move (v := (.v (.int .i64 6))) rfl rfl ?_
  refine Ops.int (m := 6) (m' := 9) (r := .bool true) rfl rfl rfl rfl rfl ?_
  apply Ops.nil
  replace H := H.all
  refine Runs.yes rfl ?_
  apply Runs.skip
  apply Runs.then
  apply Runs.inBlock
  apply Runs.then
  refine Runs.drawnH 10 rfl (by kernel_rfl) H ?_; intro b36 σ H B36
  refine Ops.move (v := (.v (.int .i64 6))) rfl rfl ?_
  refine Ops.arrAddrH (off := 0) (m := 9) (s := 1) (iv := 6) H 3 rfl rfl rfl rfl (by decide) (by decide) rfl rfl (fun _ => .inl ⟨B36 3 _ rfl _ rfl, nofun⟩) rfl ?_
  refine Ops.loadH (off := 6) (v := (.v (.int .u32 a.d6))) H 3 rfl rfl rfl rfl rfl (fun _ => .inl ⟨B36 3 _ rfl _ rfl, nofun⟩) rfl ?_
  refine Ops.move (v := (.v (.int .i64 6))) rfl rfl ?_
  refine Ops.arrAddrH (off := 0) (m := 9) (s := 1) (iv := 6) H 2 rfl rfl rfl rfl (by decide) (by decide) rfl rfl (fun _ => .inl ⟨B36 2 _ rfl _ rfl, nofun⟩) rfl ?_
  refine Ops.loadH (off := 6) (v := (.v (.int .u32 b.d6))) H 2 rfl rfl rfl rfl rfl (fun _ => .inl ⟨B36 2 _ rfl _ rfl, nofun⟩) rfl ?_
  refine Ops.int (m := a.d6) (m' := b.d6) (r := .int .u32 (IntKind.u32.wrap (a.d6 + b.d6))) rfl rfl rfl rfl rfl ?_
  refine Ops.move (v := (.v (.int .u32 x12))) rfl rfl ?_
  refine Ops.int (m := (IntKind.u32.wrap (a.d6 + b.d6))) (m' := x12) (r := .int .u32 (IntKind.u32.wrap ((IntKind.u32.wrap (a.d6 + b.d6)) + x12))) rfl rfl rfl rfl rfl ?_
  obtain ⟨x13, q13, h⟩ := bind_some h
  refine Ops.assign (v := (.v (.int .u32 x13))) (by rw [← Option.some.inj q13]; rfl) rfl ?_
  apply Ops.nil
  replace H := H.all
  apply Runs.then
  refine Runs.regionH 5 rfl H ?_; intro b37 σ H
  refine Ops.move (v := (.v (.int .i64 6))) rfl rfl ?_
  refine Ops.move (v := (.v (.int .u32 x13))) rfl rfl ?_
  refine Ops.rem (m := x13) (m' := 65536) rfl rfl (by decide) rfl ?_
  refine Ops.arrAddrH (off := 0) (m := 9) (s := 1) (iv := 6) H 0 rfl rfl rfl rfl (by decide) (by decide) rfl rfl nofun rfl ?_
  refine Ops.storeH (off := 6) (v := (.v (.int .u32 (x13.tmod 65536)))) (ys := [(.v (.int .u32 (x13.tmod 65536)))]) (cells' := [(.v (.int .u32 (x1.tmod 65536))), (.v (.int .u32 (x3.tmod 65536))), (.v (.int .u32 (x5.tmod 65536))), (.v (.int .u32 (x7.tmod 65536))), (.v (.int .u32 (x9.tmod 65536))), (.v (.int .u32 (x11.tmod 65536))), (.v (.int .u32 (x13.tmod 65536))), (.v (.int .u32 0)), (.v (.int .u32 0))]) H 0 rfl rfl rfl rfl rfl rfl rfl rfl rfl nofun ?_; intro σ H
  apply Ops.nil
  replace H := H.all
  refine Runs.regionH 3 rfl H ?_; intro b38 σ H
  refine Ops.move (v := (.v (.int .u32 x13))) rfl rfl ?_
  refine Ops.quo (m := x13) (m' := 65536) rfl rfl (by decide) rfl ?_
  obtain ⟨x14, q14, h⟩ := bind_some h
  refine Ops.assign (v := (.v (.int .u32 x14))) (by rw [← Option.some.inj q14]; rfl) rfl ?_
  apply Ops.nil
  replace H := H.all
  refine Runs.regionH 3 rfl H ?_; intro b39 σ H
  refine Ops.move (v := (.v (.int .i64 6))) rfl rfl ?_
  refine Ops.int (m := 6) (m' := 1) (r := .int .i64 7) rfl rfl rfl rfl rfl ?_
  refine Ops.assign (v := (.v (.int .i64 7))) rfl rfl ?_
  apply Ops.nil
  replace H := H.all
  apply Runs.again
  apply Runs.then
  apply Runs.then
  refine Runs.regionH 2 rfl H ?_; intro b40 σ H
  refine Ops.move (v := (.v (.int .i64 7))) rfl rfl ?_
  refine Ops.int (m := 7) (m' := 9) (r := .bool true) rfl rfl rfl rfl rfl ?_
  apply Ops.nil
  replace H := H.all
  refine Runs.yes rfl ?_
  apply Runs.skip
  apply Runs.then
  apply Runs.inBlock
  apply Runs.then
  refine Runs.drawnH 10 rfl (by kernel_rfl) H ?_; intro b41 σ H B41
  refine Ops.move (v := (.v (.int .i64 7))) rfl rfl ?_
  refine Ops.arrAddrH (off := 0) (m := 9) (s := 1) (iv := 7) H 3 rfl rfl rfl rfl (by decide) (by decide) rfl rfl (fun _ => .inl ⟨B41 3 _ rfl _ rfl, nofun⟩) rfl ?_
  refine Ops.loadH (off := 7) (v := (.v (.int .u32 a.d7))) H 3 rfl rfl rfl rfl rfl (fun _ => .inl ⟨B41 3 _ rfl _ rfl, nofun⟩) rfl ?_
  refine Ops.move (v := (.v (.int .i64 7))) rfl rfl ?_
  refine Ops.arrAddrH (off := 0) (m := 9) (s := 1) (iv := 7) H 2 rfl rfl rfl rfl (by decide) (by decide) rfl rfl (fun _ => .inl ⟨B41 2 _ rfl _ rfl, nofun⟩) rfl ?_
  refine Ops.loadH (off := 7) (v := (.v (.int .u32 b.d7))) H 2 rfl rfl rfl rfl rfl (fun _ => .inl ⟨B41 2 _ rfl _ rfl, nofun⟩) rfl ?_
  refine Ops.int (m := a.d7) (m' := b.d7) (r := .int .u32 (IntKind.u32.wrap (a.d7 + b.d7))) rfl rfl rfl rfl rfl ?_
  refine Ops.move (v := (.v (.int .u32 x14))) rfl rfl ?_
  refine Ops.int (m := (IntKind.u32.wrap (a.d7 + b.d7))) (m' := x14) (r := .int .u32 (IntKind.u32.wrap ((IntKind.u32.wrap (a.d7 + b.d7)) + x14))) rfl rfl rfl rfl rfl ?_
  obtain ⟨x15, q15, h⟩ := bind_some h
  refine Ops.assign (v := (.v (.int .u32 x15))) (by rw [← Option.some.inj q15]; rfl) rfl ?_
  apply Ops.nil
  replace H := H.all
  apply Runs.then
  refine Runs.regionH 5 rfl H ?_; intro b42 σ H
  refine Ops.move (v := (.v (.int .i64 7))) rfl rfl ?_
  refine Ops.move (v := (.v (.int .u32 x15))) rfl rfl ?_
  refine Ops.rem (m := x15) (m' := 65536) rfl rfl (by decide) rfl ?_
  refine Ops.arrAddrH (off := 0) (m := 9) (s := 1) (iv := 7) H 0 rfl rfl rfl rfl (by decide) (by decide) rfl rfl nofun rfl ?_
  refine Ops.storeH (off := 7) (v := (.v (.int .u32 (x15.tmod 65536)))) (ys := [(.v (.int .u32 (x15.tmod 65536)))]) (cells' := [(.v (.int .u32 (x1.tmod 65536))), (.v (.int .u32 (x3.tmod 65536))), (.v (.int .u32 (x5.tmod 65536))), (.v (.int .u32 (x7.tmod 65536))), (.v (.int .u32 (x9.tmod 65536))), (.v (.int .u32 (x11.tmod 65536))), (.v (.int .u32 (x13.tmod 65536))), (.v (.int .u32 (x15.tmod 65536))), (.v (.int .u32 0))]) H 0 rfl rfl rfl rfl rfl rfl rfl rfl rfl nofun ?_; intro σ H
  apply Ops.nil
  replace H := H.all
  refine Runs.regionH 3 rfl H ?_; intro b43 σ H
  refine Ops.move (v := (.v (.int .u32 x15))) rfl rfl ?_
  refine Ops.quo (m := x15) (m' := 65536) rfl rfl (by decide) rfl ?_
  obtain ⟨x16, q16, h⟩ := bind_some h
  refine Ops.assign (v := (.v (.int .u32 x16))) (by rw [← Option.some.inj q16]; rfl) rfl ?_
  apply Ops.nil
  replace H := H.all
  refine Runs.regionH 3 rfl H ?_; intro b44 σ H
  refine Ops.move (v := (.v (.int .i64 7))) rfl rfl ?_
  refine Ops.int (m := 7) (m' := 1) (r := .int .i64 8) rfl rfl rfl rfl rfl ?_
  refine Ops.assign (v := (.v (.int .i64 8))) rfl rfl ?_
  apply Ops.nil
  replace H := H.all
  apply Runs.again
  apply Runs.then
  apply Runs.then
  refine Runs.regionH 2 rfl H ?_; intro b45 σ H
  refine Ops.move (v := (.v (.int .i64 8))) rfl rfl ?_
  refine Ops.int (m := 8) (m' := 9) (r := .bool true) rfl rfl rfl rfl rfl ?_
  apply Ops.nil
  replace H := H.all
  refine Runs.yes rfl ?_
  apply Runs.skip
  apply Runs.then
  apply Runs.inBlock
  apply Runs.then
  refine Runs.drawnH 10 rfl (by kernel_rfl) H ?_; intro b46 σ H B46
  refine Ops.move (v := (.v (.int .i64 8))) rfl rfl ?_
  refine Ops.arrAddrH (off := 0) (m := 9) (s := 1) (iv := 8) H 3 rfl rfl rfl rfl (by decide) (by decide) rfl rfl (fun _ => .inl ⟨B46 3 _ rfl _ rfl, nofun⟩) rfl ?_
  refine Ops.loadH (off := 8) (v := (.v (.int .u32 a.d8))) H 3 rfl rfl rfl rfl rfl (fun _ => .inl ⟨B46 3 _ rfl _ rfl, nofun⟩) rfl ?_
  refine Ops.move (v := (.v (.int .i64 8))) rfl rfl ?_
  refine Ops.arrAddrH (off := 0) (m := 9) (s := 1) (iv := 8) H 2 rfl rfl rfl rfl (by decide) (by decide) rfl rfl (fun _ => .inl ⟨B46 2 _ rfl _ rfl, nofun⟩) rfl ?_
  refine Ops.loadH (off := 8) (v := (.v (.int .u32 b.d8))) H 2 rfl rfl rfl rfl rfl (fun _ => .inl ⟨B46 2 _ rfl _ rfl, nofun⟩) rfl ?_
  refine Ops.int (m := a.d8) (m' := b.d8) (r := .int .u32 (IntKind.u32.wrap (a.d8 + b.d8))) rfl rfl rfl rfl rfl ?_
  refine Ops.move (v := (.v (.int .u32 x16))) rfl rfl ?_
  refine Ops.int (m := (IntKind.u32.wrap (a.d8 + b.d8))) (m' := x16) (r := .int .u32 (IntKind.u32.wrap ((IntKind.u32.wrap (a.d8 + b.d8)) + x16))) rfl rfl rfl rfl rfl ?_
  obtain ⟨x17, q17, h⟩ := bind_some h
  refine Ops.assign (v := (.v (.int .u32 x17))) (by rw [← Option.some.inj q17]; rfl) rfl ?_
  apply Ops.nil
  replace H := H.all
  apply Runs.then
  refine Runs.regionH 5 rfl H ?_; intro b47 σ H
  refine Ops.move (v := (.v (.int .i64 8))) rfl rfl ?_
  refine Ops.move (v := (.v (.int .u32 x17))) rfl rfl ?_
  refine Ops.rem (m := x17) (m' := 65536) rfl rfl (by decide) rfl ?_
  refine Ops.arrAddrH (off := 0) (m := 9) (s := 1) (iv := 8) H 0 rfl rfl rfl rfl (by decide) (by decide) rfl rfl nofun rfl ?_
  refine Ops.storeH (off := 8) (v := (.v (.int .u32 (x17.tmod 65536)))) (ys := [(.v (.int .u32 (x17.tmod 65536)))]) (cells' := [(.v (.int .u32 (x1.tmod 65536))), (.v (.int .u32 (x3.tmod 65536))), (.v (.int .u32 (x5.tmod 65536))), (.v (.int .u32 (x7.tmod 65536))), (.v (.int .u32 (x9.tmod 65536))), (.v (.int .u32 (x11.tmod 65536))), (.v (.int .u32 (x13.tmod 65536))), (.v (.int .u32 (x15.tmod 65536))), (.v (.int .u32 (x17.tmod 65536)))]) H 0 rfl rfl rfl rfl rfl rfl rfl rfl rfl nofun ?_; intro σ H
  apply Ops.nil
  replace H := H.all
  refine Runs.regionH 3 rfl H ?_; intro b48 σ H
  refine Ops.move (v := (.v (.int .u32 x17))) rfl rfl ?_
  refine Ops.quo (m := x17) (m' := 65536) rfl rfl (by decide) rfl ?_
  obtain ⟨x18, q18, h⟩ := bind_some h
  refine Ops.assign (v := (.v (.int .u32 x18))) (by rw [← Option.some.inj q18]; rfl) rfl ?_
  apply Ops.nil
  replace H := H.all
  refine Runs.regionH 3 rfl H ?_; intro b49 σ H
  refine Ops.move (v := (.v (.int .i64 8))) rfl rfl ?_
  refine Ops.int (m := 8) (m' := 1) (r := .int .i64 9) rfl rfl rfl rfl rfl ?_
  refine Ops.assign (v := (.v (.int .i64 9))) rfl rfl ?_
  apply Ops.nil
  replace H := H.all
  apply Runs.again
  apply Runs.then
  apply Runs.then
  refine Runs.regionH 2 rfl H ?_; intro b50 σ H
  refine Ops.move (v := (.v (.int .i64 9))) rfl rfl ?_
  refine Ops.int (m := 9) (m' := 9) (r := .bool false) rfl rfl rfl rfl rfl ?_
  apply Ops.nil
  replace H := H.all
  refine Runs.no rfl ?_
  apply Runs.exit
  apply Runs.then
  refine Runs.regionH 2 rfl H ?_; intro b51 σ H
  refine Ops.loadHA (off := 0) (cs := [(.v (.int .u32 (x1.tmod 65536))), (.v (.int .u32 (x3.tmod 65536))), (.v (.int .u32 (x5.tmod 65536))), (.v (.int .u32 (x7.tmod 65536))), (.v (.int .u32 (x9.tmod 65536))), (.v (.int .u32 (x11.tmod 65536))), (.v (.int .u32 (x13.tmod 65536))), (.v (.int .u32 (x15.tmod 65536))), (.v (.int .u32 (x17.tmod 65536)))]) H 0 rfl rfl rfl rfl rfl rfl rfl nofun rfl ?_
  refine Ops.storeH (off := 0) (v := (.agg [(.v (.int .u32 (x1.tmod 65536))), (.v (.int .u32 (x3.tmod 65536))), (.v (.int .u32 (x5.tmod 65536))), (.v (.int .u32 (x7.tmod 65536))), (.v (.int .u32 (x9.tmod 65536))), (.v (.int .u32 (x11.tmod 65536))), (.v (.int .u32 (x13.tmod 65536))), (.v (.int .u32 (x15.tmod 65536))), (.v (.int .u32 (x17.tmod 65536)))])) (ys := [(.v (.int .u32 (x1.tmod 65536))), (.v (.int .u32 (x3.tmod 65536))), (.v (.int .u32 (x5.tmod 65536))), (.v (.int .u32 (x7.tmod 65536))), (.v (.int .u32 (x9.tmod 65536))), (.v (.int .u32 (x11.tmod 65536))), (.v (.int .u32 (x13.tmod 65536))), (.v (.int .u32 (x15.tmod 65536))), (.v (.int .u32 (x17.tmod 65536)))]) (cells' := [(.v (.int .u32 (x1.tmod 65536))), (.v (.int .u32 (x3.tmod 65536))), (.v (.int .u32 (x5.tmod 65536))), (.v (.int .u32 (x7.tmod 65536))), (.v (.int .u32 (x9.tmod 65536))), (.v (.int .u32 (x11.tmod 65536))), (.v (.int .u32 (x13.tmod 65536))), (.v (.int .u32 (x15.tmod 65536))), (.v (.int .u32 (x17.tmod 65536)))]) H 1 rfl rfl rfl rfl rfl rfl rfl rfl rfl nofun ?_; intro σ H
  apply Ops.nil
  replace H := H.all
  apply Runs.ret
  replace h := Option.some.inj h; subst h
  exact (Ends.H (xs := [(.agg [(.v (.int .u32 (x1.tmod 65536))), (.v (.int .u32 (x3.tmod 65536))), (.v (.int .u32 (x5.tmod 65536))), (.v (.int .u32 (x7.tmod 65536))), (.v (.int .u32 (x9.tmod 65536))), (.v (.int .u32 (x11.tmod 65536))), (.v (.int .u32 (x13.tmod 65536))), (.v (.int .u32 (x15.tmod 65536))), (.v (.int .u32 (x17.tmod 65536)))])]) (.inr rfl) H (.agg (cs := [(.v (.int .u32 (x1.tmod 65536))), (.v (.int .u32 (x3.tmod 65536))), (.v (.int .u32 (x5.tmod 65536))), (.v (.int .u32 (x7.tmod 65536))), (.v (.int .u32 (x9.tmod 65536))), (.v (.int .u32 (x11.tmod 65536))), (.v (.int .u32 (x13.tmod 65536))), (.v (.int .u32 (x15.tmod 65536))), (.v (.int .u32 (x17.tmod 65536)))]) (off := 0) 1 rfl rfl rfl rfl rfl rfl rfl .nil) (.one (.p rfl)))

set_option maxRecDepth 100000 in
set_option maxHeartbeats 4000000 in
theorem epactref01_below_fn {a : Arr9_u32} {b : Arr9_u32} {r : Bool} (h : epactref01_below a b = r) : Fn CX 57 [(.agg (vs (Arr9_u32.cs a))), (.agg (vs (Arr9_u32.cs b)))] (.v (.bool r)) := by
  refine Fn.ends Try.func57 rfl rfl rfl rfl rfl rfl ?_
  have H : Hs (⟨0, fun _ => .none⟩ : Heap) [] := Has.nil (Nat.le_refl _)
  generalize (⟨0, fun _ => .none⟩ : Heap) = σ at H ⊢
  unfold epactref01_below at h
  apply Runs.then
  refine Runs.regionH 3 rfl H ?_; intro b1 σ H
  refine Ops.boxH (v := (.agg [(.v (.int .u32 a.d0)), (.v (.int .u32 a.d1)), (.v (.int .u32 a.d2)), (.v (.int .u32 a.d3)), (.v (.int .u32 a.d4)), (.v (.int .u32 a.d5)), (.v (.int .u32 a.d6)), (.v (.int .u32 a.d7)), (.v (.int .u32 a.d8))])) (cs := [(.v (.int .u32 a.d0)), (.v (.int .u32 a.d1)), (.v (.int .u32 a.d2)), (.v (.int .u32 a.d3)), (.v (.int .u32 a.d4)), (.v (.int .u32 a.d5)), (.v (.int .u32 a.d6)), (.v (.int .u32 a.d7)), (.v (.int .u32 a.d8))]) H (by omega) (by omega) rfl rfl rfl ?_; intro σ H
  refine Ops.boxH (v := (.agg [(.v (.int .u32 b.d0)), (.v (.int .u32 b.d1)), (.v (.int .u32 b.d2)), (.v (.int .u32 b.d3)), (.v (.int .u32 b.d4)), (.v (.int .u32 b.d5)), (.v (.int .u32 b.d6)), (.v (.int .u32 b.d7)), (.v (.int .u32 b.d8))])) (cs := [(.v (.int .u32 b.d0)), (.v (.int .u32 b.d1)), (.v (.int .u32 b.d2)), (.v (.int .u32 b.d3)), (.v (.int .u32 b.d4)), (.v (.int .u32 b.d5)), (.v (.int .u32 b.d6)), (.v (.int .u32 b.d7)), (.v (.int .u32 b.d8))]) H (by omega) (by omega) rfl rfl rfl ?_; intro σ H
  refine Ops.assign (v := (.v (.bool false))) rfl rfl ?_
  apply Ops.nil
  replace H := H.all
  apply Runs.then
  apply Runs.then
  refine Runs.regionH 1 rfl H ?_; intro b2 σ H
  refine Ops.assign (v := (.v (.int .i64 8))) rfl rfl ?_
  apply Ops.nil
  replace H := H.all
  apply Runs.inBlock
  apply Runs.again
  apply Runs.then
  apply Runs.then
  refine Runs.regionH 2 rfl H ?_; intro b3 σ H
  refine Ops.move (v := (.v (.int .i64 8))) rfl rfl ?_
  refine Ops.int (m := 8) (m' := 0) (r := .bool true) rfl rfl rfl rfl rfl ?_
  apply Ops.nil
  replace H := H.all
  refine Runs.yes rfl ?_
  apply Runs.skip
  apply Runs.then
  apply Runs.inBlock
  apply Runs.then
  refine Runs.drawnH 7 rfl (by kernel_rfl) H ?_; intro b4 σ H B4
  refine Ops.move (v := (.v (.int .i64 8))) rfl rfl ?_
  refine Ops.arrAddrH (off := 0) (m := 9) (s := 1) (iv := 8) H 1 rfl rfl rfl rfl (by decide) (by decide) rfl rfl (fun _ => .inl ⟨B4 1 _ rfl _ rfl, nofun⟩) rfl ?_
  refine Ops.loadH (off := 8) (v := (.v (.int .u32 a.d8))) H 1 rfl rfl rfl rfl rfl (fun _ => .inl ⟨B4 1 _ rfl _ rfl, nofun⟩) rfl ?_
  refine Ops.move (v := (.v (.int .i64 8))) rfl rfl ?_
  refine Ops.arrAddrH (off := 0) (m := 9) (s := 1) (iv := 8) H 0 rfl rfl rfl rfl (by decide) (by decide) rfl rfl (fun _ => .inl ⟨B4 0 _ rfl _ rfl, nofun⟩) rfl ?_
  refine Ops.loadH (off := 8) (v := (.v (.int .u32 b.d8))) H 0 rfl rfl rfl rfl rfl (fun _ => .inl ⟨B4 0 _ rfl _ rfl, nofun⟩) rfl ?_
  refine Ops.int (m := a.d8) (m' := b.d8) (r := .bool (a.d8 != b.d8)) rfl rfl rfl rfl rfl ?_
  apply Ops.nil
  replace H := H.all
  refine Runs.whether (v := (a.d8 != b.d8)) rfl ?_ ?_ <;> intro hc1
  · replace h := cond_T hc1 h
    apply Runs.then
    refine Runs.drawnH 8 rfl (by kernel_rfl) H ?_; intro b5 σ H B5
    refine Ops.move (v := (.v (.int .i64 8))) rfl rfl ?_
    refine Ops.arrAddrH (off := 0) (m := 9) (s := 1) (iv := 8) H 1 rfl rfl rfl rfl (by decide) (by decide) rfl rfl (fun _ => .inl ⟨B5 1 _ rfl _ rfl, nofun⟩) rfl ?_
    refine Ops.loadH (off := 8) (v := (.v (.int .u32 a.d8))) H 1 rfl rfl rfl rfl rfl (fun _ => .inl ⟨B5 1 _ rfl _ rfl, nofun⟩) rfl ?_
    refine Ops.move (v := (.v (.int .i64 8))) rfl rfl ?_
    refine Ops.arrAddrH (off := 0) (m := 9) (s := 1) (iv := 8) H 0 rfl rfl rfl rfl (by decide) (by decide) rfl rfl (fun _ => .inl ⟨B5 0 _ rfl _ rfl, nofun⟩) rfl ?_
    refine Ops.loadH (off := 8) (v := (.v (.int .u32 b.d8))) H 0 rfl rfl rfl rfl rfl (fun _ => .inl ⟨B5 0 _ rfl _ rfl, nofun⟩) rfl ?_
    refine Ops.int (m := a.d8) (m' := b.d8) (r := .bool (decide (a.d8 < b.d8))) rfl rfl rfl rfl rfl ?_
    refine Ops.assign (v := (.v (.bool (decide (a.d8 < b.d8))))) rfl rfl ?_
    apply Ops.nil
    replace H := H.all
    apply Runs.ret
    subst h
    exact (Ends.H (xs := [(.v (.bool (decide (a.d8 < b.d8))))]) (.inr rfl) H (.tmp (v := (.v (.bool (decide (a.d8 < b.d8))))) rfl .nil) (.one (.c (.v _))))
  · replace h := cond_F hc1 h
    apply Runs.skip
    refine Runs.regionH 3 rfl H ?_; intro b6 σ H
    refine Ops.move (v := (.v (.int .i64 8))) rfl rfl ?_
    refine Ops.int (m := 8) (m' := 1) (r := .int .i64 7) rfl rfl rfl rfl rfl ?_
    refine Ops.assign (v := (.v (.int .i64 7))) rfl rfl ?_
    apply Ops.nil
    replace H := H.all
    apply Runs.again
    apply Runs.then
    apply Runs.then
    refine Runs.regionH 2 rfl H ?_; intro b7 σ H
    refine Ops.move (v := (.v (.int .i64 7))) rfl rfl ?_
    refine Ops.int (m := 7) (m' := 0) (r := .bool true) rfl rfl rfl rfl rfl ?_
    apply Ops.nil
    replace H := H.all
    refine Runs.yes rfl ?_
    apply Runs.skip
    apply Runs.then
    apply Runs.inBlock
    apply Runs.then
    refine Runs.drawnH 7 rfl (by kernel_rfl) H ?_; intro b8 σ H B8
    refine Ops.move (v := (.v (.int .i64 7))) rfl rfl ?_
    refine Ops.arrAddrH (off := 0) (m := 9) (s := 1) (iv := 7) H 1 rfl rfl rfl rfl (by decide) (by decide) rfl rfl (fun _ => .inl ⟨B8 1 _ rfl _ rfl, nofun⟩) rfl ?_
    refine Ops.loadH (off := 7) (v := (.v (.int .u32 a.d7))) H 1 rfl rfl rfl rfl rfl (fun _ => .inl ⟨B8 1 _ rfl _ rfl, nofun⟩) rfl ?_
    refine Ops.move (v := (.v (.int .i64 7))) rfl rfl ?_
    refine Ops.arrAddrH (off := 0) (m := 9) (s := 1) (iv := 7) H 0 rfl rfl rfl rfl (by decide) (by decide) rfl rfl (fun _ => .inl ⟨B8 0 _ rfl _ rfl, nofun⟩) rfl ?_
    refine Ops.loadH (off := 7) (v := (.v (.int .u32 b.d7))) H 0 rfl rfl rfl rfl rfl (fun _ => .inl ⟨B8 0 _ rfl _ rfl, nofun⟩) rfl ?_
    refine Ops.int (m := a.d7) (m' := b.d7) (r := .bool (a.d7 != b.d7)) rfl rfl rfl rfl rfl ?_
    apply Ops.nil
    replace H := H.all
    refine Runs.whether (v := (a.d7 != b.d7)) rfl ?_ ?_ <;> intro hc2
    · replace h := cond_T hc2 h
      apply Runs.then
      refine Runs.drawnH 8 rfl (by kernel_rfl) H ?_; intro b9 σ H B9
      refine Ops.move (v := (.v (.int .i64 7))) rfl rfl ?_
      refine Ops.arrAddrH (off := 0) (m := 9) (s := 1) (iv := 7) H 1 rfl rfl rfl rfl (by decide) (by decide) rfl rfl (fun _ => .inl ⟨B9 1 _ rfl _ rfl, nofun⟩) rfl ?_
      refine Ops.loadH (off := 7) (v := (.v (.int .u32 a.d7))) H 1 rfl rfl rfl rfl rfl (fun _ => .inl ⟨B9 1 _ rfl _ rfl, nofun⟩) rfl ?_
      refine Ops.move (v := (.v (.int .i64 7))) rfl rfl ?_
      refine Ops.arrAddrH (off := 0) (m := 9) (s := 1) (iv := 7) H 0 rfl rfl rfl rfl (by decide) (by decide) rfl rfl (fun _ => .inl ⟨B9 0 _ rfl _ rfl, nofun⟩) rfl ?_
      refine Ops.loadH (off := 7) (v := (.v (.int .u32 b.d7))) H 0 rfl rfl rfl rfl rfl (fun _ => .inl ⟨B9 0 _ rfl _ rfl, nofun⟩) rfl ?_
      refine Ops.int (m := a.d7) (m' := b.d7) (r := .bool (decide (a.d7 < b.d7))) rfl rfl rfl rfl rfl ?_
      refine Ops.assign (v := (.v (.bool (decide (a.d7 < b.d7))))) rfl rfl ?_
      apply Ops.nil
      replace H := H.all
      apply Runs.ret
      subst h
      exact (Ends.H (xs := [(.v (.bool (decide (a.d7 < b.d7))))]) (.inr rfl) H (.tmp (v := (.v (.bool (decide (a.d7 < b.d7))))) rfl .nil) (.one (.c (.v _))))
    · replace h := cond_F hc2 h
      apply Runs.skip
      refine Runs.regionH 3 rfl H ?_; intro b10 σ H
      refine Ops.move (v := (.v (.int .i64 7))) rfl rfl ?_
      refine Ops.int (m := 7) (m' := 1) (r := .int .i64 6) rfl rfl rfl rfl rfl ?_
      refine Ops.assign (v := (.v (.int .i64 6))) rfl rfl ?_
      apply Ops.nil
      replace H := H.all
      apply Runs.again
      apply Runs.then
      apply Runs.then
      refine Runs.regionH 2 rfl H ?_; intro b11 σ H
      refine Ops.move (v := (.v (.int .i64 6))) rfl rfl ?_
      refine Ops.int (m := 6) (m' := 0) (r := .bool true) rfl rfl rfl rfl rfl ?_
      apply Ops.nil
      replace H := H.all
      refine Runs.yes rfl ?_
      apply Runs.skip
      apply Runs.then
      apply Runs.inBlock
      apply Runs.then
      refine Runs.drawnH 7 rfl (by kernel_rfl) H ?_; intro b12 σ H B12
      refine Ops.move (v := (.v (.int .i64 6))) rfl rfl ?_
      refine Ops.arrAddrH (off := 0) (m := 9) (s := 1) (iv := 6) H 1 rfl rfl rfl rfl (by decide) (by decide) rfl rfl (fun _ => .inl ⟨B12 1 _ rfl _ rfl, nofun⟩) rfl ?_
      refine Ops.loadH (off := 6) (v := (.v (.int .u32 a.d6))) H 1 rfl rfl rfl rfl rfl (fun _ => .inl ⟨B12 1 _ rfl _ rfl, nofun⟩) rfl ?_
      refine Ops.move (v := (.v (.int .i64 6))) rfl rfl ?_
      refine Ops.arrAddrH (off := 0) (m := 9) (s := 1) (iv := 6) H 0 rfl rfl rfl rfl (by decide) (by decide) rfl rfl (fun _ => .inl ⟨B12 0 _ rfl _ rfl, nofun⟩) rfl ?_
      refine Ops.loadH (off := 6) (v := (.v (.int .u32 b.d6))) H 0 rfl rfl rfl rfl rfl (fun _ => .inl ⟨B12 0 _ rfl _ rfl, nofun⟩) rfl ?_
      refine Ops.int (m := a.d6) (m' := b.d6) (r := .bool (a.d6 != b.d6)) rfl rfl rfl rfl rfl ?_
      apply Ops.nil
      replace H := H.all
      refine Runs.whether (v := (a.d6 != b.d6)) rfl ?_ ?_ <;> intro hc3
      · replace h := cond_T hc3 h
        apply Runs.then
        refine Runs.drawnH 8 rfl (by kernel_rfl) H ?_; intro b13 σ H B13
        refine Ops.move (v := (.v (.int .i64 6))) rfl rfl ?_
        refine Ops.arrAddrH (off := 0) (m := 9) (s := 1) (iv := 6) H 1 rfl rfl rfl rfl (by decide) (by decide) rfl rfl (fun _ => .inl ⟨B13 1 _ rfl _ rfl, nofun⟩) rfl ?_
        refine Ops.loadH (off := 6) (v := (.v (.int .u32 a.d6))) H 1 rfl rfl rfl rfl rfl (fun _ => .inl ⟨B13 1 _ rfl _ rfl, nofun⟩) rfl ?_
        refine Ops.move (v := (.v (.int .i64 6))) rfl rfl ?_
        refine Ops.arrAddrH (off := 0) (m := 9) (s := 1) (iv := 6) H 0 rfl rfl rfl rfl (by decide) (by decide) rfl rfl (fun _ => .inl ⟨B13 0 _ rfl _ rfl, nofun⟩) rfl ?_
        refine Ops.loadH (off := 6) (v := (.v (.int .u32 b.d6))) H 0 rfl rfl rfl rfl rfl (fun _ => .inl ⟨B13 0 _ rfl _ rfl, nofun⟩) rfl ?_
        refine Ops.int (m := a.d6) (m' := b.d6) (r := .bool (decide (a.d6 < b.d6))) rfl rfl rfl rfl rfl ?_
        refine Ops.assign (v := (.v (.bool (decide (a.d6 < b.d6))))) rfl rfl ?_
        apply Ops.nil
        replace H := H.all
        apply Runs.ret
        subst h
        exact (Ends.H (xs := [(.v (.bool (decide (a.d6 < b.d6))))]) (.inr rfl) H (.tmp (v := (.v (.bool (decide (a.d6 < b.d6))))) rfl .nil) (.one (.c (.v _))))
      · replace h := cond_F hc3 h
        apply Runs.skip
        refine Runs.regionH 3 rfl H ?_; intro b14 σ H
        refine Ops.move (v := (.v (.int .i64 6))) rfl rfl ?_
        refine Ops.int (m := 6) (m' := 1) (r := .int .i64 5) rfl rfl rfl rfl rfl ?_
        refine Ops.assign (v := (.v (.int .i64 5))) rfl rfl ?_
        apply Ops.nil
        replace H := H.all
        apply Runs.again
        apply Runs.then
        apply Runs.then
        refine Runs.regionH 2 rfl H ?_; intro b15 σ H
        refine Ops.move (v := (.v (.int .i64 5))) rfl rfl ?_
        refine Ops.int (m := 5) (m' := 0) (r := .bool true) rfl rfl rfl rfl rfl ?_
        apply Ops.nil
        replace H := H.all
        refine Runs.yes rfl ?_
        apply Runs.skip
        apply Runs.then
        apply Runs.inBlock
        apply Runs.then
        refine Runs.drawnH 7 rfl (by kernel_rfl) H ?_; intro b16 σ H B16
        refine Ops.move (v := (.v (.int .i64 5))) rfl rfl ?_
        refine Ops.arrAddrH (off := 0) (m := 9) (s := 1) (iv := 5) H 1 rfl rfl rfl rfl (by decide) (by decide) rfl rfl (fun _ => .inl ⟨B16 1 _ rfl _ rfl, nofun⟩) rfl ?_
        refine Ops.loadH (off := 5) (v := (.v (.int .u32 a.d5))) H 1 rfl rfl rfl rfl rfl (fun _ => .inl ⟨B16 1 _ rfl _ rfl, nofun⟩) rfl ?_
        refine Ops.move (v := (.v (.int .i64 5))) rfl rfl ?_
        refine Ops.arrAddrH (off := 0) (m := 9) (s := 1) (iv := 5) H 0 rfl rfl rfl rfl (by decide) (by decide) rfl rfl (fun _ => .inl ⟨B16 0 _ rfl _ rfl, nofun⟩) rfl ?_
        refine Ops.loadH (off := 5) (v := (.v (.int .u32 b.d5))) H 0 rfl rfl rfl rfl rfl (fun _ => .inl ⟨B16 0 _ rfl _ rfl, nofun⟩) rfl ?_
        refine Ops.int (m := a.d5) (m' := b.d5) (r := .bool (a.d5 != b.d5)) rfl rfl rfl rfl rfl ?_
        apply Ops.nil
        replace H := H.all
        refine Runs.whether (v := (a.d5 != b.d5)) rfl ?_ ?_ <;> intro hc4
        · replace h := cond_T hc4 h
          apply Runs.then
          refine Runs.drawnH 8 rfl (by kernel_rfl) H ?_; intro b17 σ H B17
          refine Ops.move (v := (.v (.int .i64 5))) rfl rfl ?_
          refine Ops.arrAddrH (off := 0) (m := 9) (s := 1) (iv := 5) H 1 rfl rfl rfl rfl (by decide) (by decide) rfl rfl (fun _ => .inl ⟨B17 1 _ rfl _ rfl, nofun⟩) rfl ?_
          refine Ops.loadH (off := 5) (v := (.v (.int .u32 a.d5))) H 1 rfl rfl rfl rfl rfl (fun _ => .inl ⟨B17 1 _ rfl _ rfl, nofun⟩) rfl ?_
          refine Ops.move (v := (.v (.int .i64 5))) rfl rfl ?_
          refine Ops.arrAddrH (off := 0) (m := 9) (s := 1) (iv := 5) H 0 rfl rfl rfl rfl (by decide) (by decide) rfl rfl (fun _ => .inl ⟨B17 0 _ rfl _ rfl, nofun⟩) rfl ?_
          refine Ops.loadH (off := 5) (v := (.v (.int .u32 b.d5))) H 0 rfl rfl rfl rfl rfl (fun _ => .inl ⟨B17 0 _ rfl _ rfl, nofun⟩) rfl ?_
          refine Ops.int (m := a.d5) (m' := b.d5) (r := .bool (decide (a.d5 < b.d5))) rfl rfl rfl rfl rfl ?_
          refine Ops.assign (v := (.v (.bool (decide (a.d5 < b.d5))))) rfl rfl ?_
          apply Ops.nil
          replace H := H.all
          apply Runs.ret
          subst h
          exact (Ends.H (xs := [(.v (.bool (decide (a.d5 < b.d5))))]) (.inr rfl) H (.tmp (v := (.v (.bool (decide (a.d5 < b.d5))))) rfl .nil) (.one (.c (.v _))))
        · replace h := cond_F hc4 h
          apply Runs.skip
          refine Runs.regionH 3 rfl H ?_; intro b18 σ H
          refine Ops.move (v := (.v (.int .i64 5))) rfl rfl ?_
          refine Ops.int (m := 5) (m' := 1) (r := .int .i64 4) rfl rfl rfl rfl rfl ?_
          refine Ops.assign (v := (.v (.int .i64 4))) rfl rfl ?_
          apply Ops.nil
          replace H := H.all
          apply Runs.again
          apply Runs.then
          apply Runs.then
          refine Runs.regionH 2 rfl H ?_; intro b19 σ H
          refine Ops.move (v := (.v (.int .i64 4))) rfl rfl ?_
          refine Ops.int (m := 4) (m' := 0) (r := .bool true) rfl rfl rfl rfl rfl ?_
          apply Ops.nil
          replace H := H.all
          refine Runs.yes rfl ?_
          apply Runs.skip
          apply Runs.then
          apply Runs.inBlock
          apply Runs.then
          refine Runs.drawnH 7 rfl (by kernel_rfl) H ?_; intro b20 σ H B20
          refine Ops.move (v := (.v (.int .i64 4))) rfl rfl ?_
          refine Ops.arrAddrH (off := 0) (m := 9) (s := 1) (iv := 4) H 1 rfl rfl rfl rfl (by decide) (by decide) rfl rfl (fun _ => .inl ⟨B20 1 _ rfl _ rfl, nofun⟩) rfl ?_
          refine Ops.loadH (off := 4) (v := (.v (.int .u32 a.d4))) H 1 rfl rfl rfl rfl rfl (fun _ => .inl ⟨B20 1 _ rfl _ rfl, nofun⟩) rfl ?_
          refine Ops.move (v := (.v (.int .i64 4))) rfl rfl ?_
          refine Ops.arrAddrH (off := 0) (m := 9) (s := 1) (iv := 4) H 0 rfl rfl rfl rfl (by decide) (by decide) rfl rfl (fun _ => .inl ⟨B20 0 _ rfl _ rfl, nofun⟩) rfl ?_
          refine Ops.loadH (off := 4) (v := (.v (.int .u32 b.d4))) H 0 rfl rfl rfl rfl rfl (fun _ => .inl ⟨B20 0 _ rfl _ rfl, nofun⟩) rfl ?_
          refine Ops.int (m := a.d4) (m' := b.d4) (r := .bool (a.d4 != b.d4)) rfl rfl rfl rfl rfl ?_
          apply Ops.nil
          replace H := H.all
          refine Runs.whether (v := (a.d4 != b.d4)) rfl ?_ ?_ <;> intro hc5
          · replace h := cond_T hc5 h
            apply Runs.then
            refine Runs.drawnH 8 rfl (by kernel_rfl) H ?_; intro b21 σ H B21
            refine Ops.move (v := (.v (.int .i64 4))) rfl rfl ?_
            refine Ops.arrAddrH (off := 0) (m := 9) (s := 1) (iv := 4) H 1 rfl rfl rfl rfl (by decide) (by decide) rfl rfl (fun _ => .inl ⟨B21 1 _ rfl _ rfl, nofun⟩) rfl ?_
            refine Ops.loadH (off := 4) (v := (.v (.int .u32 a.d4))) H 1 rfl rfl rfl rfl rfl (fun _ => .inl ⟨B21 1 _ rfl _ rfl, nofun⟩) rfl ?_
            refine Ops.move (v := (.v (.int .i64 4))) rfl rfl ?_
            refine Ops.arrAddrH (off := 0) (m := 9) (s := 1) (iv := 4) H 0 rfl rfl rfl rfl (by decide) (by decide) rfl rfl (fun _ => .inl ⟨B21 0 _ rfl _ rfl, nofun⟩) rfl ?_
            refine Ops.loadH (off := 4) (v := (.v (.int .u32 b.d4))) H 0 rfl rfl rfl rfl rfl (fun _ => .inl ⟨B21 0 _ rfl _ rfl, nofun⟩) rfl ?_
            refine Ops.int (m := a.d4) (m' := b.d4) (r := .bool (decide (a.d4 < b.d4))) rfl rfl rfl rfl rfl ?_
            refine Ops.assign (v := (.v (.bool (decide (a.d4 < b.d4))))) rfl rfl ?_
            apply Ops.nil
            replace H := H.all
            apply Runs.ret
            subst h
            exact (Ends.H (xs := [(.v (.bool (decide (a.d4 < b.d4))))]) (.inr rfl) H (.tmp (v := (.v (.bool (decide (a.d4 < b.d4))))) rfl .nil) (.one (.c (.v _))))
          · replace h := cond_F hc5 h
            apply Runs.skip
            refine Runs.regionH 3 rfl H ?_; intro b22 σ H
            refine Ops.move (v := (.v (.int .i64 4))) rfl rfl ?_
            refine Ops.int (m := 4) (m' := 1) (r := .int .i64 3) rfl rfl rfl rfl rfl ?_
            refine Ops.assign (v := (.v (.int .i64 3))) rfl rfl ?_
            apply Ops.nil
            replace H := H.all
            apply Runs.again
            apply Runs.then
            apply Runs.then
            refine Runs.regionH 2 rfl H ?_; intro b23 σ H
            refine Ops.move (v := (.v (.int .i64 3))) rfl rfl ?_
            refine Ops.int (m := 3) (m' := 0) (r := .bool true) rfl rfl rfl rfl rfl ?_
            apply Ops.nil
            replace H := H.all
            refine Runs.yes rfl ?_
            apply Runs.skip
            apply Runs.then
            apply Runs.inBlock
            apply Runs.then
            refine Runs.drawnH 7 rfl (by kernel_rfl) H ?_; intro b24 σ H B24
            refine Ops.move (v := (.v (.int .i64 3))) rfl rfl ?_
            refine Ops.arrAddrH (off := 0) (m := 9) (s := 1) (iv := 3) H 1 rfl rfl rfl rfl (by decide) (by decide) rfl rfl (fun _ => .inl ⟨B24 1 _ rfl _ rfl, nofun⟩) rfl ?_
            refine Ops.loadH (off := 3) (v := (.v (.int .u32 a.d3))) H 1 rfl rfl rfl rfl rfl (fun _ => .inl ⟨B24 1 _ rfl _ rfl, nofun⟩) rfl ?_
            refine Ops.move (v := (.v (.int .i64 3))) rfl rfl ?_
            refine Ops.arrAddrH (off := 0) (m := 9) (s := 1) (iv := 3) H 0 rfl rfl rfl rfl (by decide) (by decide) rfl rfl (fun _ => .inl ⟨B24 0 _ rfl _ rfl, nofun⟩) rfl ?_
            refine Ops.loadH (off := 3) (v := (.v (.int .u32 b.d3))) H 0 rfl rfl rfl rfl rfl (fun _ => .inl ⟨B24 0 _ rfl _ rfl, nofun⟩) rfl ?_
            refine Ops.int (m := a.d3) (m' := b.d3) (r := .bool (a.d3 != b.d3)) rfl rfl rfl rfl rfl ?_
            apply Ops.nil
            replace H := H.all
            refine Runs.whether (v := (a.d3 != b.d3)) rfl ?_ ?_ <;> intro hc6
            · replace h := cond_T hc6 h
              apply Runs.then
              refine Runs.drawnH 8 rfl (by kernel_rfl) H ?_; intro b25 σ H B25
              refine Ops.move (v := (.v (.int .i64 3))) rfl rfl ?_
              refine Ops.arrAddrH (off := 0) (m := 9) (s := 1) (iv := 3) H 1 rfl rfl rfl rfl (by decide) (by decide) rfl rfl (fun _ => .inl ⟨B25 1 _ rfl _ rfl, nofun⟩) rfl ?_
              refine Ops.loadH (off := 3) (v := (.v (.int .u32 a.d3))) H 1 rfl rfl rfl rfl rfl (fun _ => .inl ⟨B25 1 _ rfl _ rfl, nofun⟩) rfl ?_
              refine Ops.move (v := (.v (.int .i64 3))) rfl rfl ?_
              refine Ops.arrAddrH (off := 0) (m := 9) (s := 1) (iv := 3) H 0 rfl rfl rfl rfl (by decide) (by decide) rfl rfl (fun _ => .inl ⟨B25 0 _ rfl _ rfl, nofun⟩) rfl ?_
              refine Ops.loadH (off := 3) (v := (.v (.int .u32 b.d3))) H 0 rfl rfl rfl rfl rfl (fun _ => .inl ⟨B25 0 _ rfl _ rfl, nofun⟩) rfl ?_
              refine Ops.int (m := a.d3) (m' := b.d3) (r := .bool (decide (a.d3 < b.d3))) rfl rfl rfl rfl rfl ?_
              refine Ops.assign (v := (.v (.bool (decide (a.d3 < b.d3))))) rfl rfl ?_
              apply Ops.nil
              replace H := H.all
              apply Runs.ret
              subst h
              exact (Ends.H (xs := [(.v (.bool (decide (a.d3 < b.d3))))]) (.inr rfl) H (.tmp (v := (.v (.bool (decide (a.d3 < b.d3))))) rfl .nil) (.one (.c (.v _))))
            · replace h := cond_F hc6 h
              apply Runs.skip
              refine Runs.regionH 3 rfl H ?_; intro b26 σ H
              refine Ops.move (v := (.v (.int .i64 3))) rfl rfl ?_
              refine Ops.int (m := 3) (m' := 1) (r := .int .i64 2) rfl rfl rfl rfl rfl ?_
              refine Ops.assign (v := (.v (.int .i64 2))) rfl rfl ?_
              apply Ops.nil
              replace H := H.all
              apply Runs.again
              apply Runs.then
              apply Runs.then
              refine Runs.regionH 2 rfl H ?_; intro b27 σ H
              refine Ops.move (v := (.v (.int .i64 2))) rfl rfl ?_
              refine Ops.int (m := 2) (m' := 0) (r := .bool true) rfl rfl rfl rfl rfl ?_
              apply Ops.nil
              replace H := H.all
              refine Runs.yes rfl ?_
              apply Runs.skip
              apply Runs.then
              apply Runs.inBlock
              apply Runs.then
              refine Runs.drawnH 7 rfl (by kernel_rfl) H ?_; intro b28 σ H B28
              refine Ops.move (v := (.v (.int .i64 2))) rfl rfl ?_
              refine Ops.arrAddrH (off := 0) (m := 9) (s := 1) (iv := 2) H 1 rfl rfl rfl rfl (by decide) (by decide) rfl rfl (fun _ => .inl ⟨B28 1 _ rfl _ rfl, nofun⟩) rfl ?_
              refine Ops.loadH (off := 2) (v := (.v (.int .u32 a.d2))) H 1 rfl rfl rfl rfl rfl (fun _ => .inl ⟨B28 1 _ rfl _ rfl, nofun⟩) rfl ?_
              refine Ops.move (v := (.v (.int .i64 2))) rfl rfl ?_
              refine Ops.arrAddrH (off := 0) (m := 9) (s := 1) (iv := 2) H 0 rfl rfl rfl rfl (by decide) (by decide) rfl rfl (fun _ => .inl ⟨B28 0 _ rfl _ rfl, nofun⟩) rfl ?_
              refine Ops.loadH (off := 2) (v := (.v (.int .u32 b.d2))) H 0 rfl rfl rfl rfl rfl (fun _ => .inl ⟨B28 0 _ rfl _ rfl, nofun⟩) rfl ?_
              refine Ops.int (m := a.d2) (m' := b.d2) (r := .bool (a.d2 != b.d2)) rfl rfl rfl rfl rfl ?_
              apply Ops.nil
              replace H := H.all
              refine Runs.whether (v := (a.d2 != b.d2)) rfl ?_ ?_ <;> intro hc7
              · replace h := cond_T hc7 h
                apply Runs.then
                refine Runs.drawnH 8 rfl (by kernel_rfl) H ?_; intro b29 σ H B29
                refine Ops.move (v := (.v (.int .i64 2))) rfl rfl ?_
                refine Ops.arrAddrH (off := 0) (m := 9) (s := 1) (iv := 2) H 1 rfl rfl rfl rfl (by decide) (by decide) rfl rfl (fun _ => .inl ⟨B29 1 _ rfl _ rfl, nofun⟩) rfl ?_
                refine Ops.loadH (off := 2) (v := (.v (.int .u32 a.d2))) H 1 rfl rfl rfl rfl rfl (fun _ => .inl ⟨B29 1 _ rfl _ rfl, nofun⟩) rfl ?_
                refine Ops.move (v := (.v (.int .i64 2))) rfl rfl ?_
                refine Ops.arrAddrH (off := 0) (m := 9) (s := 1) (iv := 2) H 0 rfl rfl rfl rfl (by decide) (by decide) rfl rfl (fun _ => .inl ⟨B29 0 _ rfl _ rfl, nofun⟩) rfl ?_
                refine Ops.loadH (off := 2) (v := (.v (.int .u32 b.d2))) H 0 rfl rfl rfl rfl rfl (fun _ => .inl ⟨B29 0 _ rfl _ rfl, nofun⟩) rfl ?_
                refine Ops.int (m := a.d2) (m' := b.d2) (r := .bool (decide (a.d2 < b.d2))) rfl rfl rfl rfl rfl ?_
                refine Ops.assign (v := (.v (.bool (decide (a.d2 < b.d2))))) rfl rfl ?_
                apply Ops.nil
                replace H := H.all
                apply Runs.ret
                subst h
                exact (Ends.H (xs := [(.v (.bool (decide (a.d2 < b.d2))))]) (.inr rfl) H (.tmp (v := (.v (.bool (decide (a.d2 < b.d2))))) rfl .nil) (.one (.c (.v _))))
              · replace h := cond_F hc7 h
                apply Runs.skip
                refine Runs.regionH 3 rfl H ?_; intro b30 σ H
                refine Ops.move (v := (.v (.int .i64 2))) rfl rfl ?_
                refine Ops.int (m := 2) (m' := 1) (r := .int .i64 1) rfl rfl rfl rfl rfl ?_
                refine Ops.assign (v := (.v (.int .i64 1))) rfl rfl ?_
                apply Ops.nil
                replace H := H.all
                apply Runs.again
                apply Runs.then
                apply Runs.then
                refine Runs.regionH 2 rfl H ?_; intro b31 σ H
                refine Ops.move (v := (.v (.int .i64 1))) rfl rfl ?_
                refine Ops.int (m := 1) (m' := 0) (r := .bool true) rfl rfl rfl rfl rfl ?_
                apply Ops.nil
                replace H := H.all
                refine Runs.yes rfl ?_
                apply Runs.skip
                apply Runs.then
                apply Runs.inBlock
                apply Runs.then
                refine Runs.drawnH 7 rfl (by kernel_rfl) H ?_; intro b32 σ H B32
                refine Ops.move (v := (.v (.int .i64 1))) rfl rfl ?_
                refine Ops.arrAddrH (off := 0) (m := 9) (s := 1) (iv := 1) H 1 rfl rfl rfl rfl (by decide) (by decide) rfl rfl (fun _ => .inl ⟨B32 1 _ rfl _ rfl, nofun⟩) rfl ?_
                refine Ops.loadH (off := 1) (v := (.v (.int .u32 a.d1))) H 1 rfl rfl rfl rfl rfl (fun _ => .inl ⟨B32 1 _ rfl _ rfl, nofun⟩) rfl ?_
                refine Ops.move (v := (.v (.int .i64 1))) rfl rfl ?_
                refine Ops.arrAddrH (off := 0) (m := 9) (s := 1) (iv := 1) H 0 rfl rfl rfl rfl (by decide) (by decide) rfl rfl (fun _ => .inl ⟨B32 0 _ rfl _ rfl, nofun⟩) rfl ?_
                refine Ops.loadH (off := 1) (v := (.v (.int .u32 b.d1))) H 0 rfl rfl rfl rfl rfl (fun _ => .inl ⟨B32 0 _ rfl _ rfl, nofun⟩) rfl ?_
                refine Ops.int (m := a.d1) (m' := b.d1) (r := .bool (a.d1 != b.d1)) rfl rfl rfl rfl rfl ?_
                apply Ops.nil
                replace H := H.all
                refine Runs.whether (v := (a.d1 != b.d1)) rfl ?_ ?_ <;> intro hc8
                · replace h := cond_T hc8 h
                  apply Runs.then
                  refine Runs.drawnH 8 rfl (by kernel_rfl) H ?_; intro b33 σ H B33
                  refine Ops.move (v := (.v (.int .i64 1))) rfl rfl ?_
                  refine Ops.arrAddrH (off := 0) (m := 9) (s := 1) (iv := 1) H 1 rfl rfl rfl rfl (by decide) (by decide) rfl rfl (fun _ => .inl ⟨B33 1 _ rfl _ rfl, nofun⟩) rfl ?_
                  refine Ops.loadH (off := 1) (v := (.v (.int .u32 a.d1))) H 1 rfl rfl rfl rfl rfl (fun _ => .inl ⟨B33 1 _ rfl _ rfl, nofun⟩) rfl ?_
                  refine Ops.move (v := (.v (.int .i64 1))) rfl rfl ?_
                  refine Ops.arrAddrH (off := 0) (m := 9) (s := 1) (iv := 1) H 0 rfl rfl rfl rfl (by decide) (by decide) rfl rfl (fun _ => .inl ⟨B33 0 _ rfl _ rfl, nofun⟩) rfl ?_
                  refine Ops.loadH (off := 1) (v := (.v (.int .u32 b.d1))) H 0 rfl rfl rfl rfl rfl (fun _ => .inl ⟨B33 0 _ rfl _ rfl, nofun⟩) rfl ?_
                  refine Ops.int (m := a.d1) (m' := b.d1) (r := .bool (decide (a.d1 < b.d1))) rfl rfl rfl rfl rfl ?_
                  refine Ops.assign (v := (.v (.bool (decide (a.d1 < b.d1))))) rfl rfl ?_
                  apply Ops.nil
                  replace H := H.all
                  apply Runs.ret
                  subst h
                  exact (Ends.H (xs := [(.v (.bool (decide (a.d1 < b.d1))))]) (.inr rfl) H (.tmp (v := (.v (.bool (decide (a.d1 < b.d1))))) rfl .nil) (.one (.c (.v _))))
                · replace h := cond_F hc8 h
                  apply Runs.skip
                  refine Runs.regionH 3 rfl H ?_; intro b34 σ H
                  refine Ops.move (v := (.v (.int .i64 1))) rfl rfl ?_
                  refine Ops.int (m := 1) (m' := 1) (r := .int .i64 0) rfl rfl rfl rfl rfl ?_
                  refine Ops.assign (v := (.v (.int .i64 0))) rfl rfl ?_
                  apply Ops.nil
                  replace H := H.all
                  apply Runs.again
                  apply Runs.then
                  apply Runs.then
                  refine Runs.regionH 2 rfl H ?_; intro b35 σ H
                  refine Ops.move (v := (.v (.int .i64 0))) rfl rfl ?_
                  refine Ops.int (m := 0) (m' := 0) (r := .bool true) rfl rfl rfl rfl rfl ?_
                  apply Ops.nil
                  replace H := H.all
                  refine Runs.yes rfl ?_
                  apply Runs.skip
                  apply Runs.then
                  apply Runs.inBlock
                  apply Runs.then
                  refine Runs.drawnH 7 rfl (by kernel_rfl) H ?_; intro b36 σ H B36
                  refine Ops.move (v := (.v (.int .i64 0))) rfl rfl ?_
                  refine Ops.arrAddrH (off := 0) (m := 9) (s := 1) (iv := 0) H 1 rfl rfl rfl rfl (by decide) (by decide) rfl rfl (fun _ => .inl ⟨B36 1 _ rfl _ rfl, nofun⟩) rfl ?_
                  refine Ops.loadH (off := 0) (v := (.v (.int .u32 a.d0))) H 1 rfl rfl rfl rfl rfl (fun _ => .inl ⟨B36 1 _ rfl _ rfl, nofun⟩) rfl ?_
                  refine Ops.move (v := (.v (.int .i64 0))) rfl rfl ?_
                  refine Ops.arrAddrH (off := 0) (m := 9) (s := 1) (iv := 0) H 0 rfl rfl rfl rfl (by decide) (by decide) rfl rfl (fun _ => .inl ⟨B36 0 _ rfl _ rfl, nofun⟩) rfl ?_
                  refine Ops.loadH (off := 0) (v := (.v (.int .u32 b.d0))) H 0 rfl rfl rfl rfl rfl (fun _ => .inl ⟨B36 0 _ rfl _ rfl, nofun⟩) rfl ?_
                  refine Ops.int (m := a.d0) (m' := b.d0) (r := .bool (a.d0 != b.d0)) rfl rfl rfl rfl rfl ?_
                  apply Ops.nil
                  replace H := H.all
                  refine Runs.whether (v := (a.d0 != b.d0)) rfl ?_ ?_ <;> intro hc9
                  · replace h := cond_T hc9 h
                    apply Runs.then
                    refine Runs.drawnH 8 rfl (by kernel_rfl) H ?_; intro b37 σ H B37
                    refine Ops.move (v := (.v (.int .i64 0))) rfl rfl ?_
                    refine Ops.arrAddrH (off := 0) (m := 9) (s := 1) (iv := 0) H 1 rfl rfl rfl rfl (by decide) (by decide) rfl rfl (fun _ => .inl ⟨B37 1 _ rfl _ rfl, nofun⟩) rfl ?_
                    refine Ops.loadH (off := 0) (v := (.v (.int .u32 a.d0))) H 1 rfl rfl rfl rfl rfl (fun _ => .inl ⟨B37 1 _ rfl _ rfl, nofun⟩) rfl ?_
                    refine Ops.move (v := (.v (.int .i64 0))) rfl rfl ?_
                    refine Ops.arrAddrH (off := 0) (m := 9) (s := 1) (iv := 0) H 0 rfl rfl rfl rfl (by decide) (by decide) rfl rfl (fun _ => .inl ⟨B37 0 _ rfl _ rfl, nofun⟩) rfl ?_
                    refine Ops.loadH (off := 0) (v := (.v (.int .u32 b.d0))) H 0 rfl rfl rfl rfl rfl (fun _ => .inl ⟨B37 0 _ rfl _ rfl, nofun⟩) rfl ?_
                    refine Ops.int (m := a.d0) (m' := b.d0) (r := .bool (decide (a.d0 < b.d0))) rfl rfl rfl rfl rfl ?_
                    refine Ops.assign (v := (.v (.bool (decide (a.d0 < b.d0))))) rfl rfl ?_
                    apply Ops.nil
                    replace H := H.all
                    apply Runs.ret
                    subst h
                    exact (Ends.H (xs := [(.v (.bool (decide (a.d0 < b.d0))))]) (.inr rfl) H (.tmp (v := (.v (.bool (decide (a.d0 < b.d0))))) rfl .nil) (.one (.c (.v _))))
                  · replace h := cond_F hc9 h
                    apply Runs.skip
                    refine Runs.regionH 3 rfl H ?_; intro b38 σ H
                    refine Ops.move (v := (.v (.int .i64 0))) rfl rfl ?_
                    refine Ops.int (m := 0) (m' := 1) (r := .int .i64 (-1)) rfl rfl rfl rfl rfl ?_
                    refine Ops.assign (v := (.v (.int .i64 (-1)))) rfl rfl ?_
                    apply Ops.nil
                    replace H := H.all
                    apply Runs.again
                    apply Runs.then
                    apply Runs.then
                    refine Runs.regionH 2 rfl H ?_; intro b39 σ H
                    refine Ops.move (v := (.v (.int .i64 (-1)))) rfl rfl ?_
                    refine Ops.int (m := (-1)) (m' := 0) (r := .bool false) rfl rfl rfl rfl rfl ?_
                    apply Ops.nil
                    replace H := H.all
                    refine Runs.no rfl ?_
                    apply Runs.exit
                    apply Runs.then
                    refine Runs.regionH 1 rfl H ?_; intro b40 σ H
                    refine Ops.assign (v := (.v (.bool false))) rfl rfl ?_
                    apply Ops.nil
                    replace H := H.all
                    apply Runs.ret
                    subst h
                    exact (Ends.H (xs := [(.v (.bool false))]) (.inr rfl) H (.tmp (v := (.v (.bool false))) rfl .nil) (.one (.c (.v _))))

set_option maxRecDepth 100000 in
set_option maxHeartbeats 4000000 in
theorem epactref01_rest_fn {a : Arr9_u32} {b : Arr9_u32} {r : Arr9_u32} (h : epactref01_rest a b = some r) : Fn CX 74 [(.agg (vs (Arr9_u32.cs a))), (.agg (vs (Arr9_u32.cs b)))] (.agg (vs (Arr9_u32.cs r))) := by
  refine Fn.ends Try.func74 rfl rfl rfl rfl rfl rfl ?_
  have H : Hs (⟨0, fun _ => .none⟩ : Heap) [] := Has.nil (Nat.le_refl _)
  generalize (⟨0, fun _ => .none⟩ : Heap) = σ at H ⊢
  unfold epactref01_rest at h
  apply Runs.then
  refine Runs.regionH 3 rfl H ?_; intro b1 σ H
  refine Ops.boxH (v := (.agg [(.v (.int .u32 a.d0)), (.v (.int .u32 a.d1)), (.v (.int .u32 a.d2)), (.v (.int .u32 a.d3)), (.v (.int .u32 a.d4)), (.v (.int .u32 a.d5)), (.v (.int .u32 a.d6)), (.v (.int .u32 a.d7)), (.v (.int .u32 a.d8))])) (cs := [(.v (.int .u32 a.d0)), (.v (.int .u32 a.d1)), (.v (.int .u32 a.d2)), (.v (.int .u32 a.d3)), (.v (.int .u32 a.d4)), (.v (.int .u32 a.d5)), (.v (.int .u32 a.d6)), (.v (.int .u32 a.d7)), (.v (.int .u32 a.d8))]) H (by omega) (by omega) rfl rfl rfl ?_; intro σ H
  refine Ops.boxH (v := (.agg [(.v (.int .u32 b.d0)), (.v (.int .u32 b.d1)), (.v (.int .u32 b.d2)), (.v (.int .u32 b.d3)), (.v (.int .u32 b.d4)), (.v (.int .u32 b.d5)), (.v (.int .u32 b.d6)), (.v (.int .u32 b.d7)), (.v (.int .u32 b.d8))])) (cs := [(.v (.int .u32 b.d0)), (.v (.int .u32 b.d1)), (.v (.int .u32 b.d2)), (.v (.int .u32 b.d3)), (.v (.int .u32 b.d4)), (.v (.int .u32 b.d5)), (.v (.int .u32 b.d6)), (.v (.int .u32 b.d7)), (.v (.int .u32 b.d8))]) H (by omega) (by omega) rfl rfl rfl ?_; intro σ H
  refine Ops.allocH (cs := [(.v (.int .u32 0)), (.v (.int .u32 0)), (.v (.int .u32 0)), (.v (.int .u32 0)), (.v (.int .u32 0)), (.v (.int .u32 0)), (.v (.int .u32 0)), (.v (.int .u32 0)), (.v (.int .u32 0))]) H (by omega) (by omega) rfl rfl ?_; intro σ H
  apply Ops.nil
  replace H := H.all
  apply Runs.then
  refine Runs.regionH 1 rfl H ?_; intro b2 σ H
  refine Ops.allocH (cs := [(.v (.int .u32 0)), (.v (.int .u32 0)), (.v (.int .u32 0)), (.v (.int .u32 0)), (.v (.int .u32 0)), (.v (.int .u32 0)), (.v (.int .u32 0)), (.v (.int .u32 0)), (.v (.int .u32 0))]) H (by omega) (by omega) rfl rfl ?_; intro σ H
  apply Ops.nil
  replace H := H.all
  apply Runs.then
  refine Runs.regionH 1 rfl H ?_; intro b3 σ H
  refine Ops.assign (v := (.v (.int .u32 0))) rfl rfl ?_
  apply Ops.nil
  replace H := H.all
  apply Runs.then
  apply Runs.then
  refine Runs.regionH 1 rfl H ?_; intro b4 σ H
  refine Ops.assign (v := (.v (.int .i64 0))) rfl rfl ?_
  apply Ops.nil
  replace H := H.all
  apply Runs.inBlock
  apply Runs.again
  apply Runs.then
  apply Runs.then
  refine Runs.regionH 2 rfl H ?_; intro b5 σ H
  refine Ops.move (v := (.v (.int .i64 0))) rfl rfl ?_
  refine Ops.int (m := 0) (m' := 9) (r := .bool true) rfl rfl rfl rfl rfl ?_
  apply Ops.nil
  replace H := H.all
  refine Runs.yes rfl ?_
  apply Runs.skip
  apply Runs.then
  apply Runs.inBlock
  apply Runs.then
  refine Runs.drawnH 11 rfl (by kernel_rfl) H ?_; intro b6 σ H B6
  refine Ops.move (v := (.v (.int .i64 0))) rfl rfl ?_
  refine Ops.arrAddrH (off := 0) (m := 9) (s := 1) (iv := 0) H 3 rfl rfl rfl rfl (by decide) (by decide) rfl rfl (fun _ => .inl ⟨B6 3 _ rfl _ rfl, nofun⟩) rfl ?_
  refine Ops.loadH (off := 0) (v := (.v (.int .u32 a.d0))) H 3 rfl rfl rfl rfl rfl (fun _ => .inl ⟨B6 3 _ rfl _ rfl, nofun⟩) rfl ?_
  refine Ops.int (m := a.d0) (m' := 65536) (r := .int .u32 (IntKind.u32.wrap (a.d0 + 65536))) rfl rfl rfl rfl rfl ?_
  refine Ops.move (v := (.v (.int .i64 0))) rfl rfl ?_
  refine Ops.arrAddrH (off := 0) (m := 9) (s := 1) (iv := 0) H 2 rfl rfl rfl rfl (by decide) (by decide) rfl rfl (fun _ => .inl ⟨B6 2 _ rfl _ rfl, nofun⟩) rfl ?_
  refine Ops.loadH (off := 0) (v := (.v (.int .u32 b.d0))) H 2 rfl rfl rfl rfl rfl (fun _ => .inl ⟨B6 2 _ rfl _ rfl, nofun⟩) rfl ?_
  refine Ops.int (m := (IntKind.u32.wrap (a.d0 + 65536))) (m' := b.d0) (r := .int .u32 (IntKind.u32.wrap ((IntKind.u32.wrap (a.d0 + 65536)) - b.d0))) rfl rfl rfl rfl rfl ?_
  refine Ops.move (v := (.v (.int .u32 0))) rfl rfl ?_
  refine Ops.int (m := (IntKind.u32.wrap ((IntKind.u32.wrap (a.d0 + 65536)) - b.d0))) (m' := 0) (r := .int .u32 (IntKind.u32.wrap ((IntKind.u32.wrap ((IntKind.u32.wrap (a.d0 + 65536)) - b.d0)) - 0))) rfl rfl rfl rfl rfl ?_
  obtain ⟨x1, q1, h⟩ := bind_some h
  refine Ops.assign (v := (.v (.int .u32 x1))) (by rw [← Option.some.inj q1]; rfl) rfl ?_
  apply Ops.nil
  replace H := H.all
  apply Runs.then
  refine Runs.regionH 5 rfl H ?_; intro b7 σ H
  refine Ops.move (v := (.v (.int .i64 0))) rfl rfl ?_
  refine Ops.move (v := (.v (.int .u32 x1))) rfl rfl ?_
  refine Ops.rem (m := x1) (m' := 65536) rfl rfl (by decide) rfl ?_
  refine Ops.arrAddrH (off := 0) (m := 9) (s := 1) (iv := 0) H 0 rfl rfl rfl rfl (by decide) (by decide) rfl rfl nofun rfl ?_
  refine Ops.storeH (off := 0) (v := (.v (.int .u32 (x1.tmod 65536)))) (ys := [(.v (.int .u32 (x1.tmod 65536)))]) (cells' := [(.v (.int .u32 (x1.tmod 65536))), (.v (.int .u32 0)), (.v (.int .u32 0)), (.v (.int .u32 0)), (.v (.int .u32 0)), (.v (.int .u32 0)), (.v (.int .u32 0)), (.v (.int .u32 0)), (.v (.int .u32 0))]) H 0 rfl rfl rfl rfl rfl rfl rfl rfl rfl nofun ?_; intro σ H
  apply Ops.nil
  replace H := H.all
  refine Runs.regionH 4 rfl H ?_; intro b8 σ H
  refine Ops.move (v := (.v (.int .u32 x1))) rfl rfl ?_
  refine Ops.quo (m := x1) (m' := 65536) rfl rfl (by decide) rfl ?_
  refine Ops.int (m := 1) (m' := (IntKind.u32.wrap (x1.tdiv 65536))) (r := .int .u32 (IntKind.u32.wrap (1 - (IntKind.u32.wrap (x1.tdiv 65536))))) rfl rfl rfl rfl rfl ?_
  obtain ⟨x2, q2, h⟩ := bind_some h
  refine Ops.assign (v := (.v (.int .u32 x2))) (by rw [← Option.some.inj q2]; rfl) rfl ?_
  apply Ops.nil
  replace H := H.all
  refine Runs.regionH 3 rfl H ?_; intro b9 σ H
  refine Ops.move (v := (.v (.int .i64 0))) rfl rfl ?_
  refine Ops.int (m := 0) (m' := 1) (r := .int .i64 1) rfl rfl rfl rfl rfl ?_
  refine Ops.assign (v := (.v (.int .i64 1))) rfl rfl ?_
  apply Ops.nil
  replace H := H.all
  apply Runs.again
  apply Runs.then
  apply Runs.then
  refine Runs.regionH 2 rfl H ?_; intro b10 σ H
  refine Ops.move (v := (.v (.int .i64 1))) rfl rfl ?_
  refine Ops.int (m := 1) (m' := 9) (r := .bool true) rfl rfl rfl rfl rfl ?_
  apply Ops.nil
  replace H := H.all
  refine Runs.yes rfl ?_
  apply Runs.skip
  apply Runs.then
  apply Runs.inBlock
  apply Runs.then
  refine Runs.drawnH 11 rfl (by kernel_rfl) H ?_; intro b11 σ H B11
  refine Ops.move (v := (.v (.int .i64 1))) rfl rfl ?_
  refine Ops.arrAddrH (off := 0) (m := 9) (s := 1) (iv := 1) H 3 rfl rfl rfl rfl (by decide) (by decide) rfl rfl (fun _ => .inl ⟨B11 3 _ rfl _ rfl, nofun⟩) rfl ?_
  refine Ops.loadH (off := 1) (v := (.v (.int .u32 a.d1))) H 3 rfl rfl rfl rfl rfl (fun _ => .inl ⟨B11 3 _ rfl _ rfl, nofun⟩) rfl ?_
  refine Ops.int (m := a.d1) (m' := 65536) (r := .int .u32 (IntKind.u32.wrap (a.d1 + 65536))) rfl rfl rfl rfl rfl ?_
  refine Ops.move (v := (.v (.int .i64 1))) rfl rfl ?_
  refine Ops.arrAddrH (off := 0) (m := 9) (s := 1) (iv := 1) H 2 rfl rfl rfl rfl (by decide) (by decide) rfl rfl (fun _ => .inl ⟨B11 2 _ rfl _ rfl, nofun⟩) rfl ?_
  refine Ops.loadH (off := 1) (v := (.v (.int .u32 b.d1))) H 2 rfl rfl rfl rfl rfl (fun _ => .inl ⟨B11 2 _ rfl _ rfl, nofun⟩) rfl ?_
  refine Ops.int (m := (IntKind.u32.wrap (a.d1 + 65536))) (m' := b.d1) (r := .int .u32 (IntKind.u32.wrap ((IntKind.u32.wrap (a.d1 + 65536)) - b.d1))) rfl rfl rfl rfl rfl ?_
  refine Ops.move (v := (.v (.int .u32 x2))) rfl rfl ?_
  refine Ops.int (m := (IntKind.u32.wrap ((IntKind.u32.wrap (a.d1 + 65536)) - b.d1))) (m' := x2) (r := .int .u32 (IntKind.u32.wrap ((IntKind.u32.wrap ((IntKind.u32.wrap (a.d1 + 65536)) - b.d1)) - x2))) rfl rfl rfl rfl rfl ?_
  obtain ⟨x3, q3, h⟩ := bind_some h
  refine Ops.assign (v := (.v (.int .u32 x3))) (by rw [← Option.some.inj q3]; rfl) rfl ?_
  apply Ops.nil
  replace H := H.all
  apply Runs.then
  refine Runs.regionH 5 rfl H ?_; intro b12 σ H
  refine Ops.move (v := (.v (.int .i64 1))) rfl rfl ?_
  refine Ops.move (v := (.v (.int .u32 x3))) rfl rfl ?_
  refine Ops.rem (m := x3) (m' := 65536) rfl rfl (by decide) rfl ?_
  refine Ops.arrAddrH (off := 0) (m := 9) (s := 1) (iv := 1) H 0 rfl rfl rfl rfl (by decide) (by decide) rfl rfl nofun rfl ?_
  refine Ops.storeH (off := 1) (v := (.v (.int .u32 (x3.tmod 65536)))) (ys := [(.v (.int .u32 (x3.tmod 65536)))]) (cells' := [(.v (.int .u32 (x1.tmod 65536))), (.v (.int .u32 (x3.tmod 65536))), (.v (.int .u32 0)), (.v (.int .u32 0)), (.v (.int .u32 0)), (.v (.int .u32 0)), (.v (.int .u32 0)), (.v (.int .u32 0)), (.v (.int .u32 0))]) H 0 rfl rfl rfl rfl rfl rfl rfl rfl rfl nofun ?_; intro σ H
  apply Ops.nil
  replace H := H.all
  refine Runs.regionH 4 rfl H ?_; intro b13 σ H
  refine Ops.move (v := (.v (.int .u32 x3))) rfl rfl ?_
  refine Ops.quo (m := x3) (m' := 65536) rfl rfl (by decide) rfl ?_
  refine Ops.int (m := 1) (m' := (IntKind.u32.wrap (x3.tdiv 65536))) (r := .int .u32 (IntKind.u32.wrap (1 - (IntKind.u32.wrap (x3.tdiv 65536))))) rfl rfl rfl rfl rfl ?_
  obtain ⟨x4, q4, h⟩ := bind_some h
  refine Ops.assign (v := (.v (.int .u32 x4))) (by rw [← Option.some.inj q4]; rfl) rfl ?_
  apply Ops.nil
  replace H := H.all
  refine Runs.regionH 3 rfl H ?_; intro b14 σ H
  refine Ops.move (v := (.v (.int .i64 1))) rfl rfl ?_
  refine Ops.int (m := 1) (m' := 1) (r := .int .i64 2) rfl rfl rfl rfl rfl ?_
  refine Ops.assign (v := (.v (.int .i64 2))) rfl rfl ?_
  apply Ops.nil
  replace H := H.all
  apply Runs.again
  apply Runs.then
  apply Runs.then
  refine Runs.regionH 2 rfl H ?_; intro b15 σ H
  refine Ops.move (v := (.v (.int .i64 2))) rfl rfl ?_
  refine Ops.int (m := 2) (m' := 9) (r := .bool true) rfl rfl rfl rfl rfl ?_
  apply Ops.nil
  replace H := H.all
  refine Runs.yes rfl ?_
  apply Runs.skip
  apply Runs.then
  apply Runs.inBlock
  apply Runs.then
  refine Runs.drawnH 11 rfl (by kernel_rfl) H ?_; intro b16 σ H B16
  refine Ops.move (v := (.v (.int .i64 2))) rfl rfl ?_
  refine Ops.arrAddrH (off := 0) (m := 9) (s := 1) (iv := 2) H 3 rfl rfl rfl rfl (by decide) (by decide) rfl rfl (fun _ => .inl ⟨B16 3 _ rfl _ rfl, nofun⟩) rfl ?_
  refine Ops.loadH (off := 2) (v := (.v (.int .u32 a.d2))) H 3 rfl rfl rfl rfl rfl (fun _ => .inl ⟨B16 3 _ rfl _ rfl, nofun⟩) rfl ?_
  refine Ops.int (m := a.d2) (m' := 65536) (r := .int .u32 (IntKind.u32.wrap (a.d2 + 65536))) rfl rfl rfl rfl rfl ?_
  refine Ops.move (v := (.v (.int .i64 2))) rfl rfl ?_
  refine Ops.arrAddrH (off := 0) (m := 9) (s := 1) (iv := 2) H 2 rfl rfl rfl rfl (by decide) (by decide) rfl rfl (fun _ => .inl ⟨B16 2 _ rfl _ rfl, nofun⟩) rfl ?_
  refine Ops.loadH (off := 2) (v := (.v (.int .u32 b.d2))) H 2 rfl rfl rfl rfl rfl (fun _ => .inl ⟨B16 2 _ rfl _ rfl, nofun⟩) rfl ?_
  refine Ops.int (m := (IntKind.u32.wrap (a.d2 + 65536))) (m' := b.d2) (r := .int .u32 (IntKind.u32.wrap ((IntKind.u32.wrap (a.d2 + 65536)) - b.d2))) rfl rfl rfl rfl rfl ?_
  refine Ops.move (v := (.v (.int .u32 x4))) rfl rfl ?_
  refine Ops.int (m := (IntKind.u32.wrap ((IntKind.u32.wrap (a.d2 + 65536)) - b.d2))) (m' := x4) (r := .int .u32 (IntKind.u32.wrap ((IntKind.u32.wrap ((IntKind.u32.wrap (a.d2 + 65536)) - b.d2)) - x4))) rfl rfl rfl rfl rfl ?_
  obtain ⟨x5, q5, h⟩ := bind_some h
  refine Ops.assign (v := (.v (.int .u32 x5))) (by rw [← Option.some.inj q5]; rfl) rfl ?_
  apply Ops.nil
  replace H := H.all
  apply Runs.then
  refine Runs.regionH 5 rfl H ?_; intro b17 σ H
  refine Ops.move (v := (.v (.int .i64 2))) rfl rfl ?_
  refine Ops.move (v := (.v (.int .u32 x5))) rfl rfl ?_
  refine Ops.rem (m := x5) (m' := 65536) rfl rfl (by decide) rfl ?_
  refine Ops.arrAddrH (off := 0) (m := 9) (s := 1) (iv := 2) H 0 rfl rfl rfl rfl (by decide) (by decide) rfl rfl nofun rfl ?_
  refine Ops.storeH (off := 2) (v := (.v (.int .u32 (x5.tmod 65536)))) (ys := [(.v (.int .u32 (x5.tmod 65536)))]) (cells' := [(.v (.int .u32 (x1.tmod 65536))), (.v (.int .u32 (x3.tmod 65536))), (.v (.int .u32 (x5.tmod 65536))), (.v (.int .u32 0)), (.v (.int .u32 0)), (.v (.int .u32 0)), (.v (.int .u32 0)), (.v (.int .u32 0)), (.v (.int .u32 0))]) H 0 rfl rfl rfl rfl rfl rfl rfl rfl rfl nofun ?_; intro σ H
  apply Ops.nil
  replace H := H.all
  refine Runs.regionH 4 rfl H ?_; intro b18 σ H
  refine Ops.move (v := (.v (.int .u32 x5))) rfl rfl ?_
  refine Ops.quo (m := x5) (m' := 65536) rfl rfl (by decide) rfl ?_
  refine Ops.int (m := 1) (m' := (IntKind.u32.wrap (x5.tdiv 65536))) (r := .int .u32 (IntKind.u32.wrap (1 - (IntKind.u32.wrap (x5.tdiv 65536))))) rfl rfl rfl rfl rfl ?_
  obtain ⟨x6, q6, h⟩ := bind_some h
  refine Ops.assign (v := (.v (.int .u32 x6))) (by rw [← Option.some.inj q6]; rfl) rfl ?_
  apply Ops.nil
  replace H := H.all
  refine Runs.regionH 3 rfl H ?_; intro b19 σ H
  refine Ops.move (v := (.v (.int .i64 2))) rfl rfl ?_
  refine Ops.int (m := 2) (m' := 1) (r := .int .i64 3) rfl rfl rfl rfl rfl ?_
  refine Ops.assign (v := (.v (.int .i64 3))) rfl rfl ?_
  apply Ops.nil
  replace H := H.all
  apply Runs.again
  apply Runs.then
  apply Runs.then
  refine Runs.regionH 2 rfl H ?_; intro b20 σ H
  refine Ops.move (v := (.v (.int .i64 3))) rfl rfl ?_
  refine Ops.int (m := 3) (m' := 9) (r := .bool true) rfl rfl rfl rfl rfl ?_
  apply Ops.nil
  replace H := H.all
  refine Runs.yes rfl ?_
  apply Runs.skip
  apply Runs.then
  apply Runs.inBlock
  apply Runs.then
  refine Runs.drawnH 11 rfl (by kernel_rfl) H ?_; intro b21 σ H B21
  refine Ops.move (v := (.v (.int .i64 3))) rfl rfl ?_
  refine Ops.arrAddrH (off := 0) (m := 9) (s := 1) (iv := 3) H 3 rfl rfl rfl rfl (by decide) (by decide) rfl rfl (fun _ => .inl ⟨B21 3 _ rfl _ rfl, nofun⟩) rfl ?_
  refine Ops.loadH (off := 3) (v := (.v (.int .u32 a.d3))) H 3 rfl rfl rfl rfl rfl (fun _ => .inl ⟨B21 3 _ rfl _ rfl, nofun⟩) rfl ?_
  refine Ops.int (m := a.d3) (m' := 65536) (r := .int .u32 (IntKind.u32.wrap (a.d3 + 65536))) rfl rfl rfl rfl rfl ?_
  refine Ops.move (v := (.v (.int .i64 3))) rfl rfl ?_
  refine Ops.arrAddrH (off := 0) (m := 9) (s := 1) (iv := 3) H 2 rfl rfl rfl rfl (by decide) (by decide) rfl rfl (fun _ => .inl ⟨B21 2 _ rfl _ rfl, nofun⟩) rfl ?_
  refine Ops.loadH (off := 3) (v := (.v (.int .u32 b.d3))) H 2 rfl rfl rfl rfl rfl (fun _ => .inl ⟨B21 2 _ rfl _ rfl, nofun⟩) rfl ?_
  refine Ops.int (m := (IntKind.u32.wrap (a.d3 + 65536))) (m' := b.d3) (r := .int .u32 (IntKind.u32.wrap ((IntKind.u32.wrap (a.d3 + 65536)) - b.d3))) rfl rfl rfl rfl rfl ?_
  refine Ops.move (v := (.v (.int .u32 x6))) rfl rfl ?_
  refine Ops.int (m := (IntKind.u32.wrap ((IntKind.u32.wrap (a.d3 + 65536)) - b.d3))) (m' := x6) (r := .int .u32 (IntKind.u32.wrap ((IntKind.u32.wrap ((IntKind.u32.wrap (a.d3 + 65536)) - b.d3)) - x6))) rfl rfl rfl rfl rfl ?_
  obtain ⟨x7, q7, h⟩ := bind_some h
  refine Ops.assign (v := (.v (.int .u32 x7))) (by rw [← Option.some.inj q7]; rfl) rfl ?_
  apply Ops.nil
  replace H := H.all
  apply Runs.then
  refine Runs.regionH 5 rfl H ?_; intro b22 σ H
  refine Ops.move (v := (.v (.int .i64 3))) rfl rfl ?_
  refine Ops.move (v := (.v (.int .u32 x7))) rfl rfl ?_
  refine Ops.rem (m := x7) (m' := 65536) rfl rfl (by decide) rfl ?_
  refine Ops.arrAddrH (off := 0) (m := 9) (s := 1) (iv := 3) H 0 rfl rfl rfl rfl (by decide) (by decide) rfl rfl nofun rfl ?_
  refine Ops.storeH (off := 3) (v := (.v (.int .u32 (x7.tmod 65536)))) (ys := [(.v (.int .u32 (x7.tmod 65536)))]) (cells' := [(.v (.int .u32 (x1.tmod 65536))), (.v (.int .u32 (x3.tmod 65536))), (.v (.int .u32 (x5.tmod 65536))), (.v (.int .u32 (x7.tmod 65536))), (.v (.int .u32 0)), (.v (.int .u32 0)), (.v (.int .u32 0)), (.v (.int .u32 0)), (.v (.int .u32 0))]) H 0 rfl rfl rfl rfl rfl rfl rfl rfl rfl nofun ?_; intro σ H
  apply Ops.nil
  replace H := H.all
  refine Runs.regionH 4 rfl H ?_; intro b23 σ H
  refine Ops.move (v := (.v (.int .u32 x7))) rfl rfl ?_
  refine Ops.quo (m := x7) (m' := 65536) rfl rfl (by decide) rfl ?_
  refine Ops.int (m := 1) (m' := (IntKind.u32.wrap (x7.tdiv 65536))) (r := .int .u32 (IntKind.u32.wrap (1 - (IntKind.u32.wrap (x7.tdiv 65536))))) rfl rfl rfl rfl rfl ?_
  obtain ⟨x8, q8, h⟩ := bind_some h
  refine Ops.assign (v := (.v (.int .u32 x8))) (by rw [← Option.some.inj q8]; rfl) rfl ?_
  apply Ops.nil
  replace H := H.all
  refine Runs.regionH 3 rfl H ?_; intro b24 σ H
  refine Ops.move (v := (.v (.int .i64 3))) rfl rfl ?_
  refine Ops.int (m := 3) (m' := 1) (r := .int .i64 4) rfl rfl rfl rfl rfl ?_
  refine Ops.assign (v := (.v (.int .i64 4))) rfl rfl ?_
  apply Ops.nil
  replace H := H.all
  apply Runs.again
  apply Runs.then
  apply Runs.then
  refine Runs.regionH 2 rfl H ?_; intro b25 σ H
  refine Ops.move (v := (.v (.int .i64 4))) rfl rfl ?_
  refine Ops.int (m := 4) (m' := 9) (r := .bool true) rfl rfl rfl rfl rfl ?_
  apply Ops.nil
  replace H := H.all
  refine Runs.yes rfl ?_
  apply Runs.skip
  apply Runs.then
  apply Runs.inBlock
  apply Runs.then
  refine Runs.drawnH 11 rfl (by kernel_rfl) H ?_; intro b26 σ H B26
  refine Ops.move (v := (.v (.int .i64 4))) rfl rfl ?_
  refine Ops.arrAddrH (off := 0) (m := 9) (s := 1) (iv := 4) H 3 rfl rfl rfl rfl (by decide) (by decide) rfl rfl (fun _ => .inl ⟨B26 3 _ rfl _ rfl, nofun⟩) rfl ?_
  refine Ops.loadH (off := 4) (v := (.v (.int .u32 a.d4))) H 3 rfl rfl rfl rfl rfl (fun _ => .inl ⟨B26 3 _ rfl _ rfl, nofun⟩) rfl ?_
  refine Ops.int (m := a.d4) (m' := 65536) (r := .int .u32 (IntKind.u32.wrap (a.d4 + 65536))) rfl rfl rfl rfl rfl ?_
  refine Ops.move (v := (.v (.int .i64 4))) rfl rfl ?_
  refine Ops.arrAddrH (off := 0) (m := 9) (s := 1) (iv := 4) H 2 rfl rfl rfl rfl (by decide) (by decide) rfl rfl (fun _ => .inl ⟨B26 2 _ rfl _ rfl, nofun⟩) rfl ?_
  refine Ops.loadH (off := 4) (v := (.v (.int .u32 b.d4))) H 2 rfl rfl rfl rfl rfl (fun _ => .inl ⟨B26 2 _ rfl _ rfl, nofun⟩) rfl ?_
  refine Ops.int (m := (IntKind.u32.wrap (a.d4 + 65536))) (m' := b.d4) (r := .int .u32 (IntKind.u32.wrap ((IntKind.u32.wrap (a.d4 + 65536)) - b.d4))) rfl rfl rfl rfl rfl ?_
  refine Ops.move (v := (.v (.int .u32 x8))) rfl rfl ?_
  refine Ops.int (m := (IntKind.u32.wrap ((IntKind.u32.wrap (a.d4 + 65536)) - b.d4))) (m' := x8) (r := .int .u32 (IntKind.u32.wrap ((IntKind.u32.wrap ((IntKind.u32.wrap (a.d4 + 65536)) - b.d4)) - x8))) rfl rfl rfl rfl rfl ?_
  obtain ⟨x9, q9, h⟩ := bind_some h
  refine Ops.assign (v := (.v (.int .u32 x9))) (by rw [← Option.some.inj q9]; rfl) rfl ?_
  apply Ops.nil
  replace H := H.all
  apply Runs.then
  refine Runs.regionH 5 rfl H ?_; intro b27 σ H
  refine Ops.move (v := (.v (.int .i64 4))) rfl rfl ?_
  refine Ops.move (v := (.v (.int .u32 x9))) rfl rfl ?_
  refine Ops.rem (m := x9) (m' := 65536) rfl rfl (by decide) rfl ?_
  refine Ops.arrAddrH (off := 0) (m := 9) (s := 1) (iv := 4) H 0 rfl rfl rfl rfl (by decide) (by decide) rfl rfl nofun rfl ?_
  refine Ops.storeH (off := 4) (v := (.v (.int .u32 (x9.tmod 65536)))) (ys := [(.v (.int .u32 (x9.tmod 65536)))]) (cells' := [(.v (.int .u32 (x1.tmod 65536))), (.v (.int .u32 (x3.tmod 65536))), (.v (.int .u32 (x5.tmod 65536))), (.v (.int .u32 (x7.tmod 65536))), (.v (.int .u32 (x9.tmod 65536))), (.v (.int .u32 0)), (.v (.int .u32 0)), (.v (.int .u32 0)), (.v (.int .u32 0))]) H 0 rfl rfl rfl rfl rfl rfl rfl rfl rfl nofun ?_; intro σ H
  apply Ops.nil
  replace H := H.all
  refine Runs.regionH 4 rfl H ?_; intro b28 σ H
  refine Ops.move (v := (.v (.int .u32 x9))) rfl rfl ?_
  refine Ops.quo (m := x9) (m' := 65536) rfl rfl (by decide) rfl ?_
  refine Ops.int (m := 1) (m' := (IntKind.u32.wrap (x9.tdiv 65536))) (r := .int .u32 (IntKind.u32.wrap (1 - (IntKind.u32.wrap (x9.tdiv 65536))))) rfl rfl rfl rfl rfl ?_
  obtain ⟨x10, q10, h⟩ := bind_some h
  refine Ops.assign (v := (.v (.int .u32 x10))) (by rw [← Option.some.inj q10]; rfl) rfl ?_
  apply Ops.nil
  replace H := H.all
  refine Runs.regionH 3 rfl H ?_; intro b29 σ H
  refine Ops.move (v := (.v (.int .i64 4))) rfl rfl ?_
  refine Ops.int (m := 4) (m' := 1) (r := .int .i64 5) rfl rfl rfl rfl rfl ?_
  refine Ops.assign (v := (.v (.int .i64 5))) rfl rfl ?_
  apply Ops.nil
  replace H := H.all
  apply Runs.again
  apply Runs.then
  apply Runs.then
  refine Runs.regionH 2 rfl H ?_; intro b30 σ H
  refine Ops.move (v := (.v (.int .i64 5))) rfl rfl ?_
  refine Ops.int (m := 5) (m' := 9) (r := .bool true) rfl rfl rfl rfl rfl ?_
  apply Ops.nil
  replace H := H.all
  refine Runs.yes rfl ?_
  apply Runs.skip
  apply Runs.then
  apply Runs.inBlock
  apply Runs.then
  refine Runs.drawnH 11 rfl (by kernel_rfl) H ?_; intro b31 σ H B31
  refine Ops.move (v := (.v (.int .i64 5))) rfl rfl ?_
  refine Ops.arrAddrH (off := 0) (m := 9) (s := 1) (iv := 5) H 3 rfl rfl rfl rfl (by decide) (by decide) rfl rfl (fun _ => .inl ⟨B31 3 _ rfl _ rfl, nofun⟩) rfl ?_
  refine Ops.loadH (off := 5) (v := (.v (.int .u32 a.d5))) H 3 rfl rfl rfl rfl rfl (fun _ => .inl ⟨B31 3 _ rfl _ rfl, nofun⟩) rfl ?_
  refine Ops.int (m := a.d5) (m' := 65536) (r := .int .u32 (IntKind.u32.wrap (a.d5 + 65536))) rfl rfl rfl rfl rfl ?_
  refine Ops.move (v := (.v (.int .i64 5))) rfl rfl ?_
  refine Ops.arrAddrH (off := 0) (m := 9) (s := 1) (iv := 5) H 2 rfl rfl rfl rfl (by decide) (by decide) rfl rfl (fun _ => .inl ⟨B31 2 _ rfl _ rfl, nofun⟩) rfl ?_
  refine Ops.loadH (off := 5) (v := (.v (.int .u32 b.d5))) H 2 rfl rfl rfl rfl rfl (fun _ => .inl ⟨B31 2 _ rfl _ rfl, nofun⟩) rfl ?_
  refine Ops.int (m := (IntKind.u32.wrap (a.d5 + 65536))) (m' := b.d5) (r := .int .u32 (IntKind.u32.wrap ((IntKind.u32.wrap (a.d5 + 65536)) - b.d5))) rfl rfl rfl rfl rfl ?_
  refine Ops.move (v := (.v (.int .u32 x10))) rfl rfl ?_
  refine Ops.int (m := (IntKind.u32.wrap ((IntKind.u32.wrap (a.d5 + 65536)) - b.d5))) (m' := x10) (r := .int .u32 (IntKind.u32.wrap ((IntKind.u32.wrap ((IntKind.u32.wrap (a.d5 + 65536)) - b.d5)) - x10))) rfl rfl rfl rfl rfl ?_
  obtain ⟨x11, q11, h⟩ := bind_some h
  refine Ops.assign (v := (.v (.int .u32 x11))) (by rw [← Option.some.inj q11]; rfl) rfl ?_
  apply Ops.nil
  replace H := H.all
  apply Runs.then
  refine Runs.regionH 5 rfl H ?_; intro b32 σ H
  refine Ops.move (v := (.v (.int .i64 5))) rfl rfl ?_
  refine Ops.move (v := (.v (.int .u32 x11))) rfl rfl ?_
  refine Ops.rem (m := x11) (m' := 65536) rfl rfl (by decide) rfl ?_
  refine Ops.arrAddrH (off := 0) (m := 9) (s := 1) (iv := 5) H 0 rfl rfl rfl rfl (by decide) (by decide) rfl rfl nofun rfl ?_
  refine Ops.storeH (off := 5) (v := (.v (.int .u32 (x11.tmod 65536)))) (ys := [(.v (.int .u32 (x11.tmod 65536)))]) (cells' := [(.v (.int .u32 (x1.tmod 65536))), (.v (.int .u32 (x3.tmod 65536))), (.v (.int .u32 (x5.tmod 65536))), (.v (.int .u32 (x7.tmod 65536))), (.v (.int .u32 (x9.tmod 65536))), (.v (.int .u32 (x11.tmod 65536))), (.v (.int .u32 0)), (.v (.int .u32 0)), (.v (.int .u32 0))]) H 0 rfl rfl rfl rfl rfl rfl rfl rfl rfl nofun ?_; intro σ H
  apply Ops.nil
  replace H := H.all
  refine Runs.regionH 4 rfl H ?_; intro b33 σ H
  refine Ops.move (v := (.v (.int .u32 x11))) rfl rfl ?_
  refine Ops.quo (m := x11) (m' := 65536) rfl rfl (by decide) rfl ?_
  refine Ops.int (m := 1) (m' := (IntKind.u32.wrap (x11.tdiv 65536))) (r := .int .u32 (IntKind.u32.wrap (1 - (IntKind.u32.wrap (x11.tdiv 65536))))) rfl rfl rfl rfl rfl ?_
  obtain ⟨x12, q12, h⟩ := bind_some h
  refine Ops.assign (v := (.v (.int .u32 x12))) (by rw [← Option.some.inj q12]; rfl) rfl ?_
  apply Ops.nil
  replace H := H.all
  refine Runs.regionH 3 rfl H ?_; intro b34 σ H
  refine Ops.move (v := (.v (.int .i64 5))) rfl rfl ?_
  refine Ops.int (m := 5) (m' := 1) (r := .int .i64 6) rfl rfl rfl rfl rfl ?_
  refine Ops.assign (v := (.v (.int .i64 6))) rfl rfl ?_
  apply Ops.nil
  replace H := H.all
  apply Runs.again
  apply Runs.then
  apply Runs.then
  refine Runs.regionH 2 rfl H ?_; intro b35 σ H
  refine Ops.move (v := (.v (.int .i64 6))) rfl rfl ?_
  refine Ops.int (m := 6) (m' := 9) (r := .bool true) rfl rfl rfl rfl rfl ?_
  apply Ops.nil
  replace H := H.all
  refine Runs.yes rfl ?_
  apply Runs.skip
  apply Runs.then
  apply Runs.inBlock
  apply Runs.then
  refine Runs.drawnH 11 rfl (by kernel_rfl) H ?_; intro b36 σ H B36
  refine Ops.move (v := (.v (.int .i64 6))) rfl rfl ?_
  refine Ops.arrAddrH (off := 0) (m := 9) (s := 1) (iv := 6) H 3 rfl rfl rfl rfl (by decide) (by decide) rfl rfl (fun _ => .inl ⟨B36 3 _ rfl _ rfl, nofun⟩) rfl ?_
  refine Ops.loadH (off := 6) (v := (.v (.int .u32 a.d6))) H 3 rfl rfl rfl rfl rfl (fun _ => .inl ⟨B36 3 _ rfl _ rfl, nofun⟩) rfl ?_
  refine Ops.int (m := a.d6) (m' := 65536) (r := .int .u32 (IntKind.u32.wrap (a.d6 + 65536))) rfl rfl rfl rfl rfl ?_
  refine Ops.move (v := (.v (.int .i64 6))) rfl rfl ?_
  refine Ops.arrAddrH (off := 0) (m := 9) (s := 1) (iv := 6) H 2 rfl rfl rfl rfl (by decide) (by decide) rfl rfl (fun _ => .inl ⟨B36 2 _ rfl _ rfl, nofun⟩) rfl ?_
  refine Ops.loadH (off := 6) (v := (.v (.int .u32 b.d6))) H 2 rfl rfl rfl rfl rfl (fun _ => .inl ⟨B36 2 _ rfl _ rfl, nofun⟩) rfl ?_
  refine Ops.int (m := (IntKind.u32.wrap (a.d6 + 65536))) (m' := b.d6) (r := .int .u32 (IntKind.u32.wrap ((IntKind.u32.wrap (a.d6 + 65536)) - b.d6))) rfl rfl rfl rfl rfl ?_
  refine Ops.move (v := (.v (.int .u32 x12))) rfl rfl ?_
  refine Ops.int (m := (IntKind.u32.wrap ((IntKind.u32.wrap (a.d6 + 65536)) - b.d6))) (m' := x12) (r := .int .u32 (IntKind.u32.wrap ((IntKind.u32.wrap ((IntKind.u32.wrap (a.d6 + 65536)) - b.d6)) - x12))) rfl rfl rfl rfl rfl ?_
  obtain ⟨x13, q13, h⟩ := bind_some h
  refine Ops.assign (v := (.v (.int .u32 x13))) (by rw [← Option.some.inj q13]; rfl) rfl ?_
  apply Ops.nil
  replace H := H.all
  apply Runs.then
  refine Runs.regionH 5 rfl H ?_; intro b37 σ H
  refine Ops.move (v := (.v (.int .i64 6))) rfl rfl ?_
  refine Ops.move (v := (.v (.int .u32 x13))) rfl rfl ?_
  refine Ops.rem (m := x13) (m' := 65536) rfl rfl (by decide) rfl ?_
  refine Ops.arrAddrH (off := 0) (m := 9) (s := 1) (iv := 6) H 0 rfl rfl rfl rfl (by decide) (by decide) rfl rfl nofun rfl ?_
  refine Ops.storeH (off := 6) (v := (.v (.int .u32 (x13.tmod 65536)))) (ys := [(.v (.int .u32 (x13.tmod 65536)))]) (cells' := [(.v (.int .u32 (x1.tmod 65536))), (.v (.int .u32 (x3.tmod 65536))), (.v (.int .u32 (x5.tmod 65536))), (.v (.int .u32 (x7.tmod 65536))), (.v (.int .u32 (x9.tmod 65536))), (.v (.int .u32 (x11.tmod 65536))), (.v (.int .u32 (x13.tmod 65536))), (.v (.int .u32 0)), (.v (.int .u32 0))]) H 0 rfl rfl rfl rfl rfl rfl rfl rfl rfl nofun ?_; intro σ H
  apply Ops.nil
  replace H := H.all
  refine Runs.regionH 4 rfl H ?_; intro b38 σ H
  refine Ops.move (v := (.v (.int .u32 x13))) rfl rfl ?_
  refine Ops.quo (m := x13) (m' := 65536) rfl rfl (by decide) rfl ?_
  refine Ops.int (m := 1) (m' := (IntKind.u32.wrap (x13.tdiv 65536))) (r := .int .u32 (IntKind.u32.wrap (1 - (IntKind.u32.wrap (x13.tdiv 65536))))) rfl rfl rfl rfl rfl ?_
  obtain ⟨x14, q14, h⟩ := bind_some h
  refine Ops.assign (v := (.v (.int .u32 x14))) (by rw [← Option.some.inj q14]; rfl) rfl ?_
  apply Ops.nil
  replace H := H.all
  refine Runs.regionH 3 rfl H ?_; intro b39 σ H
  refine Ops.move (v := (.v (.int .i64 6))) rfl rfl ?_
  refine Ops.int (m := 6) (m' := 1) (r := .int .i64 7) rfl rfl rfl rfl rfl ?_
  refine Ops.assign (v := (.v (.int .i64 7))) rfl rfl ?_
  apply Ops.nil
  replace H := H.all
  apply Runs.again
  apply Runs.then
  apply Runs.then
  refine Runs.regionH 2 rfl H ?_; intro b40 σ H
  refine Ops.move (v := (.v (.int .i64 7))) rfl rfl ?_
  refine Ops.int (m := 7) (m' := 9) (r := .bool true) rfl rfl rfl rfl rfl ?_
  apply Ops.nil
  replace H := H.all
  refine Runs.yes rfl ?_
  apply Runs.skip
  apply Runs.then
  apply Runs.inBlock
  apply Runs.then
  refine Runs.drawnH 11 rfl (by kernel_rfl) H ?_; intro b41 σ H B41
  refine Ops.move (v := (.v (.int .i64 7))) rfl rfl ?_
  refine Ops.arrAddrH (off := 0) (m := 9) (s := 1) (iv := 7) H 3 rfl rfl rfl rfl (by decide) (by decide) rfl rfl (fun _ => .inl ⟨B41 3 _ rfl _ rfl, nofun⟩) rfl ?_
  refine Ops.loadH (off := 7) (v := (.v (.int .u32 a.d7))) H 3 rfl rfl rfl rfl rfl (fun _ => .inl ⟨B41 3 _ rfl _ rfl, nofun⟩) rfl ?_
  refine Ops.int (m := a.d7) (m' := 65536) (r := .int .u32 (IntKind.u32.wrap (a.d7 + 65536))) rfl rfl rfl rfl rfl ?_
  refine Ops.move (v := (.v (.int .i64 7))) rfl rfl ?_
  refine Ops.arrAddrH (off := 0) (m := 9) (s := 1) (iv := 7) H 2 rfl rfl rfl rfl (by decide) (by decide) rfl rfl (fun _ => .inl ⟨B41 2 _ rfl _ rfl, nofun⟩) rfl ?_
  refine Ops.loadH (off := 7) (v := (.v (.int .u32 b.d7))) H 2 rfl rfl rfl rfl rfl (fun _ => .inl ⟨B41 2 _ rfl _ rfl, nofun⟩) rfl ?_
  refine Ops.int (m := (IntKind.u32.wrap (a.d7 + 65536))) (m' := b.d7) (r := .int .u32 (IntKind.u32.wrap ((IntKind.u32.wrap (a.d7 + 65536)) - b.d7))) rfl rfl rfl rfl rfl ?_
  refine Ops.move (v := (.v (.int .u32 x14))) rfl rfl ?_
  refine Ops.int (m := (IntKind.u32.wrap ((IntKind.u32.wrap (a.d7 + 65536)) - b.d7))) (m' := x14) (r := .int .u32 (IntKind.u32.wrap ((IntKind.u32.wrap ((IntKind.u32.wrap (a.d7 + 65536)) - b.d7)) - x14))) rfl rfl rfl rfl rfl ?_
  obtain ⟨x15, q15, h⟩ := bind_some h
  refine Ops.assign (v := (.v (.int .u32 x15))) (by rw [← Option.some.inj q15]; rfl) rfl ?_
  apply Ops.nil
  replace H := H.all
  apply Runs.then
  refine Runs.regionH 5 rfl H ?_; intro b42 σ H
  refine Ops.move (v := (.v (.int .i64 7))) rfl rfl ?_
  refine Ops.move (v := (.v (.int .u32 x15))) rfl rfl ?_
  refine Ops.rem (m := x15) (m' := 65536) rfl rfl (by decide) rfl ?_
  refine Ops.arrAddrH (off := 0) (m := 9) (s := 1) (iv := 7) H 0 rfl rfl rfl rfl (by decide) (by decide) rfl rfl nofun rfl ?_
  refine Ops.storeH (off := 7) (v := (.v (.int .u32 (x15.tmod 65536)))) (ys := [(.v (.int .u32 (x15.tmod 65536)))]) (cells' := [(.v (.int .u32 (x1.tmod 65536))), (.v (.int .u32 (x3.tmod 65536))), (.v (.int .u32 (x5.tmod 65536))), (.v (.int .u32 (x7.tmod 65536))), (.v (.int .u32 (x9.tmod 65536))), (.v (.int .u32 (x11.tmod 65536))), (.v (.int .u32 (x13.tmod 65536))), (.v (.int .u32 (x15.tmod 65536))), (.v (.int .u32 0))]) H 0 rfl rfl rfl rfl rfl rfl rfl rfl rfl nofun ?_; intro σ H
  apply Ops.nil
  replace H := H.all
  refine Runs.regionH 4 rfl H ?_; intro b43 σ H
  refine Ops.move (v := (.v (.int .u32 x15))) rfl rfl ?_
  refine Ops.quo (m := x15) (m' := 65536) rfl rfl (by decide) rfl ?_
  refine Ops.int (m := 1) (m' := (IntKind.u32.wrap (x15.tdiv 65536))) (r := .int .u32 (IntKind.u32.wrap (1 - (IntKind.u32.wrap (x15.tdiv 65536))))) rfl rfl rfl rfl rfl ?_
  obtain ⟨x16, q16, h⟩ := bind_some h
  refine Ops.assign (v := (.v (.int .u32 x16))) (by rw [← Option.some.inj q16]; rfl) rfl ?_
  apply Ops.nil
  replace H := H.all
  refine Runs.regionH 3 rfl H ?_; intro b44 σ H
  refine Ops.move (v := (.v (.int .i64 7))) rfl rfl ?_
  refine Ops.int (m := 7) (m' := 1) (r := .int .i64 8) rfl rfl rfl rfl rfl ?_
  refine Ops.assign (v := (.v (.int .i64 8))) rfl rfl ?_
  apply Ops.nil
  replace H := H.all
  apply Runs.again
  apply Runs.then
  apply Runs.then
  refine Runs.regionH 2 rfl H ?_; intro b45 σ H
  refine Ops.move (v := (.v (.int .i64 8))) rfl rfl ?_
  refine Ops.int (m := 8) (m' := 9) (r := .bool true) rfl rfl rfl rfl rfl ?_
  apply Ops.nil
  replace H := H.all
  refine Runs.yes rfl ?_
  apply Runs.skip
  apply Runs.then
  apply Runs.inBlock
  apply Runs.then
  refine Runs.drawnH 11 rfl (by kernel_rfl) H ?_; intro b46 σ H B46
  refine Ops.move (v := (.v (.int .i64 8))) rfl rfl ?_
  refine Ops.arrAddrH (off := 0) (m := 9) (s := 1) (iv := 8) H 3 rfl rfl rfl rfl (by decide) (by decide) rfl rfl (fun _ => .inl ⟨B46 3 _ rfl _ rfl, nofun⟩) rfl ?_
  refine Ops.loadH (off := 8) (v := (.v (.int .u32 a.d8))) H 3 rfl rfl rfl rfl rfl (fun _ => .inl ⟨B46 3 _ rfl _ rfl, nofun⟩) rfl ?_
  refine Ops.int (m := a.d8) (m' := 65536) (r := .int .u32 (IntKind.u32.wrap (a.d8 + 65536))) rfl rfl rfl rfl rfl ?_
  refine Ops.move (v := (.v (.int .i64 8))) rfl rfl ?_
  refine Ops.arrAddrH (off := 0) (m := 9) (s := 1) (iv := 8) H 2 rfl rfl rfl rfl (by decide) (by decide) rfl rfl (fun _ => .inl ⟨B46 2 _ rfl _ rfl, nofun⟩) rfl ?_
  refine Ops.loadH (off := 8) (v := (.v (.int .u32 b.d8))) H 2 rfl rfl rfl rfl rfl (fun _ => .inl ⟨B46 2 _ rfl _ rfl, nofun⟩) rfl ?_
  refine Ops.int (m := (IntKind.u32.wrap (a.d8 + 65536))) (m' := b.d8) (r := .int .u32 (IntKind.u32.wrap ((IntKind.u32.wrap (a.d8 + 65536)) - b.d8))) rfl rfl rfl rfl rfl ?_
  refine Ops.move (v := (.v (.int .u32 x16))) rfl rfl ?_
  refine Ops.int (m := (IntKind.u32.wrap ((IntKind.u32.wrap (a.d8 + 65536)) - b.d8))) (m' := x16) (r := .int .u32 (IntKind.u32.wrap ((IntKind.u32.wrap ((IntKind.u32.wrap (a.d8 + 65536)) - b.d8)) - x16))) rfl rfl rfl rfl rfl ?_
  obtain ⟨x17, q17, h⟩ := bind_some h
  refine Ops.assign (v := (.v (.int .u32 x17))) (by rw [← Option.some.inj q17]; rfl) rfl ?_
  apply Ops.nil
  replace H := H.all
  apply Runs.then
  refine Runs.regionH 5 rfl H ?_; intro b47 σ H
  refine Ops.move (v := (.v (.int .i64 8))) rfl rfl ?_
  refine Ops.move (v := (.v (.int .u32 x17))) rfl rfl ?_
  refine Ops.rem (m := x17) (m' := 65536) rfl rfl (by decide) rfl ?_
  refine Ops.arrAddrH (off := 0) (m := 9) (s := 1) (iv := 8) H 0 rfl rfl rfl rfl (by decide) (by decide) rfl rfl nofun rfl ?_
  refine Ops.storeH (off := 8) (v := (.v (.int .u32 (x17.tmod 65536)))) (ys := [(.v (.int .u32 (x17.tmod 65536)))]) (cells' := [(.v (.int .u32 (x1.tmod 65536))), (.v (.int .u32 (x3.tmod 65536))), (.v (.int .u32 (x5.tmod 65536))), (.v (.int .u32 (x7.tmod 65536))), (.v (.int .u32 (x9.tmod 65536))), (.v (.int .u32 (x11.tmod 65536))), (.v (.int .u32 (x13.tmod 65536))), (.v (.int .u32 (x15.tmod 65536))), (.v (.int .u32 (x17.tmod 65536)))]) H 0 rfl rfl rfl rfl rfl rfl rfl rfl rfl nofun ?_; intro σ H
  apply Ops.nil
  replace H := H.all
  refine Runs.regionH 4 rfl H ?_; intro b48 σ H
  refine Ops.move (v := (.v (.int .u32 x17))) rfl rfl ?_
  refine Ops.quo (m := x17) (m' := 65536) rfl rfl (by decide) rfl ?_
  refine Ops.int (m := 1) (m' := (IntKind.u32.wrap (x17.tdiv 65536))) (r := .int .u32 (IntKind.u32.wrap (1 - (IntKind.u32.wrap (x17.tdiv 65536))))) rfl rfl rfl rfl rfl ?_
  obtain ⟨x18, q18, h⟩ := bind_some h
  refine Ops.assign (v := (.v (.int .u32 x18))) (by rw [← Option.some.inj q18]; rfl) rfl ?_
  apply Ops.nil
  replace H := H.all
  refine Runs.regionH 3 rfl H ?_; intro b49 σ H
  refine Ops.move (v := (.v (.int .i64 8))) rfl rfl ?_
  refine Ops.int (m := 8) (m' := 1) (r := .int .i64 9) rfl rfl rfl rfl rfl ?_
  refine Ops.assign (v := (.v (.int .i64 9))) rfl rfl ?_
  apply Ops.nil
  replace H := H.all
  apply Runs.again
  apply Runs.then
  apply Runs.then
  refine Runs.regionH 2 rfl H ?_; intro b50 σ H
  refine Ops.move (v := (.v (.int .i64 9))) rfl rfl ?_
  refine Ops.int (m := 9) (m' := 9) (r := .bool false) rfl rfl rfl rfl rfl ?_
  apply Ops.nil
  replace H := H.all
  refine Runs.no rfl ?_
  apply Runs.exit
  apply Runs.then
  refine Runs.regionH 2 rfl H ?_; intro b51 σ H
  refine Ops.loadHA (off := 0) (cs := [(.v (.int .u32 (x1.tmod 65536))), (.v (.int .u32 (x3.tmod 65536))), (.v (.int .u32 (x5.tmod 65536))), (.v (.int .u32 (x7.tmod 65536))), (.v (.int .u32 (x9.tmod 65536))), (.v (.int .u32 (x11.tmod 65536))), (.v (.int .u32 (x13.tmod 65536))), (.v (.int .u32 (x15.tmod 65536))), (.v (.int .u32 (x17.tmod 65536)))]) H 0 rfl rfl rfl rfl rfl rfl rfl nofun rfl ?_
  refine Ops.storeH (off := 0) (v := (.agg [(.v (.int .u32 (x1.tmod 65536))), (.v (.int .u32 (x3.tmod 65536))), (.v (.int .u32 (x5.tmod 65536))), (.v (.int .u32 (x7.tmod 65536))), (.v (.int .u32 (x9.tmod 65536))), (.v (.int .u32 (x11.tmod 65536))), (.v (.int .u32 (x13.tmod 65536))), (.v (.int .u32 (x15.tmod 65536))), (.v (.int .u32 (x17.tmod 65536)))])) (ys := [(.v (.int .u32 (x1.tmod 65536))), (.v (.int .u32 (x3.tmod 65536))), (.v (.int .u32 (x5.tmod 65536))), (.v (.int .u32 (x7.tmod 65536))), (.v (.int .u32 (x9.tmod 65536))), (.v (.int .u32 (x11.tmod 65536))), (.v (.int .u32 (x13.tmod 65536))), (.v (.int .u32 (x15.tmod 65536))), (.v (.int .u32 (x17.tmod 65536)))]) (cells' := [(.v (.int .u32 (x1.tmod 65536))), (.v (.int .u32 (x3.tmod 65536))), (.v (.int .u32 (x5.tmod 65536))), (.v (.int .u32 (x7.tmod 65536))), (.v (.int .u32 (x9.tmod 65536))), (.v (.int .u32 (x11.tmod 65536))), (.v (.int .u32 (x13.tmod 65536))), (.v (.int .u32 (x15.tmod 65536))), (.v (.int .u32 (x17.tmod 65536)))]) H 1 rfl rfl rfl rfl rfl rfl rfl rfl rfl nofun ?_; intro σ H
  apply Ops.nil
  replace H := H.all
  apply Runs.ret
  replace h := Option.some.inj h; subst h
  exact (Ends.H (xs := [(.agg [(.v (.int .u32 (x1.tmod 65536))), (.v (.int .u32 (x3.tmod 65536))), (.v (.int .u32 (x5.tmod 65536))), (.v (.int .u32 (x7.tmod 65536))), (.v (.int .u32 (x9.tmod 65536))), (.v (.int .u32 (x11.tmod 65536))), (.v (.int .u32 (x13.tmod 65536))), (.v (.int .u32 (x15.tmod 65536))), (.v (.int .u32 (x17.tmod 65536)))])]) (.inr rfl) H (.agg (cs := [(.v (.int .u32 (x1.tmod 65536))), (.v (.int .u32 (x3.tmod 65536))), (.v (.int .u32 (x5.tmod 65536))), (.v (.int .u32 (x7.tmod 65536))), (.v (.int .u32 (x9.tmod 65536))), (.v (.int .u32 (x11.tmod 65536))), (.v (.int .u32 (x13.tmod 65536))), (.v (.int .u32 (x15.tmod 65536))), (.v (.int .u32 (x17.tmod 65536)))]) (off := 0) 1 rfl rfl rfl rfl rfl rfl rfl .nil) (.one (.p rfl)))

end Go.Dn

set_option linter.unusedVariables false
set_option linter.unusedSimpArgs false
namespace Go.Dn
open Go Go.Proofs

set_option maxRecDepth 100000 in
set_option maxHeartbeats 4000000 in
theorem epactref01_sum_fn {a : epactref01_long} {b : epactref01_long} {r : epactref01_long} (h : epactref01_sum a b = some r) : Fn CX 54 [(.agg (vs (epactref01_long.cs a))), (.agg (vs (epactref01_long.cs b)))] (.agg (vs (epactref01_long.cs r))) := by
  refine Fn.ends Try.func54 rfl rfl rfl rfl rfl rfl ?_
  have H : Hs (⟨0, fun _ => .none⟩ : Heap) [] := Has.nil (Nat.le_refl _)
  generalize (⟨0, fun _ => .none⟩ : Heap) = σ at H ⊢
  unfold epactref01_sum at h
  apply Runs.then
  refine Runs.regionH 3 rfl H ?_; intro b1 σ H
  refine Ops.boxH (v := (.agg [(.v (.bool a.minus)), (.v (.int .u32 a.digits.d0)), (.v (.int .u32 a.digits.d1)), (.v (.int .u32 a.digits.d2)), (.v (.int .u32 a.digits.d3)), (.v (.int .u32 a.digits.d4)), (.v (.int .u32 a.digits.d5)), (.v (.int .u32 a.digits.d6)), (.v (.int .u32 a.digits.d7)), (.v (.int .u32 a.digits.d8))])) (cs := [(.v (.bool a.minus)), (.v (.int .u32 a.digits.d0)), (.v (.int .u32 a.digits.d1)), (.v (.int .u32 a.digits.d2)), (.v (.int .u32 a.digits.d3)), (.v (.int .u32 a.digits.d4)), (.v (.int .u32 a.digits.d5)), (.v (.int .u32 a.digits.d6)), (.v (.int .u32 a.digits.d7)), (.v (.int .u32 a.digits.d8))]) H (by omega) (by omega) rfl rfl rfl ?_; intro σ H
  refine Ops.boxH (v := (.agg [(.v (.bool b.minus)), (.v (.int .u32 b.digits.d0)), (.v (.int .u32 b.digits.d1)), (.v (.int .u32 b.digits.d2)), (.v (.int .u32 b.digits.d3)), (.v (.int .u32 b.digits.d4)), (.v (.int .u32 b.digits.d5)), (.v (.int .u32 b.digits.d6)), (.v (.int .u32 b.digits.d7)), (.v (.int .u32 b.digits.d8))])) (cs := [(.v (.bool b.minus)), (.v (.int .u32 b.digits.d0)), (.v (.int .u32 b.digits.d1)), (.v (.int .u32 b.digits.d2)), (.v (.int .u32 b.digits.d3)), (.v (.int .u32 b.digits.d4)), (.v (.int .u32 b.digits.d5)), (.v (.int .u32 b.digits.d6)), (.v (.int .u32 b.digits.d7)), (.v (.int .u32 b.digits.d8))]) H (by omega) (by omega) rfl rfl rfl ?_; intro σ H
  refine Ops.allocH (cs := [(.v (.bool false)), (.v (.int .u32 0)), (.v (.int .u32 0)), (.v (.int .u32 0)), (.v (.int .u32 0)), (.v (.int .u32 0)), (.v (.int .u32 0)), (.v (.int .u32 0)), (.v (.int .u32 0)), (.v (.int .u32 0))]) H (by omega) (by omega) rfl rfl ?_; intro σ H
  apply Ops.nil
  replace H := H.all
  apply Runs.then
  apply Runs.then
  refine Runs.regionH 5 rfl H ?_; intro b2 σ H
  refine Ops.fieldAddrH (off := 0) (fo := 0) H 2 rfl rfl rfl rfl rfl nofun rfl ?_
  refine Ops.loadH (off := 0) (v := (.v (.bool a.minus))) H 2 rfl rfl rfl rfl rfl nofun rfl ?_
  refine Ops.fieldAddrH (off := 0) (fo := 0) H 1 rfl rfl rfl rfl rfl nofun rfl ?_
  refine Ops.loadH (off := 0) (v := (.v (.bool b.minus))) H 1 rfl rfl rfl rfl rfl nofun rfl ?_
  refine Ops.eqB (b := a.minus) (b' := b.minus) rfl rfl rfl rfl ?_
  apply Ops.nil
  replace H := H.all
  refine Runs.whether (v := (a.minus == b.minus)) rfl ?_ ?_ <;> intro hc1
  · replace h := cond_T hc1 h
    apply Runs.then
    refine Runs.drawnH 9 rfl (by kernel_rfl) H ?_; intro b3 σ H B3
    refine Ops.fieldAddrH (off := 0) (fo := 0) H 2 rfl rfl rfl rfl rfl (fun _ => .inl ⟨B3 2 _ rfl _ rfl, nofun⟩) rfl ?_
    refine Ops.loadH (off := 0) (v := (.v (.bool a.minus))) H 2 rfl rfl rfl rfl rfl (fun _ => .inl ⟨B3 2 _ rfl _ rfl, nofun⟩) rfl ?_
    refine Ops.fieldAddrH (off := 0) (fo := 1) H 2 rfl rfl rfl rfl rfl (fun _ => .inl ⟨B3 2 _ rfl _ rfl, nofun⟩) rfl ?_
    refine Ops.loadHA (off := 1) (cs := [(.v (.int .u32 a.digits.d0)), (.v (.int .u32 a.digits.d1)), (.v (.int .u32 a.digits.d2)), (.v (.int .u32 a.digits.d3)), (.v (.int .u32 a.digits.d4)), (.v (.int .u32 a.digits.d5)), (.v (.int .u32 a.digits.d6)), (.v (.int .u32 a.digits.d7)), (.v (.int .u32 a.digits.d8))]) H 2 rfl rfl rfl rfl rfl rfl rfl (fun _ => .inl ⟨B3 2 _ rfl _ rfl, nofun⟩) rfl ?_
    refine Ops.fieldAddrH (off := 0) (fo := 1) H 1 rfl rfl rfl rfl rfl (fun _ => .inl ⟨B3 1 _ rfl _ rfl, nofun⟩) rfl ?_
    refine Ops.loadHA (off := 1) (cs := [(.v (.int .u32 b.digits.d0)), (.v (.int .u32 b.digits.d1)), (.v (.int .u32 b.digits.d2)), (.v (.int .u32 b.digits.d3)), (.v (.int .u32 b.digits.d4)), (.v (.int .u32 b.digits.d5)), (.v (.int .u32 b.digits.d6)), (.v (.int .u32 b.digits.d7)), (.v (.int .u32 b.digits.d8))]) H 1 rfl rfl rfl rfl rfl rfl rfl (fun _ => .inl ⟨B3 1 _ rfl _ rfl, nofun⟩) rfl ?_
    obtain ⟨x1, q1, h⟩ := bind_some h
    refine Ops.call (ys := [(.agg [(.v (.int .u32 a.digits.d0)), (.v (.int .u32 a.digits.d1)), (.v (.int .u32 a.digits.d2)), (.v (.int .u32 a.digits.d3)), (.v (.int .u32 a.digits.d4)), (.v (.int .u32 a.digits.d5)), (.v (.int .u32 a.digits.d6)), (.v (.int .u32 a.digits.d7)), (.v (.int .u32 a.digits.d8))]), (.agg [(.v (.int .u32 b.digits.d0)), (.v (.int .u32 b.digits.d1)), (.v (.int .u32 b.digits.d2)), (.v (.int .u32 b.digits.d3)), (.v (.int .u32 b.digits.d4)), (.v (.int .u32 b.digits.d5)), (.v (.int .u32 b.digits.d6)), (.v (.int .u32 b.digits.d7)), (.v (.int .u32 b.digits.d8))])]) (r := (.agg [(.v (.int .u32 x1.d0)), (.v (.int .u32 x1.d1)), (.v (.int .u32 x1.d2)), (.v (.int .u32 x1.d3)), (.v (.int .u32 x1.d4)), (.v (.int .u32 x1.d5)), (.v (.int .u32 x1.d6)), (.v (.int .u32 x1.d7)), (.v (.int .u32 x1.d8))])) rfl (epactref01_more_fn q1) rfl ?_
    refine Ops.buildA (cs := [(.v (.bool a.minus)), (.v (.int .u32 x1.d0)), (.v (.int .u32 x1.d1)), (.v (.int .u32 x1.d2)), (.v (.int .u32 x1.d3)), (.v (.int .u32 x1.d4)), (.v (.int .u32 x1.d5)), (.v (.int .u32 x1.d6)), (.v (.int .u32 x1.d7)), (.v (.int .u32 x1.d8))]) rfl rfl ?_
    refine Ops.storeH (off := 0) (v := (.agg [(.v (.bool a.minus)), (.v (.int .u32 x1.d0)), (.v (.int .u32 x1.d1)), (.v (.int .u32 x1.d2)), (.v (.int .u32 x1.d3)), (.v (.int .u32 x1.d4)), (.v (.int .u32 x1.d5)), (.v (.int .u32 x1.d6)), (.v (.int .u32 x1.d7)), (.v (.int .u32 x1.d8))])) (ys := [(.v (.bool a.minus)), (.v (.int .u32 x1.d0)), (.v (.int .u32 x1.d1)), (.v (.int .u32 x1.d2)), (.v (.int .u32 x1.d3)), (.v (.int .u32 x1.d4)), (.v (.int .u32 x1.d5)), (.v (.int .u32 x1.d6)), (.v (.int .u32 x1.d7)), (.v (.int .u32 x1.d8))]) (cells' := [(.v (.bool a.minus)), (.v (.int .u32 x1.d0)), (.v (.int .u32 x1.d1)), (.v (.int .u32 x1.d2)), (.v (.int .u32 x1.d3)), (.v (.int .u32 x1.d4)), (.v (.int .u32 x1.d5)), (.v (.int .u32 x1.d6)), (.v (.int .u32 x1.d7)), (.v (.int .u32 x1.d8))]) H 0 rfl rfl rfl rfl rfl rfl rfl rfl rfl (fun _ => .inl ⟨B3 0 _ rfl _ rfl, (fresh_static (by kernel_rfl))⟩) ?_; intro σ H
    apply Ops.nil
    replace H := H.all
    apply Runs.ret
    replace h := Option.some.inj h; subst h
    exact (Ends.H (xs := [(.agg [(.v (.bool a.minus)), (.v (.int .u32 x1.d0)), (.v (.int .u32 x1.d1)), (.v (.int .u32 x1.d2)), (.v (.int .u32 x1.d3)), (.v (.int .u32 x1.d4)), (.v (.int .u32 x1.d5)), (.v (.int .u32 x1.d6)), (.v (.int .u32 x1.d7)), (.v (.int .u32 x1.d8))])]) (.inr rfl) H (.agg (cs := [(.v (.bool a.minus)), (.v (.int .u32 x1.d0)), (.v (.int .u32 x1.d1)), (.v (.int .u32 x1.d2)), (.v (.int .u32 x1.d3)), (.v (.int .u32 x1.d4)), (.v (.int .u32 x1.d5)), (.v (.int .u32 x1.d6)), (.v (.int .u32 x1.d7)), (.v (.int .u32 x1.d8))]) (off := 0) 0 rfl rfl rfl rfl rfl rfl rfl .nil) (.one (.p rfl)))
  · replace h := cond_F hc1 h
    apply Runs.skip
    apply Runs.then
    apply Runs.then
    refine Runs.regionH 5 rfl H ?_; intro b4 σ H
    refine Ops.fieldAddrH (off := 0) (fo := 1) H 2 rfl rfl rfl rfl rfl nofun rfl ?_
    refine Ops.loadHA (off := 1) (cs := [(.v (.int .u32 a.digits.d0)), (.v (.int .u32 a.digits.d1)), (.v (.int .u32 a.digits.d2)), (.v (.int .u32 a.digits.d3)), (.v (.int .u32 a.digits.d4)), (.v (.int .u32 a.digits.d5)), (.v (.int .u32 a.digits.d6)), (.v (.int .u32 a.digits.d7)), (.v (.int .u32 a.digits.d8))]) H 2 rfl rfl rfl rfl rfl rfl rfl nofun rfl ?_
    refine Ops.fieldAddrH (off := 0) (fo := 1) H 1 rfl rfl rfl rfl rfl nofun rfl ?_
    refine Ops.loadHA (off := 1) (cs := [(.v (.int .u32 b.digits.d0)), (.v (.int .u32 b.digits.d1)), (.v (.int .u32 b.digits.d2)), (.v (.int .u32 b.digits.d3)), (.v (.int .u32 b.digits.d4)), (.v (.int .u32 b.digits.d5)), (.v (.int .u32 b.digits.d6)), (.v (.int .u32 b.digits.d7)), (.v (.int .u32 b.digits.d8))]) H 1 rfl rfl rfl rfl rfl rfl rfl nofun rfl ?_
    refine Ops.call (ys := [(.agg [(.v (.int .u32 a.digits.d0)), (.v (.int .u32 a.digits.d1)), (.v (.int .u32 a.digits.d2)), (.v (.int .u32 a.digits.d3)), (.v (.int .u32 a.digits.d4)), (.v (.int .u32 a.digits.d5)), (.v (.int .u32 a.digits.d6)), (.v (.int .u32 a.digits.d7)), (.v (.int .u32 a.digits.d8))]), (.agg [(.v (.int .u32 b.digits.d0)), (.v (.int .u32 b.digits.d1)), (.v (.int .u32 b.digits.d2)), (.v (.int .u32 b.digits.d3)), (.v (.int .u32 b.digits.d4)), (.v (.int .u32 b.digits.d5)), (.v (.int .u32 b.digits.d6)), (.v (.int .u32 b.digits.d7)), (.v (.int .u32 b.digits.d8))])]) (r := (.v (.bool (epactref01_below a.digits b.digits)))) rfl (epactref01_below_fn rfl) rfl ?_
    apply Ops.nil
    replace H := H.all
    refine Runs.whether (v := (epactref01_below a.digits b.digits)) rfl ?_ ?_ <;> intro hc2
    · replace h := cond_T hc2 h
      apply Runs.then
      refine Runs.drawnH 9 rfl (by kernel_rfl) H ?_; intro b5 σ H B5
      refine Ops.fieldAddrH (off := 0) (fo := 0) H 1 rfl rfl rfl rfl rfl (fun _ => .inl ⟨B5 1 _ rfl _ rfl, nofun⟩) rfl ?_
      refine Ops.loadH (off := 0) (v := (.v (.bool b.minus))) H 1 rfl rfl rfl rfl rfl (fun _ => .inl ⟨B5 1 _ rfl _ rfl, nofun⟩) rfl ?_
      refine Ops.fieldAddrH (off := 0) (fo := 1) H 1 rfl rfl rfl rfl rfl (fun _ => .inl ⟨B5 1 _ rfl _ rfl, nofun⟩) rfl ?_
      refine Ops.loadHA (off := 1) (cs := [(.v (.int .u32 b.digits.d0)), (.v (.int .u32 b.digits.d1)), (.v (.int .u32 b.digits.d2)), (.v (.int .u32 b.digits.d3)), (.v (.int .u32 b.digits.d4)), (.v (.int .u32 b.digits.d5)), (.v (.int .u32 b.digits.d6)), (.v (.int .u32 b.digits.d7)), (.v (.int .u32 b.digits.d8))]) H 1 rfl rfl rfl rfl rfl rfl rfl (fun _ => .inl ⟨B5 1 _ rfl _ rfl, nofun⟩) rfl ?_
      refine Ops.fieldAddrH (off := 0) (fo := 1) H 2 rfl rfl rfl rfl rfl (fun _ => .inl ⟨B5 2 _ rfl _ rfl, nofun⟩) rfl ?_
      refine Ops.loadHA (off := 1) (cs := [(.v (.int .u32 a.digits.d0)), (.v (.int .u32 a.digits.d1)), (.v (.int .u32 a.digits.d2)), (.v (.int .u32 a.digits.d3)), (.v (.int .u32 a.digits.d4)), (.v (.int .u32 a.digits.d5)), (.v (.int .u32 a.digits.d6)), (.v (.int .u32 a.digits.d7)), (.v (.int .u32 a.digits.d8))]) H 2 rfl rfl rfl rfl rfl rfl rfl (fun _ => .inl ⟨B5 2 _ rfl _ rfl, nofun⟩) rfl ?_
      obtain ⟨x2, q2, h⟩ := bind_some h
      refine Ops.call (ys := [(.agg [(.v (.int .u32 b.digits.d0)), (.v (.int .u32 b.digits.d1)), (.v (.int .u32 b.digits.d2)), (.v (.int .u32 b.digits.d3)), (.v (.int .u32 b.digits.d4)), (.v (.int .u32 b.digits.d5)), (.v (.int .u32 b.digits.d6)), (.v (.int .u32 b.digits.d7)), (.v (.int .u32 b.digits.d8))]), (.agg [(.v (.int .u32 a.digits.d0)), (.v (.int .u32 a.digits.d1)), (.v (.int .u32 a.digits.d2)), (.v (.int .u32 a.digits.d3)), (.v (.int .u32 a.digits.d4)), (.v (.int .u32 a.digits.d5)), (.v (.int .u32 a.digits.d6)), (.v (.int .u32 a.digits.d7)), (.v (.int .u32 a.digits.d8))])]) (r := (.agg [(.v (.int .u32 x2.d0)), (.v (.int .u32 x2.d1)), (.v (.int .u32 x2.d2)), (.v (.int .u32 x2.d3)), (.v (.int .u32 x2.d4)), (.v (.int .u32 x2.d5)), (.v (.int .u32 x2.d6)), (.v (.int .u32 x2.d7)), (.v (.int .u32 x2.d8))])) rfl (epactref01_rest_fn q2) rfl ?_
      refine Ops.buildA (cs := [(.v (.bool b.minus)), (.v (.int .u32 x2.d0)), (.v (.int .u32 x2.d1)), (.v (.int .u32 x2.d2)), (.v (.int .u32 x2.d3)), (.v (.int .u32 x2.d4)), (.v (.int .u32 x2.d5)), (.v (.int .u32 x2.d6)), (.v (.int .u32 x2.d7)), (.v (.int .u32 x2.d8))]) rfl rfl ?_
      refine Ops.storeH (off := 0) (v := (.agg [(.v (.bool b.minus)), (.v (.int .u32 x2.d0)), (.v (.int .u32 x2.d1)), (.v (.int .u32 x2.d2)), (.v (.int .u32 x2.d3)), (.v (.int .u32 x2.d4)), (.v (.int .u32 x2.d5)), (.v (.int .u32 x2.d6)), (.v (.int .u32 x2.d7)), (.v (.int .u32 x2.d8))])) (ys := [(.v (.bool b.minus)), (.v (.int .u32 x2.d0)), (.v (.int .u32 x2.d1)), (.v (.int .u32 x2.d2)), (.v (.int .u32 x2.d3)), (.v (.int .u32 x2.d4)), (.v (.int .u32 x2.d5)), (.v (.int .u32 x2.d6)), (.v (.int .u32 x2.d7)), (.v (.int .u32 x2.d8))]) (cells' := [(.v (.bool b.minus)), (.v (.int .u32 x2.d0)), (.v (.int .u32 x2.d1)), (.v (.int .u32 x2.d2)), (.v (.int .u32 x2.d3)), (.v (.int .u32 x2.d4)), (.v (.int .u32 x2.d5)), (.v (.int .u32 x2.d6)), (.v (.int .u32 x2.d7)), (.v (.int .u32 x2.d8))]) H 0 rfl rfl rfl rfl rfl rfl rfl rfl rfl (fun _ => .inl ⟨B5 0 _ rfl _ rfl, (fresh_static (by kernel_rfl))⟩) ?_; intro σ H
      apply Ops.nil
      replace H := H.all
      apply Runs.ret
      replace h := Option.some.inj h; subst h
      exact (Ends.H (xs := [(.agg [(.v (.bool b.minus)), (.v (.int .u32 x2.d0)), (.v (.int .u32 x2.d1)), (.v (.int .u32 x2.d2)), (.v (.int .u32 x2.d3)), (.v (.int .u32 x2.d4)), (.v (.int .u32 x2.d5)), (.v (.int .u32 x2.d6)), (.v (.int .u32 x2.d7)), (.v (.int .u32 x2.d8))])]) (.inr rfl) H (.agg (cs := [(.v (.bool b.minus)), (.v (.int .u32 x2.d0)), (.v (.int .u32 x2.d1)), (.v (.int .u32 x2.d2)), (.v (.int .u32 x2.d3)), (.v (.int .u32 x2.d4)), (.v (.int .u32 x2.d5)), (.v (.int .u32 x2.d6)), (.v (.int .u32 x2.d7)), (.v (.int .u32 x2.d8))]) (off := 0) 0 rfl rfl rfl rfl rfl rfl rfl .nil) (.one (.p rfl)))
    · replace h := cond_F hc2 h
      apply Runs.skip
      apply Runs.then
      refine Runs.drawnH 9 rfl (by kernel_rfl) H ?_; intro b6 σ H B6
      refine Ops.fieldAddrH (off := 0) (fo := 0) H 2 rfl rfl rfl rfl rfl (fun _ => .inl ⟨B6 2 _ rfl _ rfl, nofun⟩) rfl ?_
      refine Ops.loadH (off := 0) (v := (.v (.bool a.minus))) H 2 rfl rfl rfl rfl rfl (fun _ => .inl ⟨B6 2 _ rfl _ rfl, nofun⟩) rfl ?_
      refine Ops.fieldAddrH (off := 0) (fo := 1) H 2 rfl rfl rfl rfl rfl (fun _ => .inl ⟨B6 2 _ rfl _ rfl, nofun⟩) rfl ?_
      refine Ops.loadHA (off := 1) (cs := [(.v (.int .u32 a.digits.d0)), (.v (.int .u32 a.digits.d1)), (.v (.int .u32 a.digits.d2)), (.v (.int .u32 a.digits.d3)), (.v (.int .u32 a.digits.d4)), (.v (.int .u32 a.digits.d5)), (.v (.int .u32 a.digits.d6)), (.v (.int .u32 a.digits.d7)), (.v (.int .u32 a.digits.d8))]) H 2 rfl rfl rfl rfl rfl rfl rfl (fun _ => .inl ⟨B6 2 _ rfl _ rfl, nofun⟩) rfl ?_
      refine Ops.fieldAddrH (off := 0) (fo := 1) H 1 rfl rfl rfl rfl rfl (fun _ => .inl ⟨B6 1 _ rfl _ rfl, nofun⟩) rfl ?_
      refine Ops.loadHA (off := 1) (cs := [(.v (.int .u32 b.digits.d0)), (.v (.int .u32 b.digits.d1)), (.v (.int .u32 b.digits.d2)), (.v (.int .u32 b.digits.d3)), (.v (.int .u32 b.digits.d4)), (.v (.int .u32 b.digits.d5)), (.v (.int .u32 b.digits.d6)), (.v (.int .u32 b.digits.d7)), (.v (.int .u32 b.digits.d8))]) H 1 rfl rfl rfl rfl rfl rfl rfl (fun _ => .inl ⟨B6 1 _ rfl _ rfl, nofun⟩) rfl ?_
      obtain ⟨x3, q3, h⟩ := bind_some h
      refine Ops.call (ys := [(.agg [(.v (.int .u32 a.digits.d0)), (.v (.int .u32 a.digits.d1)), (.v (.int .u32 a.digits.d2)), (.v (.int .u32 a.digits.d3)), (.v (.int .u32 a.digits.d4)), (.v (.int .u32 a.digits.d5)), (.v (.int .u32 a.digits.d6)), (.v (.int .u32 a.digits.d7)), (.v (.int .u32 a.digits.d8))]), (.agg [(.v (.int .u32 b.digits.d0)), (.v (.int .u32 b.digits.d1)), (.v (.int .u32 b.digits.d2)), (.v (.int .u32 b.digits.d3)), (.v (.int .u32 b.digits.d4)), (.v (.int .u32 b.digits.d5)), (.v (.int .u32 b.digits.d6)), (.v (.int .u32 b.digits.d7)), (.v (.int .u32 b.digits.d8))])]) (r := (.agg [(.v (.int .u32 x3.d0)), (.v (.int .u32 x3.d1)), (.v (.int .u32 x3.d2)), (.v (.int .u32 x3.d3)), (.v (.int .u32 x3.d4)), (.v (.int .u32 x3.d5)), (.v (.int .u32 x3.d6)), (.v (.int .u32 x3.d7)), (.v (.int .u32 x3.d8))])) rfl (epactref01_rest_fn q3) rfl ?_
      refine Ops.buildA (cs := [(.v (.bool a.minus)), (.v (.int .u32 x3.d0)), (.v (.int .u32 x3.d1)), (.v (.int .u32 x3.d2)), (.v (.int .u32 x3.d3)), (.v (.int .u32 x3.d4)), (.v (.int .u32 x3.d5)), (.v (.int .u32 x3.d6)), (.v (.int .u32 x3.d7)), (.v (.int .u32 x3.d8))]) rfl rfl ?_
      refine Ops.storeH (off := 0) (v := (.agg [(.v (.bool a.minus)), (.v (.int .u32 x3.d0)), (.v (.int .u32 x3.d1)), (.v (.int .u32 x3.d2)), (.v (.int .u32 x3.d3)), (.v (.int .u32 x3.d4)), (.v (.int .u32 x3.d5)), (.v (.int .u32 x3.d6)), (.v (.int .u32 x3.d7)), (.v (.int .u32 x3.d8))])) (ys := [(.v (.bool a.minus)), (.v (.int .u32 x3.d0)), (.v (.int .u32 x3.d1)), (.v (.int .u32 x3.d2)), (.v (.int .u32 x3.d3)), (.v (.int .u32 x3.d4)), (.v (.int .u32 x3.d5)), (.v (.int .u32 x3.d6)), (.v (.int .u32 x3.d7)), (.v (.int .u32 x3.d8))]) (cells' := [(.v (.bool a.minus)), (.v (.int .u32 x3.d0)), (.v (.int .u32 x3.d1)), (.v (.int .u32 x3.d2)), (.v (.int .u32 x3.d3)), (.v (.int .u32 x3.d4)), (.v (.int .u32 x3.d5)), (.v (.int .u32 x3.d6)), (.v (.int .u32 x3.d7)), (.v (.int .u32 x3.d8))]) H 0 rfl rfl rfl rfl rfl rfl rfl rfl rfl (fun _ => .inl ⟨B6 0 _ rfl _ rfl, (fresh_static (by kernel_rfl))⟩) ?_; intro σ H
      apply Ops.nil
      replace H := H.all
      apply Runs.ret
      replace h := Option.some.inj h; subst h
      exact (Ends.H (xs := [(.agg [(.v (.bool a.minus)), (.v (.int .u32 x3.d0)), (.v (.int .u32 x3.d1)), (.v (.int .u32 x3.d2)), (.v (.int .u32 x3.d3)), (.v (.int .u32 x3.d4)), (.v (.int .u32 x3.d5)), (.v (.int .u32 x3.d6)), (.v (.int .u32 x3.d7)), (.v (.int .u32 x3.d8))])]) (.inr rfl) H (.agg (cs := [(.v (.bool a.minus)), (.v (.int .u32 x3.d0)), (.v (.int .u32 x3.d1)), (.v (.int .u32 x3.d2)), (.v (.int .u32 x3.d3)), (.v (.int .u32 x3.d4)), (.v (.int .u32 x3.d5)), (.v (.int .u32 x3.d6)), (.v (.int .u32 x3.d7)), (.v (.int .u32 x3.d8))]) (off := 0) 0 rfl rfl rfl rfl rfl rfl rfl .nil) (.one (.p rfl)))

set_option maxRecDepth 100000 in
set_option maxHeartbeats 4000000 in
theorem epactref01_number_fn {a : epactref01_long} {r : Int × Int} (h : epactref01_number a = some r) : Fn CX 53 [(.agg (vs (epactref01_long.cs a)))] (.tup [(.v (.int .i64 r.1)), (.v (.int .i64 r.2))]) := by
  refine Fn.ends Try.func53 rfl rfl rfl rfl rfl rfl ?_
  have H : Hs (⟨0, fun _ => .none⟩ : Heap) [] := Has.nil (Nat.le_refl _)
  generalize (⟨0, fun _ => .none⟩ : Heap) = σ at H ⊢
  unfold epactref01_number at h
  apply Runs.then
  refine Runs.regionH 3 rfl H ?_; intro b1 σ H
  refine Ops.boxH (v := (.agg [(.v (.bool a.minus)), (.v (.int .u32 a.digits.d0)), (.v (.int .u32 a.digits.d1)), (.v (.int .u32 a.digits.d2)), (.v (.int .u32 a.digits.d3)), (.v (.int .u32 a.digits.d4)), (.v (.int .u32 a.digits.d5)), (.v (.int .u32 a.digits.d6)), (.v (.int .u32 a.digits.d7)), (.v (.int .u32 a.digits.d8))])) (cs := [(.v (.bool a.minus)), (.v (.int .u32 a.digits.d0)), (.v (.int .u32 a.digits.d1)), (.v (.int .u32 a.digits.d2)), (.v (.int .u32 a.digits.d3)), (.v (.int .u32 a.digits.d4)), (.v (.int .u32 a.digits.d5)), (.v (.int .u32 a.digits.d6)), (.v (.int .u32 a.digits.d7)), (.v (.int .u32 a.digits.d8))]) H (by omega) (by omega) rfl rfl rfl ?_; intro σ H
  refine Ops.assign (v := (.v (.int .i64 0))) rfl rfl ?_
  refine Ops.assign (v := (.v (.int .i64 0))) rfl rfl ?_
  apply Ops.nil
  replace H := H.all
  apply Runs.then
  refine Runs.regionH 1 rfl H ?_; intro b2 σ H
  refine Ops.assign (v := (.v (.int .i64 0))) rfl rfl ?_
  apply Ops.nil
  replace H := H.all
  apply Runs.then
  refine Runs.regionH 1 rfl H ?_; intro b3 σ H
  obtain ⟨x1, q1, h⟩ := bind_some h
  refine Ops.assign (v := (.v (.int .i64 x1))) (by rw [← Option.some.inj q1]; rfl) rfl ?_
  apply Ops.nil
  replace H := H.all
  apply Runs.then
  apply Runs.then
  refine Runs.regionH 1 rfl H ?_; intro b4 σ H
  refine Ops.assign (v := (.v (.int .i64 8))) rfl rfl ?_
  apply Ops.nil
  replace H := H.all
  apply Runs.inBlock
  apply Runs.again
  apply Runs.then
  apply Runs.then
  refine Runs.regionH 2 rfl H ?_; intro b5 σ H
  refine Ops.move (v := (.v (.int .i64 8))) rfl rfl ?_
  refine Ops.int (m := 8) (m' := 0) (r := .bool true) rfl rfl rfl rfl rfl ?_
  apply Ops.nil
  replace H := H.all
  refine Runs.yes rfl ?_
  apply Runs.skip
  apply Runs.then
  obtain ⟨y1, hj1, h⟩ := bind_some h
  refine Runs.mono (Q := fun x e σ => (∃ a1, y1 = (.go a1) ∧ x = .normal ∧ EnvHas e [(1, (.ptr (b1 + 0) 10 0)), (4, (.v (.int .i64 0))), (5, (.v (.int .i64 x1))), (6, (.v (.int .i64 8)))] ∧ Hs σ [.blk (b1 + 0) 73 [(.v (.bool a.minus)), (.v (.int .u32 a.digits.d0)), (.v (.int .u32 a.digits.d1)), (.v (.int .u32 a.digits.d2)), (.v (.int .u32 a.digits.d3)), (.v (.int .u32 a.digits.d4)), (.v (.int .u32 a.digits.d5)), (.v (.int .u32 a.digits.d6)), (.v (.int .u32 a.digits.d7)), (.v (.int .u32 a.digits.d8))]]) ∨ (∃ r', y1 = (.ret r') ∧ x = .ret ∧ Ends CX Try.f53.results.toList (.tup [(.v (.int .i64 r'.1)), (.v (.int .i64 r'.2))]) x e σ)) ?_ ?_
  · replace h := hj1
    apply Runs.inBlock
    apply Runs.then
    refine Runs.regionH 6 rfl H ?_; intro b6 σ H
    refine Ops.move (v := (.v (.int .i64 8))) rfl rfl ?_
    refine Ops.fieldAddrH (off := 0) (fo := 1) H 0 rfl rfl rfl rfl rfl nofun rfl ?_
    refine Ops.arrAddrH (off := 1) (m := 9) (s := 1) (iv := 8) H 0 rfl rfl rfl rfl (by decide) (by decide) rfl rfl nofun rfl ?_
    refine Ops.loadH (off := 9) (v := (.v (.int .u32 a.digits.d8))) H 0 rfl rfl rfl rfl rfl nofun rfl ?_
    refine Ops.conv (m := a.digits.d8) rfl rfl rfl rfl ?_
    refine Ops.assign (v := (.v (.int .i64 (w64 a.digits.d8)))) rfl rfl ?_
    apply Ops.nil
    replace H := H.all
    apply Runs.then
    apply Runs.then
    refine Runs.regionH 2 rfl H ?_; intro b7 σ H
    refine Ops.move (v := (.v (.int .i64 8))) rfl rfl ?_
    refine Ops.int (m := 8) (m' := 4) (r := .bool true) rfl rfl rfl rfl rfl ?_
    apply Ops.nil
    replace H := H.all
    refine Runs.yes rfl ?_
    apply Runs.then
    apply Runs.then
    refine Runs.regionH 2 rfl H ?_; intro b8 σ H
    refine Ops.move (v := (.v (.int .i64 (w64 a.digits.d8)))) rfl rfl ?_
    refine Ops.int (m := (w64 a.digits.d8)) (m' := 0) (r := .bool (decide ((w64 a.digits.d8) > 0))) rfl rfl rfl rfl rfl ?_
    apply Ops.nil
    replace H := H.all
    refine Runs.whether (v := (decide ((w64 a.digits.d8) > 0))) rfl ?_ ?_ <;> intro hc1
    · replace h := cond_T hc1 h
      apply Runs.then
      refine Runs.regionH 2 rfl H ?_; intro b9 σ H
      refine Ops.assign (v := (.v (.int .i64 0))) rfl rfl ?_
      refine Ops.assign (v := (.v (.int .i64 10))) rfl rfl ?_
      apply Ops.nil
      replace H := H.all
      apply Runs.ret
      replace h := Option.some.inj h; subst h
      exact (.inr ⟨_, rfl, rfl, (Ends.H (xs := [(.v (.int .i64 0)), (.v (.int .i64 10))]) (.inr rfl) H (.tmp (v := (.v (.int .i64 0))) rfl (.tmp (v := (.v (.int .i64 10))) rfl .nil)) (.two (.cons (.c (.v _)) (.cons (.c (.v _)) .nil))))⟩)
    · replace h := cond_F hc1 h
      apply Runs.skip
      apply Runs.exit
      replace h := Option.some.inj h; subst h
      exact (.inl ⟨_, rfl, rfl, ⟨rfl, rfl, rfl, rfl, trivial⟩, H⟩)
  · rintro x e σ (⟨a2, rfl, rfl, he, H⟩ | ⟨r', rfl, rfl, hE⟩)
    · skip
      replace h := jgo h
      obtain ⟨e, rfl⟩ := he.ex
      refine Runs.regionH 3 rfl H ?_; intro b10 σ H
      refine Ops.move (v := (.v (.int .i64 8))) rfl rfl ?_
      refine Ops.int (m := 8) (m' := 1) (r := .int .i64 7) rfl rfl rfl rfl rfl ?_
      refine Ops.assign (v := (.v (.int .i64 7))) rfl rfl ?_
      apply Ops.nil
      replace H := H.all
      apply Runs.again
      apply Runs.then
      apply Runs.then
      refine Runs.regionH 2 rfl H ?_; intro b11 σ H
      refine Ops.move (v := (.v (.int .i64 7))) rfl rfl ?_
      refine Ops.int (m := 7) (m' := 0) (r := .bool true) rfl rfl rfl rfl rfl ?_
      apply Ops.nil
      replace H := H.all
      refine Runs.yes rfl ?_
      apply Runs.skip
      apply Runs.then
      obtain ⟨y2, hj2, h⟩ := bind_some h
      refine Runs.mono (Q := fun x e σ => (∃ a3, y2 = (.go a3) ∧ x = .normal ∧ EnvHas e [(1, (.ptr (b1 + 0) 10 0)), (4, (.v (.int .i64 0))), (5, (.v (.int .i64 x1))), (6, (.v (.int .i64 7)))] ∧ Hs σ [.blk (b1 + 0) 73 [(.v (.bool a.minus)), (.v (.int .u32 a.digits.d0)), (.v (.int .u32 a.digits.d1)), (.v (.int .u32 a.digits.d2)), (.v (.int .u32 a.digits.d3)), (.v (.int .u32 a.digits.d4)), (.v (.int .u32 a.digits.d5)), (.v (.int .u32 a.digits.d6)), (.v (.int .u32 a.digits.d7)), (.v (.int .u32 a.digits.d8))]]) ∨ (∃ r', y2 = (.ret r') ∧ x = .ret ∧ Ends CX Try.f53.results.toList (.tup [(.v (.int .i64 r'.1)), (.v (.int .i64 r'.2))]) x e σ)) ?_ ?_
      · replace h := hj2
        apply Runs.inBlock
        apply Runs.then
        refine Runs.regionH 6 rfl H ?_; intro b12 σ H
        refine Ops.move (v := (.v (.int .i64 7))) rfl rfl ?_
        refine Ops.fieldAddrH (off := 0) (fo := 1) H 0 rfl rfl rfl rfl rfl nofun rfl ?_
        refine Ops.arrAddrH (off := 1) (m := 9) (s := 1) (iv := 7) H 0 rfl rfl rfl rfl (by decide) (by decide) rfl rfl nofun rfl ?_
        refine Ops.loadH (off := 8) (v := (.v (.int .u32 a.digits.d7))) H 0 rfl rfl rfl rfl rfl nofun rfl ?_
        refine Ops.conv (m := a.digits.d7) rfl rfl rfl rfl ?_
        refine Ops.assign (v := (.v (.int .i64 (w64 a.digits.d7)))) rfl rfl ?_
        apply Ops.nil
        replace H := H.all
        apply Runs.then
        apply Runs.then
        refine Runs.regionH 2 rfl H ?_; intro b13 σ H
        refine Ops.move (v := (.v (.int .i64 7))) rfl rfl ?_
        refine Ops.int (m := 7) (m' := 4) (r := .bool true) rfl rfl rfl rfl rfl ?_
        apply Ops.nil
        replace H := H.all
        refine Runs.yes rfl ?_
        apply Runs.then
        apply Runs.then
        refine Runs.regionH 2 rfl H ?_; intro b14 σ H
        refine Ops.move (v := (.v (.int .i64 (w64 a.digits.d7)))) rfl rfl ?_
        refine Ops.int (m := (w64 a.digits.d7)) (m' := 0) (r := .bool (decide ((w64 a.digits.d7) > 0))) rfl rfl rfl rfl rfl ?_
        apply Ops.nil
        replace H := H.all
        refine Runs.whether (v := (decide ((w64 a.digits.d7) > 0))) rfl ?_ ?_ <;> intro hc2
        · replace h := cond_T hc2 h
          apply Runs.then
          refine Runs.regionH 2 rfl H ?_; intro b15 σ H
          refine Ops.assign (v := (.v (.int .i64 0))) rfl rfl ?_
          refine Ops.assign (v := (.v (.int .i64 10))) rfl rfl ?_
          apply Ops.nil
          replace H := H.all
          apply Runs.ret
          replace h := Option.some.inj h; subst h
          exact (.inr ⟨_, rfl, rfl, (Ends.H (xs := [(.v (.int .i64 0)), (.v (.int .i64 10))]) (.inr rfl) H (.tmp (v := (.v (.int .i64 0))) rfl (.tmp (v := (.v (.int .i64 10))) rfl .nil)) (.two (.cons (.c (.v _)) (.cons (.c (.v _)) .nil))))⟩)
        · replace h := cond_F hc2 h
          apply Runs.skip
          apply Runs.exit
          replace h := Option.some.inj h; subst h
          exact (.inl ⟨_, rfl, rfl, ⟨rfl, rfl, rfl, rfl, trivial⟩, H⟩)
      · rintro x e σ (⟨a4, rfl, rfl, he, H⟩ | ⟨r', rfl, rfl, hE⟩)
        · skip
          replace h := jgo h
          obtain ⟨e, rfl⟩ := he.ex
          refine Runs.regionH 3 rfl H ?_; intro b16 σ H
          refine Ops.move (v := (.v (.int .i64 7))) rfl rfl ?_
          refine Ops.int (m := 7) (m' := 1) (r := .int .i64 6) rfl rfl rfl rfl rfl ?_
          refine Ops.assign (v := (.v (.int .i64 6))) rfl rfl ?_
          apply Ops.nil
          replace H := H.all
          apply Runs.again
          apply Runs.then
          apply Runs.then
          refine Runs.regionH 2 rfl H ?_; intro b17 σ H
          refine Ops.move (v := (.v (.int .i64 6))) rfl rfl ?_
          refine Ops.int (m := 6) (m' := 0) (r := .bool true) rfl rfl rfl rfl rfl ?_
          apply Ops.nil
          replace H := H.all
          refine Runs.yes rfl ?_
          apply Runs.skip
          apply Runs.then
          obtain ⟨y3, hj3, h⟩ := bind_some h
          refine Runs.mono (Q := fun x e σ => (∃ a5, y3 = (.go a5) ∧ x = .normal ∧ EnvHas e [(1, (.ptr (b1 + 0) 10 0)), (4, (.v (.int .i64 0))), (5, (.v (.int .i64 x1))), (6, (.v (.int .i64 6)))] ∧ Hs σ [.blk (b1 + 0) 73 [(.v (.bool a.minus)), (.v (.int .u32 a.digits.d0)), (.v (.int .u32 a.digits.d1)), (.v (.int .u32 a.digits.d2)), (.v (.int .u32 a.digits.d3)), (.v (.int .u32 a.digits.d4)), (.v (.int .u32 a.digits.d5)), (.v (.int .u32 a.digits.d6)), (.v (.int .u32 a.digits.d7)), (.v (.int .u32 a.digits.d8))]]) ∨ (∃ r', y3 = (.ret r') ∧ x = .ret ∧ Ends CX Try.f53.results.toList (.tup [(.v (.int .i64 r'.1)), (.v (.int .i64 r'.2))]) x e σ)) ?_ ?_
          · replace h := hj3
            apply Runs.inBlock
            apply Runs.then
            refine Runs.regionH 6 rfl H ?_; intro b18 σ H
            refine Ops.move (v := (.v (.int .i64 6))) rfl rfl ?_
            refine Ops.fieldAddrH (off := 0) (fo := 1) H 0 rfl rfl rfl rfl rfl nofun rfl ?_
            refine Ops.arrAddrH (off := 1) (m := 9) (s := 1) (iv := 6) H 0 rfl rfl rfl rfl (by decide) (by decide) rfl rfl nofun rfl ?_
            refine Ops.loadH (off := 7) (v := (.v (.int .u32 a.digits.d6))) H 0 rfl rfl rfl rfl rfl nofun rfl ?_
            refine Ops.conv (m := a.digits.d6) rfl rfl rfl rfl ?_
            refine Ops.assign (v := (.v (.int .i64 (w64 a.digits.d6)))) rfl rfl ?_
            apply Ops.nil
            replace H := H.all
            apply Runs.then
            apply Runs.then
            refine Runs.regionH 2 rfl H ?_; intro b19 σ H
            refine Ops.move (v := (.v (.int .i64 6))) rfl rfl ?_
            refine Ops.int (m := 6) (m' := 4) (r := .bool true) rfl rfl rfl rfl rfl ?_
            apply Ops.nil
            replace H := H.all
            refine Runs.yes rfl ?_
            apply Runs.then
            apply Runs.then
            refine Runs.regionH 2 rfl H ?_; intro b20 σ H
            refine Ops.move (v := (.v (.int .i64 (w64 a.digits.d6)))) rfl rfl ?_
            refine Ops.int (m := (w64 a.digits.d6)) (m' := 0) (r := .bool (decide ((w64 a.digits.d6) > 0))) rfl rfl rfl rfl rfl ?_
            apply Ops.nil
            replace H := H.all
            refine Runs.whether (v := (decide ((w64 a.digits.d6) > 0))) rfl ?_ ?_ <;> intro hc3
            · replace h := cond_T hc3 h
              apply Runs.then
              refine Runs.regionH 2 rfl H ?_; intro b21 σ H
              refine Ops.assign (v := (.v (.int .i64 0))) rfl rfl ?_
              refine Ops.assign (v := (.v (.int .i64 10))) rfl rfl ?_
              apply Ops.nil
              replace H := H.all
              apply Runs.ret
              replace h := Option.some.inj h; subst h
              exact (.inr ⟨_, rfl, rfl, (Ends.H (xs := [(.v (.int .i64 0)), (.v (.int .i64 10))]) (.inr rfl) H (.tmp (v := (.v (.int .i64 0))) rfl (.tmp (v := (.v (.int .i64 10))) rfl .nil)) (.two (.cons (.c (.v _)) (.cons (.c (.v _)) .nil))))⟩)
            · replace h := cond_F hc3 h
              apply Runs.skip
              apply Runs.exit
              replace h := Option.some.inj h; subst h
              exact (.inl ⟨_, rfl, rfl, ⟨rfl, rfl, rfl, rfl, trivial⟩, H⟩)
          · rintro x e σ (⟨a6, rfl, rfl, he, H⟩ | ⟨r', rfl, rfl, hE⟩)
            · skip
              replace h := jgo h
              obtain ⟨e, rfl⟩ := he.ex
              refine Runs.regionH 3 rfl H ?_; intro b22 σ H
              refine Ops.move (v := (.v (.int .i64 6))) rfl rfl ?_
              refine Ops.int (m := 6) (m' := 1) (r := .int .i64 5) rfl rfl rfl rfl rfl ?_
              refine Ops.assign (v := (.v (.int .i64 5))) rfl rfl ?_
              apply Ops.nil
              replace H := H.all
              apply Runs.again
              apply Runs.then
              apply Runs.then
              refine Runs.regionH 2 rfl H ?_; intro b23 σ H
              refine Ops.move (v := (.v (.int .i64 5))) rfl rfl ?_
              refine Ops.int (m := 5) (m' := 0) (r := .bool true) rfl rfl rfl rfl rfl ?_
              apply Ops.nil
              replace H := H.all
              refine Runs.yes rfl ?_
              apply Runs.skip
              apply Runs.then
              obtain ⟨y4, hj4, h⟩ := bind_some h
              refine Runs.mono (Q := fun x e σ => (∃ a7, y4 = (.go a7) ∧ x = .normal ∧ EnvHas e [(1, (.ptr (b1 + 0) 10 0)), (4, (.v (.int .i64 0))), (5, (.v (.int .i64 x1))), (6, (.v (.int .i64 5)))] ∧ Hs σ [.blk (b1 + 0) 73 [(.v (.bool a.minus)), (.v (.int .u32 a.digits.d0)), (.v (.int .u32 a.digits.d1)), (.v (.int .u32 a.digits.d2)), (.v (.int .u32 a.digits.d3)), (.v (.int .u32 a.digits.d4)), (.v (.int .u32 a.digits.d5)), (.v (.int .u32 a.digits.d6)), (.v (.int .u32 a.digits.d7)), (.v (.int .u32 a.digits.d8))]]) ∨ (∃ r', y4 = (.ret r') ∧ x = .ret ∧ Ends CX Try.f53.results.toList (.tup [(.v (.int .i64 r'.1)), (.v (.int .i64 r'.2))]) x e σ)) ?_ ?_
              · replace h := hj4
                apply Runs.inBlock
                apply Runs.then
                refine Runs.regionH 6 rfl H ?_; intro b24 σ H
                refine Ops.move (v := (.v (.int .i64 5))) rfl rfl ?_
                refine Ops.fieldAddrH (off := 0) (fo := 1) H 0 rfl rfl rfl rfl rfl nofun rfl ?_
                refine Ops.arrAddrH (off := 1) (m := 9) (s := 1) (iv := 5) H 0 rfl rfl rfl rfl (by decide) (by decide) rfl rfl nofun rfl ?_
                refine Ops.loadH (off := 6) (v := (.v (.int .u32 a.digits.d5))) H 0 rfl rfl rfl rfl rfl nofun rfl ?_
                refine Ops.conv (m := a.digits.d5) rfl rfl rfl rfl ?_
                refine Ops.assign (v := (.v (.int .i64 (w64 a.digits.d5)))) rfl rfl ?_
                apply Ops.nil
                replace H := H.all
                apply Runs.then
                apply Runs.then
                refine Runs.regionH 2 rfl H ?_; intro b25 σ H
                refine Ops.move (v := (.v (.int .i64 5))) rfl rfl ?_
                refine Ops.int (m := 5) (m' := 4) (r := .bool true) rfl rfl rfl rfl rfl ?_
                apply Ops.nil
                replace H := H.all
                refine Runs.yes rfl ?_
                apply Runs.then
                apply Runs.then
                refine Runs.regionH 2 rfl H ?_; intro b26 σ H
                refine Ops.move (v := (.v (.int .i64 (w64 a.digits.d5)))) rfl rfl ?_
                refine Ops.int (m := (w64 a.digits.d5)) (m' := 0) (r := .bool (decide ((w64 a.digits.d5) > 0))) rfl rfl rfl rfl rfl ?_
                apply Ops.nil
                replace H := H.all
                refine Runs.whether (v := (decide ((w64 a.digits.d5) > 0))) rfl ?_ ?_ <;> intro hc4
                · replace h := cond_T hc4 h
                  apply Runs.then
                  refine Runs.regionH 2 rfl H ?_; intro b27 σ H
                  refine Ops.assign (v := (.v (.int .i64 0))) rfl rfl ?_
                  refine Ops.assign (v := (.v (.int .i64 10))) rfl rfl ?_
                  apply Ops.nil
                  replace H := H.all
                  apply Runs.ret
                  replace h := Option.some.inj h; subst h
                  exact (.inr ⟨_, rfl, rfl, (Ends.H (xs := [(.v (.int .i64 0)), (.v (.int .i64 10))]) (.inr rfl) H (.tmp (v := (.v (.int .i64 0))) rfl (.tmp (v := (.v (.int .i64 10))) rfl .nil)) (.two (.cons (.c (.v _)) (.cons (.c (.v _)) .nil))))⟩)
                · replace h := cond_F hc4 h
                  apply Runs.skip
                  apply Runs.exit
                  replace h := Option.some.inj h; subst h
                  exact (.inl ⟨_, rfl, rfl, ⟨rfl, rfl, rfl, rfl, trivial⟩, H⟩)
              · rintro x e σ (⟨a8, rfl, rfl, he, H⟩ | ⟨r', rfl, rfl, hE⟩)
                · skip
                  replace h := jgo h
                  obtain ⟨e, rfl⟩ := he.ex
                  refine Runs.regionH 3 rfl H ?_; intro b28 σ H
                  refine Ops.move (v := (.v (.int .i64 5))) rfl rfl ?_
                  refine Ops.int (m := 5) (m' := 1) (r := .int .i64 4) rfl rfl rfl rfl rfl ?_
                  refine Ops.assign (v := (.v (.int .i64 4))) rfl rfl ?_
                  apply Ops.nil
                  replace H := H.all
                  apply Runs.again
                  apply Runs.then
                  apply Runs.then
                  refine Runs.regionH 2 rfl H ?_; intro b29 σ H
                  refine Ops.move (v := (.v (.int .i64 4))) rfl rfl ?_
                  refine Ops.int (m := 4) (m' := 0) (r := .bool true) rfl rfl rfl rfl rfl ?_
                  apply Ops.nil
                  replace H := H.all
                  refine Runs.yes rfl ?_
                  apply Runs.skip
                  apply Runs.then
                  obtain ⟨y5, hj5, h⟩ := bind_some h
                  refine Runs.mono (Q := fun x e σ => (∃ a9, y5 = (.go a9) ∧ x = .normal ∧ EnvHas e [(1, (.ptr (b1 + 0) 10 0)), (4, (.v (.int .i64 0))), (5, (.v (.int .i64 x1))), (6, (.v (.int .i64 4)))] ∧ Hs σ [.blk (b1 + 0) 73 [(.v (.bool a.minus)), (.v (.int .u32 a.digits.d0)), (.v (.int .u32 a.digits.d1)), (.v (.int .u32 a.digits.d2)), (.v (.int .u32 a.digits.d3)), (.v (.int .u32 a.digits.d4)), (.v (.int .u32 a.digits.d5)), (.v (.int .u32 a.digits.d6)), (.v (.int .u32 a.digits.d7)), (.v (.int .u32 a.digits.d8))]]) ∨ (∃ r', y5 = (.ret r') ∧ x = .ret ∧ Ends CX Try.f53.results.toList (.tup [(.v (.int .i64 r'.1)), (.v (.int .i64 r'.2))]) x e σ)) ?_ ?_
                  · replace h := hj5
                    apply Runs.inBlock
                    apply Runs.then
                    refine Runs.regionH 6 rfl H ?_; intro b30 σ H
                    refine Ops.move (v := (.v (.int .i64 4))) rfl rfl ?_
                    refine Ops.fieldAddrH (off := 0) (fo := 1) H 0 rfl rfl rfl rfl rfl nofun rfl ?_
                    refine Ops.arrAddrH (off := 1) (m := 9) (s := 1) (iv := 4) H 0 rfl rfl rfl rfl (by decide) (by decide) rfl rfl nofun rfl ?_
                    refine Ops.loadH (off := 5) (v := (.v (.int .u32 a.digits.d4))) H 0 rfl rfl rfl rfl rfl nofun rfl ?_
                    refine Ops.conv (m := a.digits.d4) rfl rfl rfl rfl ?_
                    refine Ops.assign (v := (.v (.int .i64 (w64 a.digits.d4)))) rfl rfl ?_
                    apply Ops.nil
                    replace H := H.all
                    apply Runs.then
                    apply Runs.then
                    refine Runs.regionH 2 rfl H ?_; intro b31 σ H
                    refine Ops.move (v := (.v (.int .i64 4))) rfl rfl ?_
                    refine Ops.int (m := 4) (m' := 4) (r := .bool true) rfl rfl rfl rfl rfl ?_
                    apply Ops.nil
                    replace H := H.all
                    refine Runs.yes rfl ?_
                    apply Runs.then
                    apply Runs.then
                    refine Runs.regionH 2 rfl H ?_; intro b32 σ H
                    refine Ops.move (v := (.v (.int .i64 (w64 a.digits.d4)))) rfl rfl ?_
                    refine Ops.int (m := (w64 a.digits.d4)) (m' := 0) (r := .bool (decide ((w64 a.digits.d4) > 0))) rfl rfl rfl rfl rfl ?_
                    apply Ops.nil
                    replace H := H.all
                    refine Runs.whether (v := (decide ((w64 a.digits.d4) > 0))) rfl ?_ ?_ <;> intro hc5
                    · replace h := cond_T hc5 h
                      apply Runs.then
                      refine Runs.regionH 2 rfl H ?_; intro b33 σ H
                      refine Ops.assign (v := (.v (.int .i64 0))) rfl rfl ?_
                      refine Ops.assign (v := (.v (.int .i64 10))) rfl rfl ?_
                      apply Ops.nil
                      replace H := H.all
                      apply Runs.ret
                      replace h := Option.some.inj h; subst h
                      exact (.inr ⟨_, rfl, rfl, (Ends.H (xs := [(.v (.int .i64 0)), (.v (.int .i64 10))]) (.inr rfl) H (.tmp (v := (.v (.int .i64 0))) rfl (.tmp (v := (.v (.int .i64 10))) rfl .nil)) (.two (.cons (.c (.v _)) (.cons (.c (.v _)) .nil))))⟩)
                    · replace h := cond_F hc5 h
                      apply Runs.skip
                      apply Runs.exit
                      replace h := Option.some.inj h; subst h
                      exact (.inl ⟨_, rfl, rfl, ⟨rfl, rfl, rfl, rfl, trivial⟩, H⟩)
                  · rintro x e σ (⟨a10, rfl, rfl, he, H⟩ | ⟨r', rfl, rfl, hE⟩)
                    · skip
                      replace h := jgo h
                      obtain ⟨e, rfl⟩ := he.ex
                      refine Runs.regionH 3 rfl H ?_; intro b34 σ H
                      refine Ops.move (v := (.v (.int .i64 4))) rfl rfl ?_
                      refine Ops.int (m := 4) (m' := 1) (r := .int .i64 3) rfl rfl rfl rfl rfl ?_
                      refine Ops.assign (v := (.v (.int .i64 3))) rfl rfl ?_
                      apply Ops.nil
                      replace H := H.all
                      apply Runs.again
                      apply Runs.then
                      apply Runs.then
                      refine Runs.regionH 2 rfl H ?_; intro b35 σ H
                      refine Ops.move (v := (.v (.int .i64 3))) rfl rfl ?_
                      refine Ops.int (m := 3) (m' := 0) (r := .bool true) rfl rfl rfl rfl rfl ?_
                      apply Ops.nil
                      replace H := H.all
                      refine Runs.yes rfl ?_
                      apply Runs.skip
                      apply Runs.then
                      obtain ⟨y6, hj6, h⟩ := bind_some h
                      refine Runs.mono (Q := fun x e σ => (∃ a11, y6 = (.go a11) ∧ x = .normal ∧ EnvHas e [(1, (.ptr (b1 + 0) 10 0)), (4, (.v (.int .i64 a11))), (5, (.v (.int .i64 x1))), (6, (.v (.int .i64 3)))] ∧ Hs σ [.blk (b1 + 0) 73 [(.v (.bool a.minus)), (.v (.int .u32 a.digits.d0)), (.v (.int .u32 a.digits.d1)), (.v (.int .u32 a.digits.d2)), (.v (.int .u32 a.digits.d3)), (.v (.int .u32 a.digits.d4)), (.v (.int .u32 a.digits.d5)), (.v (.int .u32 a.digits.d6)), (.v (.int .u32 a.digits.d7)), (.v (.int .u32 a.digits.d8))]]) ∨ (∃ r', y6 = (.ret r') ∧ x = .ret ∧ Ends CX Try.f53.results.toList (.tup [(.v (.int .i64 r'.1)), (.v (.int .i64 r'.2))]) x e σ)) ?_ ?_
                      · replace h := hj6
                        apply Runs.inBlock
                        apply Runs.then
                        refine Runs.regionH 6 rfl H ?_; intro b36 σ H
                        refine Ops.move (v := (.v (.int .i64 3))) rfl rfl ?_
                        refine Ops.fieldAddrH (off := 0) (fo := 1) H 0 rfl rfl rfl rfl rfl nofun rfl ?_
                        refine Ops.arrAddrH (off := 1) (m := 9) (s := 1) (iv := 3) H 0 rfl rfl rfl rfl (by decide) (by decide) rfl rfl nofun rfl ?_
                        refine Ops.loadH (off := 4) (v := (.v (.int .u32 a.digits.d3))) H 0 rfl rfl rfl rfl rfl nofun rfl ?_
                        refine Ops.conv (m := a.digits.d3) rfl rfl rfl rfl ?_
                        refine Ops.assign (v := (.v (.int .i64 (w64 a.digits.d3)))) rfl rfl ?_
                        apply Ops.nil
                        replace H := H.all
                        apply Runs.then
                        apply Runs.then
                        refine Runs.regionH 2 rfl H ?_; intro b37 σ H
                        refine Ops.move (v := (.v (.int .i64 3))) rfl rfl ?_
                        refine Ops.int (m := 3) (m' := 4) (r := .bool false) rfl rfl rfl rfl rfl ?_
                        apply Ops.nil
                        replace H := H.all
                        refine Runs.no rfl ?_
                        apply Runs.skip
                        apply Runs.then
                        apply Runs.then
                        refine Runs.regionH 6 rfl H ?_; intro b38 σ H
                        refine Ops.move (v := (.v (.int .i64 0))) rfl rfl ?_
                        refine Ops.move (v := (.v (.int .i64 x1))) rfl rfl ?_
                        refine Ops.move (v := (.v (.int .i64 (w64 a.digits.d3)))) rfl rfl ?_
                        refine Ops.int (m := x1) (m' := (w64 a.digits.d3)) (r := .int .i64 (w64 (x1 + (w64 a.digits.d3)))) rfl rfl rfl rfl rfl ?_
                        refine Ops.quo (m := (w64 (x1 + (w64 a.digits.d3)))) (m' := 65536) rfl rfl (by decide) rfl ?_
                        refine Ops.int (m := 0) (m' := (w64 ((w64 (x1 + (w64 a.digits.d3))).tdiv 65536))) (r := .bool (decide (0 < (w64 ((w64 (x1 + (w64 a.digits.d3))).tdiv 65536))))) rfl rfl rfl rfl rfl ?_
                        apply Ops.nil
                        replace H := H.all
                        refine Runs.whether (v := (decide (0 < (w64 ((w64 (x1 + (w64 a.digits.d3))).tdiv 65536))))) rfl ?_ ?_ <;> intro hc6
                        · replace h := cond_T hc6 h
                          apply Runs.then
                          refine Runs.regionH 2 rfl H ?_; intro b39 σ H
                          refine Ops.assign (v := (.v (.int .i64 0))) rfl rfl ?_
                          refine Ops.assign (v := (.v (.int .i64 10))) rfl rfl ?_
                          apply Ops.nil
                          replace H := H.all
                          apply Runs.ret
                          replace h := Option.some.inj h; subst h
                          exact (.inr ⟨_, rfl, rfl, (Ends.H (xs := [(.v (.int .i64 0)), (.v (.int .i64 10))]) (.inr rfl) H (.tmp (v := (.v (.int .i64 0))) rfl (.tmp (v := (.v (.int .i64 10))) rfl .nil)) (.two (.cons (.c (.v _)) (.cons (.c (.v _)) .nil))))⟩)
                        · replace h := cond_F hc6 h
                          apply Runs.skip
                          refine Runs.regionH 5 rfl H ?_; intro b40 σ H
                          refine Ops.move (v := (.v (.int .i64 0))) rfl rfl ?_
                          refine Ops.int (m := 0) (m' := 65536) (r := .int .i64 0) rfl rfl rfl rfl rfl ?_
                          refine Ops.move (v := (.v (.int .i64 (w64 a.digits.d3)))) rfl rfl ?_
                          refine Ops.int (m := 0) (m' := (w64 a.digits.d3)) (r := .int .i64 (w64 (0 - (w64 a.digits.d3)))) rfl rfl rfl rfl rfl ?_
                          obtain ⟨x2, q2, h⟩ := bind_some h
                          refine Ops.assign (v := (.v (.int .i64 x2))) (by rw [← Option.some.inj q2]; rfl) rfl ?_
                          apply Ops.nil
                          replace H := H.all
                          replace h := Option.some.inj h; subst h
                          exact (.inl ⟨_, rfl, rfl, ⟨rfl, rfl, rfl, rfl, trivial⟩, H⟩)
                      · rintro x e σ (⟨a12, rfl, rfl, he, H⟩ | ⟨r', rfl, rfl, hE⟩)
                        · skip
                          replace h := jgo h
                          obtain ⟨e, rfl⟩ := he.ex
                          refine Runs.regionH 3 rfl H ?_; intro b41 σ H
                          refine Ops.move (v := (.v (.int .i64 3))) rfl rfl ?_
                          refine Ops.int (m := 3) (m' := 1) (r := .int .i64 2) rfl rfl rfl rfl rfl ?_
                          refine Ops.assign (v := (.v (.int .i64 2))) rfl rfl ?_
                          apply Ops.nil
                          replace H := H.all
                          apply Runs.again
                          apply Runs.then
                          apply Runs.then
                          refine Runs.regionH 2 rfl H ?_; intro b42 σ H
                          refine Ops.move (v := (.v (.int .i64 2))) rfl rfl ?_
                          refine Ops.int (m := 2) (m' := 0) (r := .bool true) rfl rfl rfl rfl rfl ?_
                          apply Ops.nil
                          replace H := H.all
                          refine Runs.yes rfl ?_
                          apply Runs.skip
                          apply Runs.then
                          obtain ⟨y7, hj7, h⟩ := bind_some h
                          refine Runs.mono (Q := fun x e σ => (∃ a13, y7 = (.go a13) ∧ x = .normal ∧ EnvHas e [(1, (.ptr (b1 + 0) 10 0)), (4, (.v (.int .i64 a13))), (5, (.v (.int .i64 x1))), (6, (.v (.int .i64 2)))] ∧ Hs σ [.blk (b1 + 0) 73 [(.v (.bool a.minus)), (.v (.int .u32 a.digits.d0)), (.v (.int .u32 a.digits.d1)), (.v (.int .u32 a.digits.d2)), (.v (.int .u32 a.digits.d3)), (.v (.int .u32 a.digits.d4)), (.v (.int .u32 a.digits.d5)), (.v (.int .u32 a.digits.d6)), (.v (.int .u32 a.digits.d7)), (.v (.int .u32 a.digits.d8))]]) ∨ (∃ r', y7 = (.ret r') ∧ x = .ret ∧ Ends CX Try.f53.results.toList (.tup [(.v (.int .i64 r'.1)), (.v (.int .i64 r'.2))]) x e σ)) ?_ ?_
                          · replace h := hj7
                            apply Runs.inBlock
                            apply Runs.then
                            refine Runs.regionH 6 rfl H ?_; intro b43 σ H
                            refine Ops.move (v := (.v (.int .i64 2))) rfl rfl ?_
                            refine Ops.fieldAddrH (off := 0) (fo := 1) H 0 rfl rfl rfl rfl rfl nofun rfl ?_
                            refine Ops.arrAddrH (off := 1) (m := 9) (s := 1) (iv := 2) H 0 rfl rfl rfl rfl (by decide) (by decide) rfl rfl nofun rfl ?_
                            refine Ops.loadH (off := 3) (v := (.v (.int .u32 a.digits.d2))) H 0 rfl rfl rfl rfl rfl nofun rfl ?_
                            refine Ops.conv (m := a.digits.d2) rfl rfl rfl rfl ?_
                            refine Ops.assign (v := (.v (.int .i64 (w64 a.digits.d2)))) rfl rfl ?_
                            apply Ops.nil
                            replace H := H.all
                            apply Runs.then
                            apply Runs.then
                            refine Runs.regionH 2 rfl H ?_; intro b44 σ H
                            refine Ops.move (v := (.v (.int .i64 2))) rfl rfl ?_
                            refine Ops.int (m := 2) (m' := 4) (r := .bool false) rfl rfl rfl rfl rfl ?_
                            apply Ops.nil
                            replace H := H.all
                            refine Runs.no rfl ?_
                            apply Runs.skip
                            apply Runs.then
                            apply Runs.then
                            refine Runs.regionH 6 rfl H ?_; intro b45 σ H
                            refine Ops.move (v := (.v (.int .i64 a12))) rfl rfl ?_
                            refine Ops.move (v := (.v (.int .i64 x1))) rfl rfl ?_
                            refine Ops.move (v := (.v (.int .i64 (w64 a.digits.d2)))) rfl rfl ?_
                            refine Ops.int (m := x1) (m' := (w64 a.digits.d2)) (r := .int .i64 (w64 (x1 + (w64 a.digits.d2)))) rfl rfl rfl rfl rfl ?_
                            refine Ops.quo (m := (w64 (x1 + (w64 a.digits.d2)))) (m' := 65536) rfl rfl (by decide) rfl ?_
                            refine Ops.int (m := a12) (m' := (w64 ((w64 (x1 + (w64 a.digits.d2))).tdiv 65536))) (r := .bool (decide (a12 < (w64 ((w64 (x1 + (w64 a.digits.d2))).tdiv 65536))))) rfl rfl rfl rfl rfl ?_
                            apply Ops.nil
                            replace H := H.all
                            refine Runs.whether (v := (decide (a12 < (w64 ((w64 (x1 + (w64 a.digits.d2))).tdiv 65536))))) rfl ?_ ?_ <;> intro hc7
                            · replace h := cond_T hc7 h
                              apply Runs.then
                              refine Runs.regionH 2 rfl H ?_; intro b46 σ H
                              refine Ops.assign (v := (.v (.int .i64 0))) rfl rfl ?_
                              refine Ops.assign (v := (.v (.int .i64 10))) rfl rfl ?_
                              apply Ops.nil
                              replace H := H.all
                              apply Runs.ret
                              replace h := Option.some.inj h; subst h
                              exact (.inr ⟨_, rfl, rfl, (Ends.H (xs := [(.v (.int .i64 0)), (.v (.int .i64 10))]) (.inr rfl) H (.tmp (v := (.v (.int .i64 0))) rfl (.tmp (v := (.v (.int .i64 10))) rfl .nil)) (.two (.cons (.c (.v _)) (.cons (.c (.v _)) .nil))))⟩)
                            · replace h := cond_F hc7 h
                              apply Runs.skip
                              refine Runs.regionH 5 rfl H ?_; intro b47 σ H
                              refine Ops.move (v := (.v (.int .i64 a12))) rfl rfl ?_
                              refine Ops.int (m := a12) (m' := 65536) (r := .int .i64 (w64 (a12 * 65536))) rfl rfl rfl rfl rfl ?_
                              refine Ops.move (v := (.v (.int .i64 (w64 a.digits.d2)))) rfl rfl ?_
                              refine Ops.int (m := (w64 (a12 * 65536))) (m' := (w64 a.digits.d2)) (r := .int .i64 (w64 ((w64 (a12 * 65536)) - (w64 a.digits.d2)))) rfl rfl rfl rfl rfl ?_
                              obtain ⟨x3, q3, h⟩ := bind_some h
                              refine Ops.assign (v := (.v (.int .i64 x3))) (by rw [← Option.some.inj q3]; rfl) rfl ?_
                              apply Ops.nil
                              replace H := H.all
                              replace h := Option.some.inj h; subst h
                              exact (.inl ⟨_, rfl, rfl, ⟨rfl, rfl, rfl, rfl, trivial⟩, H⟩)
                          · rintro x e σ (⟨a14, rfl, rfl, he, H⟩ | ⟨r', rfl, rfl, hE⟩)
                            · skip
                              replace h := jgo h
                              obtain ⟨e, rfl⟩ := he.ex
                              refine Runs.regionH 3 rfl H ?_; intro b48 σ H
                              refine Ops.move (v := (.v (.int .i64 2))) rfl rfl ?_
                              refine Ops.int (m := 2) (m' := 1) (r := .int .i64 1) rfl rfl rfl rfl rfl ?_
                              refine Ops.assign (v := (.v (.int .i64 1))) rfl rfl ?_
                              apply Ops.nil
                              replace H := H.all
                              apply Runs.again
                              apply Runs.then
                              apply Runs.then
                              refine Runs.regionH 2 rfl H ?_; intro b49 σ H
                              refine Ops.move (v := (.v (.int .i64 1))) rfl rfl ?_
                              refine Ops.int (m := 1) (m' := 0) (r := .bool true) rfl rfl rfl rfl rfl ?_
                              apply Ops.nil
                              replace H := H.all
                              refine Runs.yes rfl ?_
                              apply Runs.skip
                              apply Runs.then
                              obtain ⟨y8, hj8, h⟩ := bind_some h
                              refine Runs.mono (Q := fun x e σ => (∃ a15, y8 = (.go a15) ∧ x = .normal ∧ EnvHas e [(1, (.ptr (b1 + 0) 10 0)), (4, (.v (.int .i64 a15))), (5, (.v (.int .i64 x1))), (6, (.v (.int .i64 1)))] ∧ Hs σ [.blk (b1 + 0) 73 [(.v (.bool a.minus)), (.v (.int .u32 a.digits.d0)), (.v (.int .u32 a.digits.d1)), (.v (.int .u32 a.digits.d2)), (.v (.int .u32 a.digits.d3)), (.v (.int .u32 a.digits.d4)), (.v (.int .u32 a.digits.d5)), (.v (.int .u32 a.digits.d6)), (.v (.int .u32 a.digits.d7)), (.v (.int .u32 a.digits.d8))]]) ∨ (∃ r', y8 = (.ret r') ∧ x = .ret ∧ Ends CX Try.f53.results.toList (.tup [(.v (.int .i64 r'.1)), (.v (.int .i64 r'.2))]) x e σ)) ?_ ?_
                              · replace h := hj8
                                apply Runs.inBlock
                                apply Runs.then
                                refine Runs.regionH 6 rfl H ?_; intro b50 σ H
                                refine Ops.move (v := (.v (.int .i64 1))) rfl rfl ?_
                                refine Ops.fieldAddrH (off := 0) (fo := 1) H 0 rfl rfl rfl rfl rfl nofun rfl ?_
                                refine Ops.arrAddrH (off := 1) (m := 9) (s := 1) (iv := 1) H 0 rfl rfl rfl rfl (by decide) (by decide) rfl rfl nofun rfl ?_
                                refine Ops.loadH (off := 2) (v := (.v (.int .u32 a.digits.d1))) H 0 rfl rfl rfl rfl rfl nofun rfl ?_
                                refine Ops.conv (m := a.digits.d1) rfl rfl rfl rfl ?_
                                refine Ops.assign (v := (.v (.int .i64 (w64 a.digits.d1)))) rfl rfl ?_
                                apply Ops.nil
                                replace H := H.all
                                apply Runs.then
                                apply Runs.then
                                refine Runs.regionH 2 rfl H ?_; intro b51 σ H
                                refine Ops.move (v := (.v (.int .i64 1))) rfl rfl ?_
                                refine Ops.int (m := 1) (m' := 4) (r := .bool false) rfl rfl rfl rfl rfl ?_
                                apply Ops.nil
                                replace H := H.all
                                refine Runs.no rfl ?_
                                apply Runs.skip
                                apply Runs.then
                                apply Runs.then
                                refine Runs.regionH 6 rfl H ?_; intro b52 σ H
                                refine Ops.move (v := (.v (.int .i64 a14))) rfl rfl ?_
                                refine Ops.move (v := (.v (.int .i64 x1))) rfl rfl ?_
                                refine Ops.move (v := (.v (.int .i64 (w64 a.digits.d1)))) rfl rfl ?_
                                refine Ops.int (m := x1) (m' := (w64 a.digits.d1)) (r := .int .i64 (w64 (x1 + (w64 a.digits.d1)))) rfl rfl rfl rfl rfl ?_
                                refine Ops.quo (m := (w64 (x1 + (w64 a.digits.d1)))) (m' := 65536) rfl rfl (by decide) rfl ?_
                                refine Ops.int (m := a14) (m' := (w64 ((w64 (x1 + (w64 a.digits.d1))).tdiv 65536))) (r := .bool (decide (a14 < (w64 ((w64 (x1 + (w64 a.digits.d1))).tdiv 65536))))) rfl rfl rfl rfl rfl ?_
                                apply Ops.nil
                                replace H := H.all
                                refine Runs.whether (v := (decide (a14 < (w64 ((w64 (x1 + (w64 a.digits.d1))).tdiv 65536))))) rfl ?_ ?_ <;> intro hc8
                                · replace h := cond_T hc8 h
                                  apply Runs.then
                                  refine Runs.regionH 2 rfl H ?_; intro b53 σ H
                                  refine Ops.assign (v := (.v (.int .i64 0))) rfl rfl ?_
                                  refine Ops.assign (v := (.v (.int .i64 10))) rfl rfl ?_
                                  apply Ops.nil
                                  replace H := H.all
                                  apply Runs.ret
                                  replace h := Option.some.inj h; subst h
                                  exact (.inr ⟨_, rfl, rfl, (Ends.H (xs := [(.v (.int .i64 0)), (.v (.int .i64 10))]) (.inr rfl) H (.tmp (v := (.v (.int .i64 0))) rfl (.tmp (v := (.v (.int .i64 10))) rfl .nil)) (.two (.cons (.c (.v _)) (.cons (.c (.v _)) .nil))))⟩)
                                · replace h := cond_F hc8 h
                                  apply Runs.skip
                                  refine Runs.regionH 5 rfl H ?_; intro b54 σ H
                                  refine Ops.move (v := (.v (.int .i64 a14))) rfl rfl ?_
                                  refine Ops.int (m := a14) (m' := 65536) (r := .int .i64 (w64 (a14 * 65536))) rfl rfl rfl rfl rfl ?_
                                  refine Ops.move (v := (.v (.int .i64 (w64 a.digits.d1)))) rfl rfl ?_
                                  refine Ops.int (m := (w64 (a14 * 65536))) (m' := (w64 a.digits.d1)) (r := .int .i64 (w64 ((w64 (a14 * 65536)) - (w64 a.digits.d1)))) rfl rfl rfl rfl rfl ?_
                                  obtain ⟨x4, q4, h⟩ := bind_some h
                                  refine Ops.assign (v := (.v (.int .i64 x4))) (by rw [← Option.some.inj q4]; rfl) rfl ?_
                                  apply Ops.nil
                                  replace H := H.all
                                  replace h := Option.some.inj h; subst h
                                  exact (.inl ⟨_, rfl, rfl, ⟨rfl, rfl, rfl, rfl, trivial⟩, H⟩)
                              · rintro x e σ (⟨a16, rfl, rfl, he, H⟩ | ⟨r', rfl, rfl, hE⟩)
                                · skip
                                  replace h := jgo h
                                  obtain ⟨e, rfl⟩ := he.ex
                                  refine Runs.regionH 3 rfl H ?_; intro b55 σ H
                                  refine Ops.move (v := (.v (.int .i64 1))) rfl rfl ?_
                                  refine Ops.int (m := 1) (m' := 1) (r := .int .i64 0) rfl rfl rfl rfl rfl ?_
                                  refine Ops.assign (v := (.v (.int .i64 0))) rfl rfl ?_
                                  apply Ops.nil
                                  replace H := H.all
                                  apply Runs.again
                                  apply Runs.then
                                  apply Runs.then
                                  refine Runs.regionH 2 rfl H ?_; intro b56 σ H
                                  refine Ops.move (v := (.v (.int .i64 0))) rfl rfl ?_
                                  refine Ops.int (m := 0) (m' := 0) (r := .bool true) rfl rfl rfl rfl rfl ?_
                                  apply Ops.nil
                                  replace H := H.all
                                  refine Runs.yes rfl ?_
                                  apply Runs.skip
                                  apply Runs.then
                                  obtain ⟨y9, hj9, h⟩ := bind_some h
                                  refine Runs.mono (Q := fun x e σ => (∃ a17, y9 = (.go a17) ∧ x = .normal ∧ EnvHas e [(1, (.ptr (b1 + 0) 10 0)), (4, (.v (.int .i64 a17))), (5, (.v (.int .i64 x1))), (6, (.v (.int .i64 0)))] ∧ Hs σ [.blk (b1 + 0) 73 [(.v (.bool a.minus)), (.v (.int .u32 a.digits.d0)), (.v (.int .u32 a.digits.d1)), (.v (.int .u32 a.digits.d2)), (.v (.int .u32 a.digits.d3)), (.v (.int .u32 a.digits.d4)), (.v (.int .u32 a.digits.d5)), (.v (.int .u32 a.digits.d6)), (.v (.int .u32 a.digits.d7)), (.v (.int .u32 a.digits.d8))]]) ∨ (∃ r', y9 = (.ret r') ∧ x = .ret ∧ Ends CX Try.f53.results.toList (.tup [(.v (.int .i64 r'.1)), (.v (.int .i64 r'.2))]) x e σ)) ?_ ?_
                                  · replace h := hj9
                                    apply Runs.inBlock
                                    apply Runs.then
                                    refine Runs.regionH 6 rfl H ?_; intro b57 σ H
                                    refine Ops.move (v := (.v (.int .i64 0))) rfl rfl ?_
                                    refine Ops.fieldAddrH (off := 0) (fo := 1) H 0 rfl rfl rfl rfl rfl nofun rfl ?_
                                    refine Ops.arrAddrH (off := 1) (m := 9) (s := 1) (iv := 0) H 0 rfl rfl rfl rfl (by decide) (by decide) rfl rfl nofun rfl ?_
                                    refine Ops.loadH (off := 1) (v := (.v (.int .u32 a.digits.d0))) H 0 rfl rfl rfl rfl rfl nofun rfl ?_
                                    refine Ops.conv (m := a.digits.d0) rfl rfl rfl rfl ?_
                                    refine Ops.assign (v := (.v (.int .i64 (w64 a.digits.d0)))) rfl rfl ?_
                                    apply Ops.nil
                                    replace H := H.all
                                    apply Runs.then
                                    apply Runs.then
                                    refine Runs.regionH 2 rfl H ?_; intro b58 σ H
                                    refine Ops.move (v := (.v (.int .i64 0))) rfl rfl ?_
                                    refine Ops.int (m := 0) (m' := 4) (r := .bool false) rfl rfl rfl rfl rfl ?_
                                    apply Ops.nil
                                    replace H := H.all
                                    refine Runs.no rfl ?_
                                    apply Runs.skip
                                    apply Runs.then
                                    apply Runs.then
                                    refine Runs.regionH 6 rfl H ?_; intro b59 σ H
                                    refine Ops.move (v := (.v (.int .i64 a16))) rfl rfl ?_
                                    refine Ops.move (v := (.v (.int .i64 x1))) rfl rfl ?_
                                    refine Ops.move (v := (.v (.int .i64 (w64 a.digits.d0)))) rfl rfl ?_
                                    refine Ops.int (m := x1) (m' := (w64 a.digits.d0)) (r := .int .i64 (w64 (x1 + (w64 a.digits.d0)))) rfl rfl rfl rfl rfl ?_
                                    refine Ops.quo (m := (w64 (x1 + (w64 a.digits.d0)))) (m' := 65536) rfl rfl (by decide) rfl ?_
                                    refine Ops.int (m := a16) (m' := (w64 ((w64 (x1 + (w64 a.digits.d0))).tdiv 65536))) (r := .bool (decide (a16 < (w64 ((w64 (x1 + (w64 a.digits.d0))).tdiv 65536))))) rfl rfl rfl rfl rfl ?_
                                    apply Ops.nil
                                    replace H := H.all
                                    refine Runs.whether (v := (decide (a16 < (w64 ((w64 (x1 + (w64 a.digits.d0))).tdiv 65536))))) rfl ?_ ?_ <;> intro hc9
                                    · replace h := cond_T hc9 h
                                      apply Runs.then
                                      refine Runs.regionH 2 rfl H ?_; intro b60 σ H
                                      refine Ops.assign (v := (.v (.int .i64 0))) rfl rfl ?_
                                      refine Ops.assign (v := (.v (.int .i64 10))) rfl rfl ?_
                                      apply Ops.nil
                                      replace H := H.all
                                      apply Runs.ret
                                      replace h := Option.some.inj h; subst h
                                      exact (.inr ⟨_, rfl, rfl, (Ends.H (xs := [(.v (.int .i64 0)), (.v (.int .i64 10))]) (.inr rfl) H (.tmp (v := (.v (.int .i64 0))) rfl (.tmp (v := (.v (.int .i64 10))) rfl .nil)) (.two (.cons (.c (.v _)) (.cons (.c (.v _)) .nil))))⟩)
                                    · replace h := cond_F hc9 h
                                      apply Runs.skip
                                      refine Runs.regionH 5 rfl H ?_; intro b61 σ H
                                      refine Ops.move (v := (.v (.int .i64 a16))) rfl rfl ?_
                                      refine Ops.int (m := a16) (m' := 65536) (r := .int .i64 (w64 (a16 * 65536))) rfl rfl rfl rfl rfl ?_
                                      refine Ops.move (v := (.v (.int .i64 (w64 a.digits.d0)))) rfl rfl ?_
                                      refine Ops.int (m := (w64 (a16 * 65536))) (m' := (w64 a.digits.d0)) (r := .int .i64 (w64 ((w64 (a16 * 65536)) - (w64 a.digits.d0)))) rfl rfl rfl rfl rfl ?_
                                      obtain ⟨x5, q5, h⟩ := bind_some h
                                      refine Ops.assign (v := (.v (.int .i64 x5))) (by rw [← Option.some.inj q5]; rfl) rfl ?_
                                      apply Ops.nil
                                      replace H := H.all
                                      replace h := Option.some.inj h; subst h
                                      exact (.inl ⟨_, rfl, rfl, ⟨rfl, rfl, rfl, rfl, trivial⟩, H⟩)
                                  · rintro x e σ (⟨a18, rfl, rfl, he, H⟩ | ⟨r', rfl, rfl, hE⟩)
                                    · skip
                                      replace h := jgo h
                                      obtain ⟨e, rfl⟩ := he.ex
                                      refine Runs.regionH 3 rfl H ?_; intro b62 σ H
                                      refine Ops.move (v := (.v (.int .i64 0))) rfl rfl ?_
                                      refine Ops.int (m := 0) (m' := 1) (r := .int .i64 (-1)) rfl rfl rfl rfl rfl ?_
                                      refine Ops.assign (v := (.v (.int .i64 (-1)))) rfl rfl ?_
                                      apply Ops.nil
                                      replace H := H.all
                                      apply Runs.again
                                      apply Runs.then
                                      apply Runs.then
                                      refine Runs.regionH 2 rfl H ?_; intro b63 σ H
                                      refine Ops.move (v := (.v (.int .i64 (-1)))) rfl rfl ?_
                                      refine Ops.int (m := (-1)) (m' := 0) (r := .bool false) rfl rfl rfl rfl rfl ?_
                                      apply Ops.nil
                                      replace H := H.all
                                      refine Runs.no rfl ?_
                                      apply Runs.exit
                                      apply Runs.then
                                      apply Runs.then
                                      refine Runs.regionH 2 rfl H ?_; intro b64 σ H
                                      refine Ops.fieldAddrH (off := 0) (fo := 0) H 0 rfl rfl rfl rfl rfl nofun rfl ?_
                                      refine Ops.loadH (off := 0) (v := (.v (.bool a.minus))) H 0 rfl rfl rfl rfl rfl nofun rfl ?_
                                      apply Ops.nil
                                      replace H := H.all
                                      refine Runs.whether (v := a.minus) rfl ?_ ?_ <;> intro hc10
                                      · replace h := cond_T hc10 h
                                        apply Runs.then
                                        refine Runs.regionH 3 rfl H ?_; intro b65 σ H
                                        refine Ops.move (v := (.v (.int .i64 a18))) rfl rfl ?_
                                        refine Ops.assign (v := (.v (.int .i64 a18))) rfl rfl ?_
                                        refine Ops.assign (v := (.v (.int .i64 0))) rfl rfl ?_
                                        apply Ops.nil
                                        replace H := H.all
                                        apply Runs.ret
                                        replace h := Option.some.inj h; subst h
                                        exact (Ends.H (xs := [(.v (.int .i64 a18)), (.v (.int .i64 0))]) (.inr rfl) H (.tmp (v := (.v (.int .i64 a18))) rfl (.tmp (v := (.v (.int .i64 0))) rfl .nil)) (.two (.cons (.c (.v _)) (.cons (.c (.v _)) .nil))))
                                      · replace h := cond_F hc10 h
                                        apply Runs.skip
                                        apply Runs.then
                                        apply Runs.then
                                        refine Runs.regionH 3 rfl H ?_; intro b66 σ H
                                        refine Ops.move (v := (.v (.int .i64 a18))) rfl rfl ?_
                                        refine Ops.move (v := (.v (.int .i64 x1))) rfl rfl ?_
                                        refine Ops.int (m := a18) (m' := x1) (r := .bool (a18 == x1)) rfl rfl rfl rfl rfl ?_
                                        apply Ops.nil
                                        replace H := H.all
                                        refine Runs.whether (v := (a18 == x1)) rfl ?_ ?_ <;> intro hc11
                                        · replace h := cond_T hc11 h
                                          apply Runs.then
                                          refine Runs.regionH 2 rfl H ?_; intro b67 σ H
                                          refine Ops.assign (v := (.v (.int .i64 0))) rfl rfl ?_
                                          refine Ops.assign (v := (.v (.int .i64 10))) rfl rfl ?_
                                          apply Ops.nil
                                          replace H := H.all
                                          apply Runs.ret
                                          replace h := Option.some.inj h; subst h
                                          exact (Ends.H (xs := [(.v (.int .i64 0)), (.v (.int .i64 10))]) (.inr rfl) H (.tmp (v := (.v (.int .i64 0))) rfl (.tmp (v := (.v (.int .i64 10))) rfl .nil)) (.two (.cons (.c (.v _)) (.cons (.c (.v _)) .nil))))
                                        · replace h := cond_F hc11 h
                                          apply Runs.skip
                                          apply Runs.then
                                          refine Runs.regionH 4 rfl H ?_; intro b68 σ H
                                          refine Ops.move (v := (.v (.int .i64 a18))) rfl rfl ?_
                                          refine Ops.neg (m := a18) rfl rfl ?_
                                          refine Ops.assign (v := (.v (.int .i64 (w64 (0 - a18))))) rfl rfl ?_
                                          refine Ops.assign (v := (.v (.int .i64 0))) rfl rfl ?_
                                          apply Ops.nil
                                          replace H := H.all
                                          apply Runs.ret
                                          replace h := Option.some.inj h; subst h
                                          exact (Ends.H (xs := [(.v (.int .i64 (w64 (0 - a18)))), (.v (.int .i64 0))]) (.inr rfl) H (.tmp (v := (.v (.int .i64 (w64 (0 - a18))))) rfl (.tmp (v := (.v (.int .i64 0))) rfl .nil)) (.two (.cons (.c (.v _)) (.cons (.c (.v _)) .nil))))
                                    · skip
                                      replace h := jret h
                                      replace h := Option.some.inj h; subst h
                                      exact hE
                                · skip
                                  replace h := jret h
                                  replace h := Option.some.inj h; subst h
                                  exact hE
                            · skip
                              replace h := jret h
                              replace h := Option.some.inj h; subst h
                              exact hE
                        · skip
                          replace h := jret h
                          replace h := Option.some.inj h; subst h
                          exact hE
                    · skip
                      replace h := jret h
                      replace h := Option.some.inj h; subst h
                      exact hE
                · skip
                  replace h := jret h
                  replace h := Option.some.inj h; subst h
                  exact hE
            · skip
              replace h := jret h
              replace h := Option.some.inj h; subst h
              exact hE
        · skip
          replace h := jret h
          replace h := Option.some.inj h; subst h
          exact hE
    · skip
      replace h := jret h
      replace h := Option.some.inj h; subst h
      exact hE

set_option maxRecDepth 100000 in
set_option maxHeartbeats 4000000 in
theorem epactref01_Add_fn {a : Int} {b : Int} {r : Int × Int} (h : epactref01_Add a b = some r) : Fn CX 20 [(.v (.int .i64 a)), (.v (.int .i64 b))] (.tup [(.v (.int .i64 r.1)), (.v (.int .i64 r.2))]) := by
  refine Fn.ends Try.func20 rfl rfl rfl rfl rfl rfl ?_
  have H : Hs (⟨0, fun _ => .none⟩ : Heap) [] := Has.nil (Nat.le_refl _)
  generalize (⟨0, fun _ => .none⟩ : Heap) = σ at H ⊢
  unfold epactref01_Add at h
  apply Runs.then
  refine Runs.regionH 2 rfl H ?_; intro b1 σ H
  refine Ops.assign (v := (.v (.int .i64 0))) rfl rfl ?_
  refine Ops.assign (v := (.v (.int .i64 0))) rfl rfl ?_
  apply Ops.nil
  replace H := H.all
  apply Runs.then
  refine Runs.regionH 10 rfl H ?_; intro b2 σ H
  refine Ops.move (v := (.v (.int .i64 a))) rfl rfl ?_
  obtain ⟨x1, q1, h⟩ := bind_some h
  refine Ops.call (ys := [(.v (.int .i64 a))]) (r := (.agg [(.v (.bool x1.minus)), (.v (.int .u32 x1.digits.d0)), (.v (.int .u32 x1.digits.d1)), (.v (.int .u32 x1.digits.d2)), (.v (.int .u32 x1.digits.d3)), (.v (.int .u32 x1.digits.d4)), (.v (.int .u32 x1.digits.d5)), (.v (.int .u32 x1.digits.d6)), (.v (.int .u32 x1.digits.d7)), (.v (.int .u32 x1.digits.d8))])) rfl (epactref01_of_fn q1) rfl ?_
  refine Ops.move (v := (.v (.int .i64 b))) rfl rfl ?_
  obtain ⟨x2, q2, h⟩ := bind_some h
  refine Ops.call (ys := [(.v (.int .i64 b))]) (r := (.agg [(.v (.bool x2.minus)), (.v (.int .u32 x2.digits.d0)), (.v (.int .u32 x2.digits.d1)), (.v (.int .u32 x2.digits.d2)), (.v (.int .u32 x2.digits.d3)), (.v (.int .u32 x2.digits.d4)), (.v (.int .u32 x2.digits.d5)), (.v (.int .u32 x2.digits.d6)), (.v (.int .u32 x2.digits.d7)), (.v (.int .u32 x2.digits.d8))])) rfl (epactref01_of_fn q2) rfl ?_
  obtain ⟨x3, q3, h⟩ := bind_some h
  refine Ops.call (ys := [(.agg [(.v (.bool x1.minus)), (.v (.int .u32 x1.digits.d0)), (.v (.int .u32 x1.digits.d1)), (.v (.int .u32 x1.digits.d2)), (.v (.int .u32 x1.digits.d3)), (.v (.int .u32 x1.digits.d4)), (.v (.int .u32 x1.digits.d5)), (.v (.int .u32 x1.digits.d6)), (.v (.int .u32 x1.digits.d7)), (.v (.int .u32 x1.digits.d8))]), (.agg [(.v (.bool x2.minus)), (.v (.int .u32 x2.digits.d0)), (.v (.int .u32 x2.digits.d1)), (.v (.int .u32 x2.digits.d2)), (.v (.int .u32 x2.digits.d3)), (.v (.int .u32 x2.digits.d4)), (.v (.int .u32 x2.digits.d5)), (.v (.int .u32 x2.digits.d6)), (.v (.int .u32 x2.digits.d7)), (.v (.int .u32 x2.digits.d8))])]) (r := (.agg [(.v (.bool x3.minus)), (.v (.int .u32 x3.digits.d0)), (.v (.int .u32 x3.digits.d1)), (.v (.int .u32 x3.digits.d2)), (.v (.int .u32 x3.digits.d3)), (.v (.int .u32 x3.digits.d4)), (.v (.int .u32 x3.digits.d5)), (.v (.int .u32 x3.digits.d6)), (.v (.int .u32 x3.digits.d7)), (.v (.int .u32 x3.digits.d8))])) rfl (epactref01_sum_fn q3) rfl ?_
  obtain ⟨x4, q4, h⟩ := bind_some h
  refine Ops.call (ys := [(.agg [(.v (.bool x3.minus)), (.v (.int .u32 x3.digits.d0)), (.v (.int .u32 x3.digits.d1)), (.v (.int .u32 x3.digits.d2)), (.v (.int .u32 x3.digits.d3)), (.v (.int .u32 x3.digits.d4)), (.v (.int .u32 x3.digits.d5)), (.v (.int .u32 x3.digits.d6)), (.v (.int .u32 x3.digits.d7)), (.v (.int .u32 x3.digits.d8))])]) (r := (.tup [(.v (.int .i64 x4.1)), (.v (.int .i64 x4.2))])) rfl (epactref01_number_fn q4) rfl ?_
  refine Ops.extract (v := (.v (.int .i64 x4.1))) rfl rfl rfl ?_
  refine Ops.extract (v := (.v (.int .i64 x4.2))) rfl rfl rfl ?_
  refine Ops.assign (v := (.v (.int .i64 x4.1))) rfl rfl ?_
  refine Ops.assign (v := (.v (.int .i64 x4.2))) rfl rfl ?_
  apply Ops.nil
  replace H := H.all
  apply Runs.ret
  replace h := Option.some.inj h; subst h
  exact (Ends.H (xs := [(.v (.int .i64 x4.1)), (.v (.int .i64 x4.2))]) (.inr rfl) H (.tmp (v := (.v (.int .i64 x4.1))) rfl (.tmp (v := (.v (.int .i64 x4.2))) rfl .nil)) (.two (.cons (.c (.v _)) (.cons (.c (.v _)) .nil))))

set_option maxRecDepth 100000 in
set_option maxHeartbeats 4000000 in
theorem safe_Sub_fn {a : Int} {b : Int} {r : Int × Int} (h : safe_Sub a b = r) : Fn CX 21 [(.v (.int .i64 a)), (.v (.int .i64 b))] (.tup [(.v (.int .i64 r.1)), (.v (.int .i64 r.2))]) := by
  refine Fn.ends Try.func21 rfl rfl rfl rfl rfl rfl ?_
  have H : Hs (⟨0, fun _ => .none⟩ : Heap) [] := Has.nil (Nat.le_refl _)
  generalize (⟨0, fun _ => .none⟩ : Heap) = σ at H ⊢
  unfold safe_Sub at h
  apply Runs.then
  refine Runs.regionH 2 rfl H ?_; intro b1 σ H
  refine Ops.assign (v := (.v (.int .i64 0))) rfl rfl ?_
  refine Ops.assign (v := (.v (.int .i64 0))) rfl rfl ?_
  apply Ops.nil
  replace H := H.all
  apply Runs.then
  refine Runs.regionH 4 rfl H ?_; intro b2 σ H
  refine Ops.move (v := (.v (.int .i64 a))) rfl rfl ?_
  refine Ops.move (v := (.v (.int .i64 b))) rfl rfl ?_
  refine Ops.int (m := a) (m' := b) (r := .int .i64 (w64 (a - b))) rfl rfl rfl rfl rfl ?_
  refine Ops.assign (v := (.v (.int .i64 (w64 (a - b))))) rfl rfl ?_
  apply Ops.nil
  replace H := H.all
  apply Runs.then
  apply Runs.then
  refine Runs.regionH 10 rfl H ?_; intro b3 σ H
  refine Ops.move (v := (.v (.int .i64 (w64 (a - b))))) rfl rfl ?_
  refine Ops.move (v := (.v (.int .i64 a))) rfl rfl ?_
  refine Ops.int (m := (w64 (a - b))) (m' := a) (r := .bool (decide ((w64 (a - b)) < a))) rfl rfl rfl rfl rfl ?_
  refine Ops.move (v := (.v (.int .i64 b))) rfl rfl ?_
  refine Ops.int (m := b) (m' := 0) (r := .bool (decide (b > 0))) rfl rfl rfl rfl rfl ?_
  refine Ops.neB (b := (decide ((w64 (a - b)) < a))) (b' := (decide (b > 0))) rfl rfl rfl rfl ?_
  refine Ops.move (v := (.v (.bool ((decide ((w64 (a - b)) < a)) != (decide (b > 0)))))) rfl rfl ?_
  refine Ops.mid 3 (K1 := fun e σ => EnvHas e [(19, (.v (.bool (((decide ((w64 (a - b)) < a)) != (decide (b > 0))) && (b != 0))))), (6, (.v (.int .i64 (w64 (a - b)))))] ∧ Has σ (b3 + 10) (b3 + 10) []) rfl ?_ ?_
  · refine Ops.split rfl rfl ?_ ?_ <;> intro hc1
    · skip
      refine Ops.wanted rfl rfl ?_
      refine Ops.move (v := (.v (.int .i64 b))) rfl rfl ?_
      refine Ops.wanted rfl rfl ?_
      refine Ops.int (m := b) (m' := 0) (r := .bool (b != 0)) rfl rfl rfl rfl rfl ?_
      refine Ops.pickT (v := (.v (.bool (b != 0)))) rfl rfl rfl ?_
      apply Ops.nil
      exact ⟨⟨and_T hc1, rfl, trivial⟩, H.weak (by omega) (Nat.le_refl _)⟩
    · skip
      refine Ops.pass rfl rfl rfl ?_
      refine Ops.pass rfl rfl rfl ?_
      refine Ops.pickF (v := (.v (.bool false))) rfl rfl rfl ?_
      apply Ops.nil
      exact ⟨⟨and_F hc1, rfl, trivial⟩, H.weak (by omega) (Nat.le_refl _)⟩
  · rintro e σ ⟨he, H⟩
    obtain ⟨e, rfl⟩ := he.ex
    apply Ops.nil
    replace H := H.all
    refine Runs.whether (v := (((decide ((w64 (a - b)) < a)) != (decide (b > 0))) && (b != 0))) rfl ?_ ?_ <;> intro hc2
    · replace h := cond_T hc2 h
      apply Runs.then
      refine Runs.regionH 2 rfl H ?_; intro b4 σ H
      refine Ops.assign (v := (.v (.int .i64 0))) rfl rfl ?_
      refine Ops.assign (v := (.v (.int .i64 10))) rfl rfl ?_
      apply Ops.nil
      replace H := H.all
      apply Runs.ret
      subst h
      exact (Ends.H (xs := [(.v (.int .i64 0)), (.v (.int .i64 10))]) (.inr rfl) H (.tmp (v := (.v (.int .i64 0))) rfl (.tmp (v := (.v (.int .i64 10))) rfl .nil)) (.two (.cons (.c (.v _)) (.cons (.c (.v _)) .nil))))
    · replace h := cond_F hc2 h
      apply Runs.skip
      apply Runs.then
      refine Runs.regionH 3 rfl H ?_; intro b5 σ H
      refine Ops.move (v := (.v (.int .i64 (w64 (a - b))))) rfl rfl ?_
      refine Ops.assign (v := (.v (.int .i64 (w64 (a - b))))) rfl rfl ?_
      refine Ops.assign (v := (.v (.int .i64 0))) rfl rfl ?_
      apply Ops.nil
      replace H := H.all
      apply Runs.ret
      subst h
      exact (Ends.H (xs := [(.v (.int .i64 (w64 (a - b)))), (.v (.int .i64 0))]) (.inr rfl) H (.tmp (v := (.v (.int .i64 (w64 (a - b))))) rfl (.tmp (v := (.v (.int .i64 0))) rfl .nil)) (.two (.cons (.c (.v _)) (.cons (.c (.v _)) .nil))))

set_option maxRecDepth 100000 in
set_option maxHeartbeats 4000000 in
theorem epactref01_Sub_fn {a : Int} {b : Int} {r : Int × Int} (h : epactref01_Sub a b = some r) : Fn CX 22 [(.v (.int .i64 a)), (.v (.int .i64 b))] (.tup [(.v (.int .i64 r.1)), (.v (.int .i64 r.2))]) := by
  refine Fn.ends Try.func22 rfl rfl rfl rfl rfl rfl ?_
  have H : Hs (⟨0, fun _ => .none⟩ : Heap) [] := Has.nil (Nat.le_refl _)
  generalize (⟨0, fun _ => .none⟩ : Heap) = σ at H ⊢
  unfold epactref01_Sub at h
  apply Runs.then
  refine Runs.regionH 2 rfl H ?_; intro b1 σ H
  refine Ops.assign (v := (.v (.int .i64 0))) rfl rfl ?_
  refine Ops.assign (v := (.v (.int .i64 0))) rfl rfl ?_
  apply Ops.nil
  replace H := H.all
  apply Runs.then
  refine Runs.regionH 4 rfl H ?_; intro b2 σ H
  refine Ops.move (v := (.v (.int .i64 b))) rfl rfl ?_
  obtain ⟨x1, q1, h⟩ := bind_some h
  refine Ops.call (ys := [(.v (.int .i64 b))]) (r := (.agg [(.v (.bool x1.minus)), (.v (.int .u32 x1.digits.d0)), (.v (.int .u32 x1.digits.d1)), (.v (.int .u32 x1.digits.d2)), (.v (.int .u32 x1.digits.d3)), (.v (.int .u32 x1.digits.d4)), (.v (.int .u32 x1.digits.d5)), (.v (.int .u32 x1.digits.d6)), (.v (.int .u32 x1.digits.d7)), (.v (.int .u32 x1.digits.d8))])) rfl (epactref01_of_fn q1) rfl ?_
  refine Ops.allocH (cs := [(.v (.bool false)), (.v (.int .u32 0)), (.v (.int .u32 0)), (.v (.int .u32 0)), (.v (.int .u32 0)), (.v (.int .u32 0)), (.v (.int .u32 0)), (.v (.int .u32 0)), (.v (.int .u32 0)), (.v (.int .u32 0))]) H (by omega) (by omega) rfl rfl ?_; intro σ H
  refine Ops.storeH (off := 0) (v := (.agg [(.v (.bool x1.minus)), (.v (.int .u32 x1.digits.d0)), (.v (.int .u32 x1.digits.d1)), (.v (.int .u32 x1.digits.d2)), (.v (.int .u32 x1.digits.d3)), (.v (.int .u32 x1.digits.d4)), (.v (.int .u32 x1.digits.d5)), (.v (.int .u32 x1.digits.d6)), (.v (.int .u32 x1.digits.d7)), (.v (.int .u32 x1.digits.d8))])) (ys := [(.v (.bool x1.minus)), (.v (.int .u32 x1.digits.d0)), (.v (.int .u32 x1.digits.d1)), (.v (.int .u32 x1.digits.d2)), (.v (.int .u32 x1.digits.d3)), (.v (.int .u32 x1.digits.d4)), (.v (.int .u32 x1.digits.d5)), (.v (.int .u32 x1.digits.d6)), (.v (.int .u32 x1.digits.d7)), (.v (.int .u32 x1.digits.d8))]) (cells' := [(.v (.bool x1.minus)), (.v (.int .u32 x1.digits.d0)), (.v (.int .u32 x1.digits.d1)), (.v (.int .u32 x1.digits.d2)), (.v (.int .u32 x1.digits.d3)), (.v (.int .u32 x1.digits.d4)), (.v (.int .u32 x1.digits.d5)), (.v (.int .u32 x1.digits.d6)), (.v (.int .u32 x1.digits.d7)), (.v (.int .u32 x1.digits.d8))]) H 0 rfl rfl rfl rfl rfl rfl rfl rfl rfl nofun ?_; intro σ H
  apply Ops.nil
  replace H := H.all
  apply Runs.then
  refine Runs.regionH 5 rfl H ?_; intro b3 σ H
  refine Ops.fieldAddrH (off := 0) (fo := 0) H 0 rfl rfl rfl rfl rfl nofun rfl ?_
  refine Ops.loadH (off := 0) (v := (.v (.bool x1.minus))) H 0 rfl rfl rfl rfl rfl nofun rfl ?_
  refine Ops.not (b := x1.minus) rfl rfl ?_
  refine Ops.fieldAddrH (off := 0) (fo := 0) H 0 rfl rfl rfl rfl rfl nofun rfl ?_
  refine Ops.storeH (off := 0) (v := (.v (.bool (!x1.minus)))) (ys := [(.v (.bool (!x1.minus)))]) (cells' := [(.v (.bool (!x1.minus))), (.v (.int .u32 x1.digits.d0)), (.v (.int .u32 x1.digits.d1)), (.v (.int .u32 x1.digits.d2)), (.v (.int .u32 x1.digits.d3)), (.v (.int .u32 x1.digits.d4)), (.v (.int .u32 x1.digits.d5)), (.v (.int .u32 x1.digits.d6)), (.v (.int .u32 x1.digits.d7)), (.v (.int .u32 x1.digits.d8))]) H 0 rfl rfl rfl rfl rfl rfl rfl rfl rfl nofun ?_; intro σ H
  apply Ops.nil
  replace H := H.all
  apply Runs.then
  refine Runs.drawnH 9 rfl (by kernel_rfl) H ?_; intro b4 σ H B4
  refine Ops.move (v := (.v (.int .i64 a))) rfl rfl ?_
  obtain ⟨x2, q2, h⟩ := bind_some h
  refine Ops.call (ys := [(.v (.int .i64 a))]) (r := (.agg [(.v (.bool x2.minus)), (.v (.int .u32 x2.digits.d0)), (.v (.int .u32 x2.digits.d1)), (.v (.int .u32 x2.digits.d2)), (.v (.int .u32 x2.digits.d3)), (.v (.int .u32 x2.digits.d4)), (.v (.int .u32 x2.digits.d5)), (.v (.int .u32 x2.digits.d6)), (.v (.int .u32 x2.digits.d7)), (.v (.int .u32 x2.digits.d8))])) rfl (epactref01_of_fn q2) rfl ?_
  refine Ops.loadHA (off := 0) (cs := [(.v (.bool (!x1.minus))), (.v (.int .u32 x1.digits.d0)), (.v (.int .u32 x1.digits.d1)), (.v (.int .u32 x1.digits.d2)), (.v (.int .u32 x1.digits.d3)), (.v (.int .u32 x1.digits.d4)), (.v (.int .u32 x1.digits.d5)), (.v (.int .u32 x1.digits.d6)), (.v (.int .u32 x1.digits.d7)), (.v (.int .u32 x1.digits.d8))]) H 0 rfl rfl rfl rfl rfl rfl rfl (fun _ => .inl ⟨B4 0 _ rfl _ rfl, nofun⟩) rfl ?_
  obtain ⟨x3, q3, h⟩ := bind_some h
  refine Ops.call (ys := [(.agg [(.v (.bool x2.minus)), (.v (.int .u32 x2.digits.d0)), (.v (.int .u32 x2.digits.d1)), (.v (.int .u32 x2.digits.d2)), (.v (.int .u32 x2.digits.d3)), (.v (.int .u32 x2.digits.d4)), (.v (.int .u32 x2.digits.d5)), (.v (.int .u32 x2.digits.d6)), (.v (.int .u32 x2.digits.d7)), (.v (.int .u32 x2.digits.d8))]), (.agg [(.v (.bool (!x1.minus))), (.v (.int .u32 x1.digits.d0)), (.v (.int .u32 x1.digits.d1)), (.v (.int .u32 x1.digits.d2)), (.v (.int .u32 x1.digits.d3)), (.v (.int .u32 x1.digits.d4)), (.v (.int .u32 x1.digits.d5)), (.v (.int .u32 x1.digits.d6)), (.v (.int .u32 x1.digits.d7)), (.v (.int .u32 x1.digits.d8))])]) (r := (.agg [(.v (.bool x3.minus)), (.v (.int .u32 x3.digits.d0)), (.v (.int .u32 x3.digits.d1)), (.v (.int .u32 x3.digits.d2)), (.v (.int .u32 x3.digits.d3)), (.v (.int .u32 x3.digits.d4)), (.v (.int .u32 x3.digits.d5)), (.v (.int .u32 x3.digits.d6)), (.v (.int .u32 x3.digits.d7)), (.v (.int .u32 x3.digits.d8))])) rfl (epactref01_sum_fn q3) rfl ?_
  obtain ⟨x4, q4, h⟩ := bind_some h
  refine Ops.call (ys := [(.agg [(.v (.bool x3.minus)), (.v (.int .u32 x3.digits.d0)), (.v (.int .u32 x3.digits.d1)), (.v (.int .u32 x3.digits.d2)), (.v (.int .u32 x3.digits.d3)), (.v (.int .u32 x3.digits.d4)), (.v (.int .u32 x3.digits.d5)), (.v (.int .u32 x3.digits.d6)), (.v (.int .u32 x3.digits.d7)), (.v (.int .u32 x3.digits.d8))])]) (r := (.tup [(.v (.int .i64 x4.1)), (.v (.int .i64 x4.2))])) rfl (epactref01_number_fn q4) rfl ?_
  refine Ops.extract (v := (.v (.int .i64 x4.1))) rfl rfl rfl ?_
  refine Ops.extract (v := (.v (.int .i64 x4.2))) rfl rfl rfl ?_
  refine Ops.assign (v := (.v (.int .i64 x4.1))) rfl rfl ?_
  refine Ops.assign (v := (.v (.int .i64 x4.2))) rfl rfl ?_
  apply Ops.nil
  replace H := H.all
  apply Runs.ret
  replace h := Option.some.inj h; subst h
  exact (Ends.H (xs := [(.v (.int .i64 x4.1)), (.v (.int .i64 x4.2))]) (.inr rfl) H (.tmp (v := (.v (.int .i64 x4.1))) rfl (.tmp (v := (.v (.int .i64 x4.2))) rfl .nil)) (.two (.cons (.c (.v _)) (.cons (.c (.v _)) .nil))))

end Go.Dn

set_option linter.unusedVariables false
set_option linter.unusedSimpArgs false
namespace Go.Dn
open Go Go.Proofs



end Go.Dn

set_option linter.unusedVariables false
set_option linter.unusedSimpArgs false
namespace Go.Dn
open Go Go.Proofs

set_option maxRecDepth 100000 in
theorem epactlaw01_awake_fn {r : Bool} (h : epactlaw01_awake = r) : Fn CX 15 [] (.v (.bool r)) := by
  subst h
  exact Fn.run 60 (fun σ => by kernel_rfl) rfl rfl rfl

end Go.Dn
