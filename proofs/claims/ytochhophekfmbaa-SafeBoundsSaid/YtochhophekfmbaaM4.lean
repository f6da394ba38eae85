/- Part 4 of what the row stands on. -/
import Derived.Test.YtochhophekfmbaaM3
set_option linter.unusedVariables false
set_option linter.unusedSimpArgs false
namespace Go.Dn
open Go Go.Proofs

set_option maxRecDepth 100000 in
set_option maxHeartbeats 4000000 in
theorem safe_Right_fn {a : Bound} {r : Bool} (h : safe_Right a = r) : Fn CX 31 [(.agg (vs (Bound.cs a)))] (.v (.bool r)) := by
  refine Fn.ends Try.func31 rfl rfl rfl rfl rfl rfl ?_
  have H : Hs (⟨0, fun _ => .none⟩ : Heap) [] := Has.nil (Nat.le_refl _)
  generalize (⟨0, fun _ => .none⟩ : Heap) = σ at H ⊢
  unfold safe_Right at h
  apply Runs.then
  refine Runs.regionH 2 rfl H ?_; intro b1 σ H
  refine Ops.boxH (v := (.agg [(.v (.int .i8 a.Inf)), (.v (.int .i64 a.N))])) (cs := [(.v (.int .i8 a.Inf)), (.v (.int .i64 a.N))]) H (by omega) (by omega) rfl rfl rfl ?_; intro σ H
  refine Ops.assign (v := (.v (.bool false))) rfl rfl ?_
  apply Ops.nil
  replace H := H.all
  apply Runs.then
  refine Runs.regionH 19 rfl H ?_; intro b2 σ H
  refine Ops.fieldAddrH (off := 0) (fo := 0) H 0 rfl rfl rfl rfl rfl nofun rfl ?_
  refine Ops.loadH (off := 0) (v := (.v (.int .i8 a.Inf))) H 0 rfl rfl rfl rfl rfl nofun rfl ?_
  refine Ops.int (m := a.Inf) (m' := 0) (r := .bool (a.Inf == 0)) rfl rfl rfl rfl rfl ?_
  refine Ops.move (v := (.v (.bool (a.Inf == 0)))) rfl rfl ?_
  refine Ops.mid 14 (K1 := fun e σ => EnvHas e [(20, (.v (.bool ((a.Inf == 0) || (((a.Inf == 1) || (a.Inf == (-1))) && (a.N == 0))))))] ∧ Has σ (b2 + 18) (b2 + 19) []) rfl ?_ ?_
  · refine Ops.split rfl rfl ?_ ?_ <;> intro hc1
    · skip
      refine Ops.pass rfl rfl rfl ?_
      refine Ops.pass rfl rfl rfl ?_
      refine Ops.pass rfl rfl rfl ?_
      refine Ops.pass rfl rfl rfl ?_
      refine Ops.passU rfl rfl rfl ?_
      refine Ops.passU rfl rfl rfl ?_
      refine Ops.passU rfl rfl rfl ?_
      refine Ops.pass rfl rfl rfl ?_
      refine Ops.pass rfl rfl rfl ?_
      refine Ops.passU rfl rfl rfl ?_
      refine Ops.passU rfl rfl rfl ?_
      refine Ops.passU rfl rfl rfl ?_
      refine Ops.pass rfl rfl rfl ?_
      refine Ops.pickT (v := (.v (.bool true))) rfl rfl rfl ?_
      apply Ops.nil
      exact ⟨⟨or_T hc1, trivial⟩, (H.erase 0).weak (by omega) (Nat.le_refl _)⟩
    · skip
      refine Ops.wanted rfl rfl ?_
      refine Ops.fieldAddrH (off := 0) (fo := 0) H 0 rfl rfl rfl rfl rfl nofun rfl ?_
      refine Ops.wanted rfl rfl ?_
      refine Ops.loadH (off := 0) (v := (.v (.int .i8 a.Inf))) H 0 rfl rfl rfl rfl rfl nofun rfl ?_
      refine Ops.wanted rfl rfl ?_
      refine Ops.int (m := a.Inf) (m' := 1) (r := .bool (a.Inf == 1)) rfl rfl rfl rfl rfl ?_
      refine Ops.wanted rfl rfl ?_
      refine Ops.move (v := (.v (.bool (a.Inf == 1)))) rfl rfl ?_
      refine Ops.mid 4 (K1 := fun e σ => EnvHas e [(14, (.v (.bool ((a.Inf == 1) || (a.Inf == (-1)))))), (1, (.ptr (b1 + 0) 2 0)), (6, (.v (.bool false)))] ∧ Has σ (b2 + 12) (b2 + 19) [.blk (b1 + 0) 32 [(.v (.int .i8 a.Inf)), (.v (.int .i64 a.N))]]) rfl ?_ ?_
      · refine Ops.split rfl rfl ?_ ?_ <;> intro hc2
        · skip
          refine Ops.pass rfl rfl rfl ?_
          refine Ops.pass rfl rfl rfl ?_
          refine Ops.pass rfl rfl rfl ?_
          refine Ops.wanted rfl rfl ?_
          refine Ops.pickT (v := (.v (.bool true))) rfl rfl rfl ?_
          apply Ops.nil
          exact ⟨⟨or_T hc2, rfl, rfl, trivial⟩, H.weak (by omega) (Nat.le_refl _)⟩
        · skip
          refine Ops.wanted rfl rfl ?_
          refine Ops.fieldAddrH (off := 0) (fo := 0) H 0 rfl rfl rfl rfl rfl nofun rfl ?_
          refine Ops.wanted rfl rfl ?_
          refine Ops.loadH (off := 0) (v := (.v (.int .i8 a.Inf))) H 0 rfl rfl rfl rfl rfl nofun rfl ?_
          refine Ops.wanted rfl rfl ?_
          refine Ops.int (m := a.Inf) (m' := (-1)) (r := .bool (a.Inf == (-1))) rfl rfl rfl rfl rfl ?_
          refine Ops.wanted rfl rfl ?_
          refine Ops.pickF (v := (.v (.bool (a.Inf == (-1))))) rfl rfl rfl ?_
          apply Ops.nil
          exact ⟨⟨or_F hc2, rfl, rfl, trivial⟩, H.weak (by omega) (Nat.le_refl _)⟩
      · rintro e σ ⟨he, H⟩
        obtain ⟨e, rfl⟩ := he.ex
        refine Ops.wanted rfl rfl ?_
        refine Ops.move (v := (.v (.bool ((a.Inf == 1) || (a.Inf == (-1)))))) rfl rfl ?_
        refine Ops.mid 4 (K1 := fun e σ => EnvHas e [(19, (.v (.bool (((a.Inf == 1) || (a.Inf == (-1))) && (a.N == 0))))), (6, (.v (.bool false)))] ∧ Has σ (b2 + 17) (b2 + 19) []) rfl ?_ ?_
        · refine Ops.split rfl rfl ?_ ?_ <;> intro hc3
          · skip
            refine Ops.wanted rfl rfl ?_
            refine Ops.fieldAddrH (off := 0) (fo := 1) H 0 rfl rfl rfl rfl rfl nofun rfl ?_
            refine Ops.wanted rfl rfl ?_
            refine Ops.loadH (off := 1) (v := (.v (.int .i64 a.N))) H 0 rfl rfl rfl rfl rfl nofun rfl ?_
            refine Ops.wanted rfl rfl ?_
            refine Ops.int (m := a.N) (m' := 0) (r := .bool (a.N == 0)) rfl rfl rfl rfl rfl ?_
            refine Ops.wanted rfl rfl ?_
            refine Ops.pickT (v := (.v (.bool (a.N == 0)))) rfl rfl rfl ?_
            apply Ops.nil
            exact ⟨⟨and_T hc3, rfl, trivial⟩, (H.erase 0).weak (by omega) (Nat.le_refl _)⟩
          · skip
            refine Ops.pass rfl rfl rfl ?_
            refine Ops.pass rfl rfl rfl ?_
            refine Ops.pass rfl rfl rfl ?_
            refine Ops.wanted rfl rfl ?_
            refine Ops.pickF (v := (.v (.bool false))) rfl rfl rfl ?_
            apply Ops.nil
            exact ⟨⟨and_F hc3, rfl, trivial⟩, (H.erase 0).weak (by omega) (Nat.le_refl _)⟩
        · rintro e σ ⟨he, H⟩
          obtain ⟨e, rfl⟩ := he.ex
          refine Ops.pickF (v := (.v (.bool (((a.Inf == 1) || (a.Inf == (-1))) && (a.N == 0))))) rfl rfl rfl ?_
          apply Ops.nil
          exact ⟨⟨or_F hc1, trivial⟩, H.weak (by omega) (Nat.le_refl _)⟩
  · rintro e σ ⟨he, H⟩
    obtain ⟨e, rfl⟩ := he.ex
    refine Ops.assign (v := (.v (.bool ((a.Inf == 0) || (((a.Inf == 1) || (a.Inf == (-1))) && (a.N == 0)))))) rfl rfl ?_
    apply Ops.nil
    replace H := H.all
    apply Runs.ret
    subst h
    exact (Ends.H (xs := [(.v (.bool ((a.Inf == 0) || (((a.Inf == 1) || (a.Inf == (-1))) && (a.N == 0)))))]) (.inr rfl) H (.tmp (v := (.v (.bool ((a.Inf == 0) || (((a.Inf == 1) || (a.Inf == (-1))) && (a.N == 0)))))) rfl .nil) (.one (.c (.v _))))

set_option maxRecDepth 100000 in
set_option maxHeartbeats 4000000 in
theorem safe_Sum_fn {a : Bound} {b : Bound} {r : Bound × Int} (h : safe_Sum a b = r) : Fn CX 27 [(.agg (vs (Bound.cs a))), (.agg (vs (Bound.cs b)))] (.tup [(.agg (vs (Bound.cs r.1))), (.v (.int .i64 r.2))]) := by
  refine Fn.ends Try.func27 rfl rfl rfl rfl rfl rfl ?_
  have H : Hs (⟨0, fun _ => .none⟩ : Heap) [] := Has.nil (Nat.le_refl _)
  generalize (⟨0, fun _ => .none⟩ : Heap) = σ at H ⊢
  unfold safe_Sum at h
  apply Runs.then
  refine Runs.regionH 4 rfl H ?_; intro b1 σ H
  refine Ops.boxH (v := (.agg [(.v (.int .i8 a.Inf)), (.v (.int .i64 a.N))])) (cs := [(.v (.int .i8 a.Inf)), (.v (.int .i64 a.N))]) H (by omega) (by omega) rfl rfl rfl ?_; intro σ H
  refine Ops.boxH (v := (.agg [(.v (.int .i8 b.Inf)), (.v (.int .i64 b.N))])) (cs := [(.v (.int .i8 b.Inf)), (.v (.int .i64 b.N))]) H (by omega) (by omega) rfl rfl rfl ?_; intro σ H
  refine Ops.allocH (cs := [(.v (.int .i8 0)), (.v (.int .i64 0))]) H (by omega) (by omega) rfl rfl ?_; intro σ H
  refine Ops.assign (v := (.v (.int .i64 0))) rfl rfl ?_
  apply Ops.nil
  replace H := H.all
  apply Runs.then
  apply Runs.inBlock
  apply Runs.then
  refine Runs.regionH 9 rfl H ?_; intro b2 σ H
  refine Ops.loadHA (off := 0) (cs := [(.v (.int .i8 a.Inf)), (.v (.int .i64 a.N))]) H 2 rfl rfl rfl rfl rfl rfl rfl nofun rfl ?_
  refine Ops.call (ys := [(.agg [(.v (.int .i8 a.Inf)), (.v (.int .i64 a.N))])]) (r := (.v (.bool (safe_Right a)))) rfl (safe_Right_fn rfl) rfl ?_
  refine Ops.not (b := (safe_Right a)) rfl rfl ?_
  refine Ops.move (v := (.v (.bool (!(safe_Right a))))) rfl rfl ?_
  refine Ops.mid 4 (K1 := fun e σ => EnvHas e [(16, (.v (.bool ((!(safe_Right a)) || (!(safe_Right b)))))), (2, (.ptr (b1 + 0) 2 0)), (3, (.ptr (b1 + 1) 2 0)), (4, (.ptr (b1 + 2) 2 0))] ∧ Has σ (b2 + 8) (b2 + 9) [.blk (b1 + 2) 32 [(.v (.int .i8 0)), (.v (.int .i64 0))], .blk (b1 + 1) 32 [(.v (.int .i8 b.Inf)), (.v (.int .i64 b.N))], .blk (b1 + 0) 32 [(.v (.int .i8 a.Inf)), (.v (.int .i64 a.N))]]) rfl ?_ ?_
  · refine Ops.split rfl rfl ?_ ?_ <;> intro hc1
    · skip
      refine Ops.pass rfl rfl rfl ?_
      refine Ops.pass rfl rfl rfl ?_
      refine Ops.pass rfl rfl rfl ?_
      refine Ops.pickT (v := (.v (.bool true))) rfl rfl rfl ?_
      apply Ops.nil
      exact ⟨⟨or_T hc1, rfl, rfl, rfl, trivial⟩, H.weak (by omega) (Nat.le_refl _)⟩
    · skip
      refine Ops.wanted rfl rfl ?_
      refine Ops.loadHA (off := 0) (cs := [(.v (.int .i8 b.Inf)), (.v (.int .i64 b.N))]) H 1 rfl rfl rfl rfl rfl rfl rfl nofun rfl ?_
      refine Ops.wanted rfl rfl ?_
      refine Ops.call (ys := [(.agg [(.v (.int .i8 b.Inf)), (.v (.int .i64 b.N))])]) (r := (.v (.bool (safe_Right b)))) rfl (safe_Right_fn rfl) rfl ?_
      refine Ops.wanted rfl rfl ?_
      refine Ops.not (b := (safe_Right b)) rfl rfl ?_
      refine Ops.pickF (v := (.v (.bool (!(safe_Right b))))) rfl rfl rfl ?_
      apply Ops.nil
      exact ⟨⟨or_F hc1, rfl, rfl, rfl, trivial⟩, H.weak (by omega) (Nat.le_refl _)⟩
  · rintro e σ ⟨he, H⟩
    obtain ⟨e, rfl⟩ := he.ex
    refine Ops.assign (v := (.v (.bool ((!(safe_Right a)) || (!(safe_Right b)))))) rfl rfl ?_
    apply Ops.nil
    replace H := H.all
    refine Runs.whether (v := ((!(safe_Right a)) || (!(safe_Right b)))) rfl ?_ ?_ <;> intro hc2
    · replace h := cond_T hc2 h
      apply Runs.then
      refine Runs.regionH 3 rfl H ?_; intro b3 σ H
      refine Ops.buildA (cs := [(.v (.int .i8 0)), (.v (.int .i64 0))]) rfl rfl ?_
      refine Ops.storeH (off := 0) (v := (.agg [(.v (.int .i8 0)), (.v (.int .i64 0))])) (ys := [(.v (.int .i8 0)), (.v (.int .i64 0))]) (cells' := [(.v (.int .i8 0)), (.v (.int .i64 0))]) H 0 rfl rfl rfl rfl rfl rfl rfl rfl rfl nofun ?_; intro σ H
      refine Ops.assign (v := (.v (.int .i64 2))) rfl rfl ?_
      apply Ops.nil
      replace H := H.all
      apply Runs.ret
      subst h
      exact (Ends.H (xs := [(.agg [(.v (.int .i8 0)), (.v (.int .i64 0))]), (.v (.int .i64 2))]) (.inr rfl) H (.agg (cs := [(.v (.int .i8 0)), (.v (.int .i64 0))]) (off := 0) 0 rfl rfl rfl rfl rfl rfl rfl (.tmp (v := (.v (.int .i64 2))) rfl .nil)) (.two (.cons (.p rfl) (.cons (.c (.v _)) .nil))))
    · replace h := cond_F hc2 h
      apply Runs.then
      refine Runs.regionH 16 rfl H ?_; intro b4 σ H
      refine Ops.fieldAddrH (off := 0) (fo := 0) H 2 rfl rfl rfl rfl rfl nofun rfl ?_
      refine Ops.loadH (off := 0) (v := (.v (.int .i8 a.Inf))) H 2 rfl rfl rfl rfl rfl nofun rfl ?_
      refine Ops.int (m := a.Inf) (m' := 0) (r := .bool (a.Inf != 0)) rfl rfl rfl rfl rfl ?_
      refine Ops.move (v := (.v (.bool (a.Inf != 0)))) rfl rfl ?_
      refine Ops.mid 4 (K1 := fun e σ => EnvHas e [(26, (.v (.bool ((a.Inf != 0) && (b.Inf != 0))))), (2, (.ptr (b1 + 0) 2 0)), (3, (.ptr (b1 + 1) 2 0)), (4, (.ptr (b1 + 2) 2 0))] ∧ Has σ (b4 + 8) (b4 + 16) [.blk (b1 + 2) 32 [(.v (.int .i8 0)), (.v (.int .i64 0))], .blk (b1 + 1) 32 [(.v (.int .i8 b.Inf)), (.v (.int .i64 b.N))], .blk (b1 + 0) 32 [(.v (.int .i8 a.Inf)), (.v (.int .i64 a.N))]]) rfl ?_ ?_
      · refine Ops.split rfl rfl ?_ ?_ <;> intro hc3
        · skip
          refine Ops.wanted rfl rfl ?_
          refine Ops.fieldAddrH (off := 0) (fo := 0) H 1 rfl rfl rfl rfl rfl nofun rfl ?_
          refine Ops.wanted rfl rfl ?_
          refine Ops.loadH (off := 0) (v := (.v (.int .i8 b.Inf))) H 1 rfl rfl rfl rfl rfl nofun rfl ?_
          refine Ops.wanted rfl rfl ?_
          refine Ops.int (m := b.Inf) (m' := 0) (r := .bool (b.Inf != 0)) rfl rfl rfl rfl rfl ?_
          refine Ops.pickT (v := (.v (.bool (b.Inf != 0)))) rfl rfl rfl ?_
          apply Ops.nil
          exact ⟨⟨and_T hc3, rfl, rfl, rfl, trivial⟩, H.weak (by omega) (Nat.le_refl _)⟩
        · skip
          refine Ops.pass rfl rfl rfl ?_
          refine Ops.pass rfl rfl rfl ?_
          refine Ops.pass rfl rfl rfl ?_
          refine Ops.pickF (v := (.v (.bool false))) rfl rfl rfl ?_
          apply Ops.nil
          exact ⟨⟨and_F hc3, rfl, rfl, rfl, trivial⟩, H.weak (by omega) (Nat.le_refl _)⟩
      · rintro e σ ⟨he, H⟩
        obtain ⟨e, rfl⟩ := he.ex
        refine Ops.move (v := (.v (.bool ((a.Inf != 0) && (b.Inf != 0))))) rfl rfl ?_
        refine Ops.mid 6 (K1 := fun e σ => EnvHas e [(33, (.v (.bool (((a.Inf != 0) && (b.Inf != 0)) && (a.Inf != b.Inf))))), (2, (.ptr (b1 + 0) 2 0)), (3, (.ptr (b1 + 1) 2 0)), (4, (.ptr (b1 + 2) 2 0))] ∧ Has σ (b4 + 15) (b4 + 16) [.blk (b1 + 2) 32 [(.v (.int .i8 0)), (.v (.int .i64 0))], .blk (b1 + 1) 32 [(.v (.int .i8 b.Inf)), (.v (.int .i64 b.N))], .blk (b1 + 0) 32 [(.v (.int .i8 a.Inf)), (.v (.int .i64 a.N))]]) rfl ?_ ?_
        · refine Ops.split rfl rfl ?_ ?_ <;> intro hc4
          · skip
            refine Ops.wanted rfl rfl ?_
            refine Ops.fieldAddrH (off := 0) (fo := 0) H 2 rfl rfl rfl rfl rfl nofun rfl ?_
            refine Ops.wanted rfl rfl ?_
            refine Ops.loadH (off := 0) (v := (.v (.int .i8 a.Inf))) H 2 rfl rfl rfl rfl rfl nofun rfl ?_
            refine Ops.wanted rfl rfl ?_
            refine Ops.fieldAddrH (off := 0) (fo := 0) H 1 rfl rfl rfl rfl rfl nofun rfl ?_
            refine Ops.wanted rfl rfl ?_
            refine Ops.loadH (off := 0) (v := (.v (.int .i8 b.Inf))) H 1 rfl rfl rfl rfl rfl nofun rfl ?_
            refine Ops.wanted rfl rfl ?_
            refine Ops.int (m := a.Inf) (m' := b.Inf) (r := .bool (a.Inf != b.Inf)) rfl rfl rfl rfl rfl ?_
            refine Ops.pickT (v := (.v (.bool (a.Inf != b.Inf)))) rfl rfl rfl ?_
            apply Ops.nil
            exact ⟨⟨and_T hc4, rfl, rfl, rfl, trivial⟩, H.weak (by omega) (Nat.le_refl _)⟩
          · skip
            refine Ops.pass rfl rfl rfl ?_
            refine Ops.pass rfl rfl rfl ?_
            refine Ops.pass rfl rfl rfl ?_
            refine Ops.pass rfl rfl rfl ?_
            refine Ops.pass rfl rfl rfl ?_
            refine Ops.pickF (v := (.v (.bool false))) rfl rfl rfl ?_
            apply Ops.nil
            exact ⟨⟨and_F hc4, rfl, rfl, rfl, trivial⟩, H.weak (by omega) (Nat.le_refl _)⟩
        · rintro e σ ⟨he, H⟩
          obtain ⟨e, rfl⟩ := he.ex
          refine Ops.assign (v := (.v (.bool (((a.Inf != 0) && (b.Inf != 0)) && (a.Inf != b.Inf))))) rfl rfl ?_
          apply Ops.nil
          replace H := H.all
          refine Runs.whether (v := (((a.Inf != 0) && (b.Inf != 0)) && (a.Inf != b.Inf))) rfl ?_ ?_ <;> intro hc5
          · replace h := cond_T hc5 h
            apply Runs.then
            refine Runs.regionH 3 rfl H ?_; intro b5 σ H
            refine Ops.buildA (cs := [(.v (.int .i8 0)), (.v (.int .i64 0))]) rfl rfl ?_
            refine Ops.storeH (off := 0) (v := (.agg [(.v (.int .i8 0)), (.v (.int .i64 0))])) (ys := [(.v (.int .i8 0)), (.v (.int .i64 0))]) (cells' := [(.v (.int .i8 0)), (.v (.int .i64 0))]) H 0 rfl rfl rfl rfl rfl rfl rfl rfl rfl nofun ?_; intro σ H
            refine Ops.assign (v := (.v (.int .i64 10))) rfl rfl ?_
            apply Ops.nil
            replace H := H.all
            apply Runs.ret
            subst h
            exact (Ends.H (xs := [(.agg [(.v (.int .i8 0)), (.v (.int .i64 0))]), (.v (.int .i64 10))]) (.inr rfl) H (.agg (cs := [(.v (.int .i8 0)), (.v (.int .i64 0))]) (off := 0) 0 rfl rfl rfl rfl rfl rfl rfl (.tmp (v := (.v (.int .i64 10))) rfl .nil)) (.two (.cons (.p rfl) (.cons (.c (.v _)) .nil))))
          · replace h := cond_F hc5 h
            apply Runs.then
            refine Runs.regionH 4 rfl H ?_; intro b6 σ H
            refine Ops.fieldAddrH (off := 0) (fo := 0) H 2 rfl rfl rfl rfl rfl nofun rfl ?_
            refine Ops.loadH (off := 0) (v := (.v (.int .i8 a.Inf))) H 2 rfl rfl rfl rfl rfl nofun rfl ?_
            refine Ops.int (m := a.Inf) (m' := 0) (r := .bool (a.Inf != 0)) rfl rfl rfl rfl rfl ?_
            refine Ops.assign (v := (.v (.bool (a.Inf != 0)))) rfl rfl ?_
            apply Ops.nil
            replace H := H.all
            refine Runs.whether (v := (a.Inf != 0)) rfl ?_ ?_ <;> intro hc6
            · replace h := cond_T hc6 h
              apply Runs.then
              refine Runs.regionH 3 rfl H ?_; intro b7 σ H
              refine Ops.loadHA (off := 0) (cs := [(.v (.int .i8 a.Inf)), (.v (.int .i64 a.N))]) H 2 rfl rfl rfl rfl rfl rfl rfl nofun rfl ?_
              refine Ops.storeH (off := 0) (v := (.agg [(.v (.int .i8 a.Inf)), (.v (.int .i64 a.N))])) (ys := [(.v (.int .i8 a.Inf)), (.v (.int .i64 a.N))]) (cells' := [(.v (.int .i8 a.Inf)), (.v (.int .i64 a.N))]) H 0 rfl rfl rfl rfl rfl rfl rfl rfl rfl nofun ?_; intro σ H
              refine Ops.assign (v := (.v (.int .i64 0))) rfl rfl ?_
              apply Ops.nil
              replace H := H.all
              apply Runs.ret
              subst h
              exact (Ends.H (xs := [(.agg [(.v (.int .i8 a.Inf)), (.v (.int .i64 a.N))]), (.v (.int .i64 0))]) (.inr rfl) H (.agg (cs := [(.v (.int .i8 a.Inf)), (.v (.int .i64 a.N))]) (off := 0) 0 rfl rfl rfl rfl rfl rfl rfl (.tmp (v := (.v (.int .i64 0))) rfl .nil)) (.two (.cons (.p rfl) (.cons (.c (.v _)) .nil))))
            · replace h := cond_F hc6 h
              apply Runs.then
              refine Runs.regionH 4 rfl H ?_; intro b8 σ H
              refine Ops.fieldAddrH (off := 0) (fo := 0) H 1 rfl rfl rfl rfl rfl nofun rfl ?_
              refine Ops.loadH (off := 0) (v := (.v (.int .i8 b.Inf))) H 1 rfl rfl rfl rfl rfl nofun rfl ?_
              refine Ops.int (m := b.Inf) (m' := 0) (r := .bool (b.Inf != 0)) rfl rfl rfl rfl rfl ?_
              refine Ops.assign (v := (.v (.bool (b.Inf != 0)))) rfl rfl ?_
              apply Ops.nil
              replace H := H.all
              refine Runs.whether (v := (b.Inf != 0)) rfl ?_ ?_ <;> intro hc7
              · replace h := cond_T hc7 h
                apply Runs.then
                refine Runs.regionH 3 rfl H ?_; intro b9 σ H
                refine Ops.loadHA (off := 0) (cs := [(.v (.int .i8 b.Inf)), (.v (.int .i64 b.N))]) H 1 rfl rfl rfl rfl rfl rfl rfl nofun rfl ?_
                refine Ops.storeH (off := 0) (v := (.agg [(.v (.int .i8 b.Inf)), (.v (.int .i64 b.N))])) (ys := [(.v (.int .i8 b.Inf)), (.v (.int .i64 b.N))]) (cells' := [(.v (.int .i8 b.Inf)), (.v (.int .i64 b.N))]) H 0 rfl rfl rfl rfl rfl rfl rfl rfl rfl nofun ?_; intro σ H
                refine Ops.assign (v := (.v (.int .i64 0))) rfl rfl ?_
                apply Ops.nil
                replace H := H.all
                apply Runs.ret
                subst h
                exact (Ends.H (xs := [(.agg [(.v (.int .i8 b.Inf)), (.v (.int .i64 b.N))]), (.v (.int .i64 0))]) (.inr rfl) H (.agg (cs := [(.v (.int .i8 b.Inf)), (.v (.int .i64 b.N))]) (off := 0) 0 rfl rfl rfl rfl rfl rfl rfl (.tmp (v := (.v (.int .i64 0))) rfl .nil)) (.two (.cons (.p rfl) (.cons (.c (.v _)) .nil))))
              · replace h := cond_F hc7 h
                apply Runs.skip
                apply Runs.then
                refine Runs.regionH 10 rfl H ?_; intro b10 σ H
                refine Ops.fieldAddrH (off := 0) (fo := 1) H 2 rfl rfl rfl rfl rfl nofun rfl ?_
                refine Ops.loadH (off := 1) (v := (.v (.int .i64 a.N))) H 2 rfl rfl rfl rfl rfl nofun rfl ?_
                refine Ops.fieldAddrH (off := 0) (fo := 1) H 1 rfl rfl rfl rfl rfl nofun rfl ?_
                refine Ops.loadH (off := 1) (v := (.v (.int .i64 b.N))) H 1 rfl rfl rfl rfl rfl nofun rfl ?_
                refine Ops.call (ys := [(.v (.int .i64 a.N)), (.v (.int .i64 b.N))]) (r := (.tup [(.v (.int .i64 (safe_Add a.N b.N).1)), (.v (.int .i64 (safe_Add a.N b.N).2))])) rfl (safe_Add_fn rfl) rfl ?_
                refine Ops.move (v := (.tup [(.v (.int .i64 (safe_Add a.N b.N).1)), (.v (.int .i64 (safe_Add a.N b.N).2))])) rfl rfl ?_
                refine Ops.extract (v := (.v (.int .i64 (safe_Add a.N b.N).1))) rfl rfl rfl ?_
                refine Ops.extract (v := (.v (.int .i64 (safe_Add a.N b.N).2))) rfl rfl rfl ?_
                refine Ops.assign (v := (.v (.int .i64 (safe_Add a.N b.N).1))) rfl rfl ?_
                refine Ops.assign (v := (.v (.int .i64 (safe_Add a.N b.N).2))) rfl rfl ?_
                apply Ops.nil
                replace H := H.all
                apply Runs.then
                refine Runs.regionH 5 rfl H ?_; intro b11 σ H
                refine Ops.move (v := (.v (.int .i64 (safe_Add a.N b.N).1))) rfl rfl ?_
                refine Ops.buildA (cs := [(.v (.int .i8 0)), (.v (.int .i64 (safe_Add a.N b.N).1))]) rfl rfl ?_
                refine Ops.move (v := (.v (.int .i64 (safe_Add a.N b.N).2))) rfl rfl ?_
                refine Ops.storeH (off := 0) (v := (.agg [(.v (.int .i8 0)), (.v (.int .i64 (safe_Add a.N b.N).1))])) (ys := [(.v (.int .i8 0)), (.v (.int .i64 (safe_Add a.N b.N).1))]) (cells' := [(.v (.int .i8 0)), (.v (.int .i64 (safe_Add a.N b.N).1))]) H 0 rfl rfl rfl rfl rfl rfl rfl rfl rfl nofun ?_; intro σ H
                refine Ops.assign (v := (.v (.int .i64 (safe_Add a.N b.N).2))) rfl rfl ?_
                apply Ops.nil
                replace H := H.all
                apply Runs.ret
                subst h
                exact (Ends.H (xs := [(.agg [(.v (.int .i8 0)), (.v (.int .i64 (safe_Add a.N b.N).1))]), (.v (.int .i64 (safe_Add a.N b.N).2))]) (.inr rfl) H (.agg (cs := [(.v (.int .i8 0)), (.v (.int .i64 (safe_Add a.N b.N).1))]) (off := 0) 0 rfl rfl rfl rfl rfl rfl rfl (.tmp (v := (.v (.int .i64 (safe_Add a.N b.N).2))) rfl .nil)) (.two (.cons (.p rfl) (.cons (.c (.v _)) .nil))))

set_option maxRecDepth 100000 in
set_option maxHeartbeats 4000000 in
theorem epactref01_right_fn {a : Bound} {r : Bool} (h : epactref01_right a = r) : Fn CX 60 [(.agg (vs (Bound.cs a)))] (.v (.bool r)) := by
  refine Fn.ends Try.func60 rfl rfl rfl rfl rfl rfl ?_
  have H : Hs (⟨0, fun _ => .none⟩ : Heap) [] := Has.nil (Nat.le_refl _)
  generalize (⟨0, fun _ => .none⟩ : Heap) = σ at H ⊢
  unfold epactref01_right at h
  apply Runs.then
  refine Runs.regionH 2 rfl H ?_; intro b1 σ H
  refine Ops.boxH (v := (.agg [(.v (.int .i8 a.Inf)), (.v (.int .i64 a.N))])) (cs := [(.v (.int .i8 a.Inf)), (.v (.int .i64 a.N))]) H (by omega) (by omega) rfl rfl rfl ?_; intro σ H
  refine Ops.assign (v := (.v (.bool false))) rfl rfl ?_
  apply Ops.nil
  replace H := H.all
  apply Runs.then
  apply Runs.then
  refine Runs.regionH 3 rfl H ?_; intro b2 σ H
  refine Ops.fieldAddrH (off := 0) (fo := 0) H 0 rfl rfl rfl rfl rfl nofun rfl ?_
  refine Ops.loadH (off := 0) (v := (.v (.int .i8 a.Inf))) H 0 rfl rfl rfl rfl rfl nofun rfl ?_
  refine Ops.int (m := a.Inf) (m' := 0) (r := .bool (a.Inf == 0)) rfl rfl rfl rfl rfl ?_
  apply Ops.nil
  replace H := H.all
  refine Runs.whether (v := (a.Inf == 0)) rfl ?_ ?_ <;> intro hc1
  · replace h := cond_T hc1 h
    apply Runs.then
    refine Runs.regionH 1 rfl H ?_; intro b3 σ H
    refine Ops.assign (v := (.v (.bool true))) rfl rfl ?_
    apply Ops.nil
    replace H := H.all
    apply Runs.ret
    subst h
    exact (Ends.H (xs := [(.v (.bool true))]) (.inr rfl) H (.tmp (v := (.v (.bool true))) rfl .nil) (.one (.c (.v _))))
  · replace h := cond_F hc1 h
    apply Runs.skip
    apply Runs.then
    refine Runs.regionH 14 rfl H ?_; intro b4 σ H
    refine Ops.fieldAddrH (off := 0) (fo := 1) H 0 rfl rfl rfl rfl rfl nofun rfl ?_
    refine Ops.loadH (off := 1) (v := (.v (.int .i64 a.N))) H 0 rfl rfl rfl rfl rfl nofun rfl ?_
    refine Ops.int (m := a.N) (m' := 0) (r := .bool (a.N == 0)) rfl rfl rfl rfl rfl ?_
    refine Ops.move (v := (.v (.bool (a.N == 0)))) rfl rfl ?_
    refine Ops.mid 9 (K1 := fun e σ => EnvHas e [(18, (.v (.bool ((a.N == 0) && ((a.Inf == (-1)) || (a.Inf == 1))))))] ∧ Has σ (b4 + 13) (b4 + 14) []) rfl ?_ ?_
    · refine Ops.split rfl rfl ?_ ?_ <;> intro hc2
      · skip
        refine Ops.wanted rfl rfl ?_
        refine Ops.fieldAddrH (off := 0) (fo := 0) H 0 rfl rfl rfl rfl rfl nofun rfl ?_
        refine Ops.wanted rfl rfl ?_
        refine Ops.loadH (off := 0) (v := (.v (.int .i8 a.Inf))) H 0 rfl rfl rfl rfl rfl nofun rfl ?_
        refine Ops.wanted rfl rfl ?_
        refine Ops.int (m := a.Inf) (m' := (-1)) (r := .bool (a.Inf == (-1))) rfl rfl rfl rfl rfl ?_
        refine Ops.wanted rfl rfl ?_
        refine Ops.move (v := (.v (.bool (a.Inf == (-1))))) rfl rfl ?_
        refine Ops.mid 4 (K1 := fun e σ => EnvHas e [(17, (.v (.bool ((a.Inf == (-1)) || (a.Inf == 1))))), (9, (.v (.bool true)))] ∧ Has σ (b4 + 12) (b4 + 14) []) rfl ?_ ?_
        · refine Ops.split rfl rfl ?_ ?_ <;> intro hc3
          · skip
            refine Ops.pass rfl rfl rfl ?_
            refine Ops.pass rfl rfl rfl ?_
            refine Ops.pass rfl rfl rfl ?_
            refine Ops.wanted rfl rfl ?_
            refine Ops.pickT (v := (.v (.bool true))) rfl rfl rfl ?_
            apply Ops.nil
            exact ⟨⟨or_T hc3, rfl, trivial⟩, (H.erase 0).weak (by omega) (Nat.le_refl _)⟩
          · skip
            refine Ops.wanted rfl rfl ?_
            refine Ops.fieldAddrH (off := 0) (fo := 0) H 0 rfl rfl rfl rfl rfl nofun rfl ?_
            refine Ops.wanted rfl rfl ?_
            refine Ops.loadH (off := 0) (v := (.v (.int .i8 a.Inf))) H 0 rfl rfl rfl rfl rfl nofun rfl ?_
            refine Ops.wanted rfl rfl ?_
            refine Ops.int (m := a.Inf) (m' := 1) (r := .bool (a.Inf == 1)) rfl rfl rfl rfl rfl ?_
            refine Ops.wanted rfl rfl ?_
            refine Ops.pickF (v := (.v (.bool (a.Inf == 1)))) rfl rfl rfl ?_
            apply Ops.nil
            exact ⟨⟨or_F hc3, rfl, trivial⟩, (H.erase 0).weak (by omega) (Nat.le_refl _)⟩
        · rintro e σ ⟨he, H⟩
          obtain ⟨e, rfl⟩ := he.ex
          refine Ops.pickT (v := (.v (.bool ((a.Inf == (-1)) || (a.Inf == 1))))) rfl rfl rfl ?_
          apply Ops.nil
          exact ⟨⟨and_T hc2, trivial⟩, H.weak (by omega) (Nat.le_refl _)⟩
      · skip
        refine Ops.pass rfl rfl rfl ?_
        refine Ops.pass rfl rfl rfl ?_
        refine Ops.pass rfl rfl rfl ?_
        refine Ops.pass rfl rfl rfl ?_
        refine Ops.passU rfl rfl rfl ?_
        refine Ops.passU rfl rfl rfl ?_
        refine Ops.passU rfl rfl rfl ?_
        refine Ops.pass rfl rfl rfl ?_
        refine Ops.pickF (v := (.v (.bool false))) rfl rfl rfl ?_
        apply Ops.nil
        exact ⟨⟨and_F hc2, trivial⟩, (H.erase 0).weak (by omega) (Nat.le_refl _)⟩
    · rintro e σ ⟨he, H⟩
      obtain ⟨e, rfl⟩ := he.ex
      refine Ops.assign (v := (.v (.bool ((a.N == 0) && ((a.Inf == (-1)) || (a.Inf == 1)))))) rfl rfl ?_
      apply Ops.nil
      replace H := H.all
      apply Runs.ret
      subst h
      exact (Ends.H (xs := [(.v (.bool ((a.N == 0) && ((a.Inf == (-1)) || (a.Inf == 1)))))]) (.inr rfl) H (.tmp (v := (.v (.bool ((a.N == 0) && ((a.Inf == (-1)) || (a.Inf == 1)))))) rfl .nil) (.one (.c (.v _))))

set_option maxRecDepth 100000 in
set_option maxHeartbeats 4000000 in
theorem epactref01_Sum_fn {a : Bound} {b : Bound} {r : Bound × Int} (h : epactref01_Sum a b = some r) : Fn CX 28 [(.agg (vs (Bound.cs a))), (.agg (vs (Bound.cs b)))] (.tup [(.agg (vs (Bound.cs r.1))), (.v (.int .i64 r.2))]) := by
  refine Fn.ends Try.func28 rfl rfl rfl rfl rfl rfl ?_
  have H : Hs (⟨0, fun _ => .none⟩ : Heap) [] := Has.nil (Nat.le_refl _)
  generalize (⟨0, fun _ => .none⟩ : Heap) = σ at H ⊢
  unfold epactref01_Sum at h
  apply Runs.then
  refine Runs.regionH 4 rfl H ?_; intro b1 σ H
  refine Ops.boxH (v := (.agg [(.v (.int .i8 a.Inf)), (.v (.int .i64 a.N))])) (cs := [(.v (.int .i8 a.Inf)), (.v (.int .i64 a.N))]) H (by omega) (by omega) rfl rfl rfl ?_; intro σ H
  refine Ops.boxH (v := (.agg [(.v (.int .i8 b.Inf)), (.v (.int .i64 b.N))])) (cs := [(.v (.int .i8 b.Inf)), (.v (.int .i64 b.N))]) H (by omega) (by omega) rfl rfl rfl ?_; intro σ H
  refine Ops.allocH (cs := [(.v (.int .i8 0)), (.v (.int .i64 0))]) H (by omega) (by omega) rfl rfl ?_; intro σ H
  refine Ops.assign (v := (.v (.int .i64 0))) rfl rfl ?_
  apply Ops.nil
  replace H := H.all
  apply Runs.then
  apply Runs.then
  refine Runs.regionH 8 rfl H ?_; intro b2 σ H
  refine Ops.loadHA (off := 0) (cs := [(.v (.int .i8 a.Inf)), (.v (.int .i64 a.N))]) H 2 rfl rfl rfl rfl rfl rfl rfl nofun rfl ?_
  refine Ops.call (ys := [(.agg [(.v (.int .i8 a.Inf)), (.v (.int .i64 a.N))])]) (r := (.v (.bool (epactref01_right a)))) rfl (epactref01_right_fn rfl) rfl ?_
  refine Ops.not (b := (epactref01_right a)) rfl rfl ?_
  refine Ops.move (v := (.v (.bool (!(epactref01_right a))))) rfl rfl ?_
  refine Ops.mid 4 (K1 := fun e σ => EnvHas e [(15, (.v (.bool ((!(epactref01_right a)) || (!(epactref01_right b)))))), (2, (.ptr (b1 + 0) 2 0)), (3, (.ptr (b1 + 1) 2 0)), (4, (.ptr (b1 + 2) 2 0))] ∧ Has σ (b2 + 8) (b2 + 8) [.blk (b1 + 2) 32 [(.v (.int .i8 0)), (.v (.int .i64 0))], .blk (b1 + 1) 32 [(.v (.int .i8 b.Inf)), (.v (.int .i64 b.N))], .blk (b1 + 0) 32 [(.v (.int .i8 a.Inf)), (.v (.int .i64 a.N))]]) rfl ?_ ?_
  · refine Ops.split rfl rfl ?_ ?_ <;> intro hc1
    · skip
      refine Ops.pass rfl rfl rfl ?_
      refine Ops.pass rfl rfl rfl ?_
      refine Ops.pass rfl rfl rfl ?_
      refine Ops.pickT (v := (.v (.bool true))) rfl rfl rfl ?_
      apply Ops.nil
      exact ⟨⟨or_T hc1, rfl, rfl, rfl, trivial⟩, H.weak (by omega) (Nat.le_refl _)⟩
    · skip
      refine Ops.wanted rfl rfl ?_
      refine Ops.loadHA (off := 0) (cs := [(.v (.int .i8 b.Inf)), (.v (.int .i64 b.N))]) H 1 rfl rfl rfl rfl rfl rfl rfl nofun rfl ?_
      refine Ops.wanted rfl rfl ?_
      refine Ops.call (ys := [(.agg [(.v (.int .i8 b.Inf)), (.v (.int .i64 b.N))])]) (r := (.v (.bool (epactref01_right b)))) rfl (epactref01_right_fn rfl) rfl ?_
      refine Ops.wanted rfl rfl ?_
      refine Ops.not (b := (epactref01_right b)) rfl rfl ?_
      refine Ops.pickF (v := (.v (.bool (!(epactref01_right b))))) rfl rfl rfl ?_
      apply Ops.nil
      exact ⟨⟨or_F hc1, rfl, rfl, rfl, trivial⟩, H.weak (by omega) (Nat.le_refl _)⟩
  · rintro e σ ⟨he, H⟩
    obtain ⟨e, rfl⟩ := he.ex
    apply Ops.nil
    replace H := H.all
    refine Runs.whether (v := ((!(epactref01_right a)) || (!(epactref01_right b)))) rfl ?_ ?_ <;> intro hc2
    · replace h := cond_T hc2 h
      apply Runs.then
      refine Runs.regionH 3 rfl H ?_; intro b3 σ H
      refine Ops.buildA (cs := [(.v (.int .i8 0)), (.v (.int .i64 0))]) rfl rfl ?_
      refine Ops.storeH (off := 0) (v := (.agg [(.v (.int .i8 0)), (.v (.int .i64 0))])) (ys := [(.v (.int .i8 0)), (.v (.int .i64 0))]) (cells' := [(.v (.int .i8 0)), (.v (.int .i64 0))]) H 0 rfl rfl rfl rfl rfl rfl rfl rfl rfl nofun ?_; intro σ H
      refine Ops.assign (v := (.v (.int .i64 2))) rfl rfl ?_
      apply Ops.nil
      replace H := H.all
      apply Runs.ret
      replace h := Option.some.inj h; subst h
      exact (Ends.H (xs := [(.agg [(.v (.int .i8 0)), (.v (.int .i64 0))]), (.v (.int .i64 2))]) (.inr rfl) H (.agg (cs := [(.v (.int .i8 0)), (.v (.int .i64 0))]) (off := 0) 0 rfl rfl rfl rfl rfl rfl rfl (.tmp (v := (.v (.int .i64 2))) rfl .nil)) (.two (.cons (.p rfl) (.cons (.c (.v _)) .nil))))
    · replace h := cond_F hc2 h
      apply Runs.skip
      apply Runs.then
      apply Runs.then
      refine Runs.regionH 8 rfl H ?_; intro b4 σ H
      refine Ops.fieldAddrH (off := 0) (fo := 0) H 2 rfl rfl rfl rfl rfl nofun rfl ?_
      refine Ops.loadH (off := 0) (v := (.v (.int .i8 a.Inf))) H 2 rfl rfl rfl rfl rfl nofun rfl ?_
      refine Ops.int (m := a.Inf) (m' := 0) (r := .bool (a.Inf == 0)) rfl rfl rfl rfl rfl ?_
      refine Ops.move (v := (.v (.bool (a.Inf == 0)))) rfl rfl ?_
      refine Ops.mid 4 (K1 := fun e σ => EnvHas e [(24, (.v (.bool ((a.Inf == 0) && (b.Inf == 0))))), (2, (.ptr (b1 + 0) 2 0)), (3, (.ptr (b1 + 1) 2 0)), (4, (.ptr (b1 + 2) 2 0))] ∧ Has σ (b4 + 8) (b4 + 8) [.blk (b1 + 2) 32 [(.v (.int .i8 0)), (.v (.int .i64 0))], .blk (b1 + 1) 32 [(.v (.int .i8 b.Inf)), (.v (.int .i64 b.N))], .blk (b1 + 0) 32 [(.v (.int .i8 a.Inf)), (.v (.int .i64 a.N))]]) rfl ?_ ?_
      · refine Ops.split rfl rfl ?_ ?_ <;> intro hc3
        · skip
          refine Ops.wanted rfl rfl ?_
          refine Ops.fieldAddrH (off := 0) (fo := 0) H 1 rfl rfl rfl rfl rfl nofun rfl ?_
          refine Ops.wanted rfl rfl ?_
          refine Ops.loadH (off := 0) (v := (.v (.int .i8 b.Inf))) H 1 rfl rfl rfl rfl rfl nofun rfl ?_
          refine Ops.wanted rfl rfl ?_
          refine Ops.int (m := b.Inf) (m' := 0) (r := .bool (b.Inf == 0)) rfl rfl rfl rfl rfl ?_
          refine Ops.pickT (v := (.v (.bool (b.Inf == 0)))) rfl rfl rfl ?_
          apply Ops.nil
          exact ⟨⟨and_T hc3, rfl, rfl, rfl, trivial⟩, H.weak (by omega) (Nat.le_refl _)⟩
        · skip
          refine Ops.pass rfl rfl rfl ?_
          refine Ops.pass rfl rfl rfl ?_
          refine Ops.pass rfl rfl rfl ?_
          refine Ops.pickF (v := (.v (.bool false))) rfl rfl rfl ?_
          apply Ops.nil
          exact ⟨⟨and_F hc3, rfl, rfl, rfl, trivial⟩, H.weak (by omega) (Nat.le_refl _)⟩
      · rintro e σ ⟨he, H⟩
        obtain ⟨e, rfl⟩ := he.ex
        apply Ops.nil
        replace H := H.all
        refine Runs.whether (v := ((a.Inf == 0) && (b.Inf == 0))) rfl ?_ ?_ <;> intro hc4
        · replace h := cond_T hc4 h
          apply Runs.then
          refine Runs.regionH 10 rfl H ?_; intro b5 σ H
          refine Ops.fieldAddrH (off := 0) (fo := 1) H 2 rfl rfl rfl rfl rfl nofun rfl ?_
          refine Ops.loadH (off := 1) (v := (.v (.int .i64 a.N))) H 2 rfl rfl rfl rfl rfl nofun rfl ?_
          refine Ops.fieldAddrH (off := 0) (fo := 1) H 1 rfl rfl rfl rfl rfl nofun rfl ?_
          refine Ops.loadH (off := 1) (v := (.v (.int .i64 b.N))) H 1 rfl rfl rfl rfl rfl nofun rfl ?_
          obtain ⟨x1, q1, h⟩ := bind_some h
          refine Ops.call (ys := [(.v (.int .i64 a.N)), (.v (.int .i64 b.N))]) (r := (.tup [(.v (.int .i64 x1.1)), (.v (.int .i64 x1.2))])) rfl (epactref01_Add_fn q1) rfl ?_
          refine Ops.move (v := (.tup [(.v (.int .i64 x1.1)), (.v (.int .i64 x1.2))])) rfl rfl ?_
          refine Ops.extract (v := (.v (.int .i64 x1.1))) rfl rfl rfl ?_
          refine Ops.extract (v := (.v (.int .i64 x1.2))) rfl rfl rfl ?_
          refine Ops.assign (v := (.v (.int .i64 x1.1))) rfl rfl ?_
          refine Ops.assign (v := (.v (.int .i64 x1.2))) rfl rfl ?_
          apply Ops.nil
          replace H := H.all
          apply Runs.then
          refine Runs.regionH 5 rfl H ?_; intro b6 σ H
          refine Ops.move (v := (.v (.int .i64 x1.1))) rfl rfl ?_
          refine Ops.buildA (cs := [(.v (.int .i8 0)), (.v (.int .i64 x1.1))]) rfl rfl ?_
          refine Ops.move (v := (.v (.int .i64 x1.2))) rfl rfl ?_
          refine Ops.storeH (off := 0) (v := (.agg [(.v (.int .i8 0)), (.v (.int .i64 x1.1))])) (ys := [(.v (.int .i8 0)), (.v (.int .i64 x1.1))]) (cells' := [(.v (.int .i8 0)), (.v (.int .i64 x1.1))]) H 0 rfl rfl rfl rfl rfl rfl rfl rfl rfl nofun ?_; intro σ H
          refine Ops.assign (v := (.v (.int .i64 x1.2))) rfl rfl ?_
          apply Ops.nil
          replace H := H.all
          apply Runs.ret
          replace h := Option.some.inj h; subst h
          exact (Ends.H (xs := [(.agg [(.v (.int .i8 0)), (.v (.int .i64 x1.1))]), (.v (.int .i64 x1.2))]) (.inr rfl) H (.agg (cs := [(.v (.int .i8 0)), (.v (.int .i64 x1.1))]) (off := 0) 0 rfl rfl rfl rfl rfl rfl rfl (.tmp (v := (.v (.int .i64 x1.2))) rfl .nil)) (.two (.cons (.p rfl) (.cons (.c (.v _)) .nil))))
        · replace h := cond_F hc4 h
          apply Runs.skip
          apply Runs.then
          apply Runs.then
          refine Runs.regionH 6 rfl H ?_; intro b7 σ H
          refine Ops.fieldAddrH (off := 0) (fo := 0) H 2 rfl rfl rfl rfl rfl nofun rfl ?_
          refine Ops.loadH (off := 0) (v := (.v (.int .i8 a.Inf))) H 2 rfl rfl rfl rfl rfl nofun rfl ?_
          refine Ops.fieldAddrH (off := 0) (fo := 0) H 1 rfl rfl rfl rfl rfl nofun rfl ?_
          refine Ops.loadH (off := 0) (v := (.v (.int .i8 b.Inf))) H 1 rfl rfl rfl rfl rfl nofun rfl ?_
          refine Ops.int (m := a.Inf) (m' := b.Inf) (r := .int .i8 (IntKind.i8.wrap (a.Inf * b.Inf))) rfl rfl rfl rfl rfl ?_
          refine Ops.int (m := (IntKind.i8.wrap (a.Inf * b.Inf))) (m' := (-1)) (r := .bool ((IntKind.i8.wrap (a.Inf * b.Inf)) == (-1))) rfl rfl rfl rfl rfl ?_
          apply Ops.nil
          replace H := H.all
          refine Runs.whether (v := ((IntKind.i8.wrap (a.Inf * b.Inf)) == (-1))) rfl ?_ ?_ <;> intro hc5
          · replace h := cond_T hc5 h
            apply Runs.then
            refine Runs.regionH 3 rfl H ?_; intro b8 σ H
            refine Ops.buildA (cs := [(.v (.int .i8 0)), (.v (.int .i64 0))]) rfl rfl ?_
            refine Ops.storeH (off := 0) (v := (.agg [(.v (.int .i8 0)), (.v (.int .i64 0))])) (ys := [(.v (.int .i8 0)), (.v (.int .i64 0))]) (cells' := [(.v (.int .i8 0)), (.v (.int .i64 0))]) H 0 rfl rfl rfl rfl rfl rfl rfl rfl rfl nofun ?_; intro σ H
            refine Ops.assign (v := (.v (.int .i64 10))) rfl rfl ?_
            apply Ops.nil
            replace H := H.all
            apply Runs.ret
            replace h := Option.some.inj h; subst h
            exact (Ends.H (xs := [(.agg [(.v (.int .i8 0)), (.v (.int .i64 0))]), (.v (.int .i64 10))]) (.inr rfl) H (.agg (cs := [(.v (.int .i8 0)), (.v (.int .i64 0))]) (off := 0) 0 rfl rfl rfl rfl rfl rfl rfl (.tmp (v := (.v (.int .i64 10))) rfl .nil)) (.two (.cons (.p rfl) (.cons (.c (.v _)) .nil))))
          · replace h := cond_F hc5 h
            apply Runs.skip
            apply Runs.then
            apply Runs.then
            refine Runs.regionH 3 rfl H ?_; intro b9 σ H
            refine Ops.fieldAddrH (off := 0) (fo := 0) H 2 rfl rfl rfl rfl rfl nofun rfl ?_
            refine Ops.loadH (off := 0) (v := (.v (.int .i8 a.Inf))) H 2 rfl rfl rfl rfl rfl nofun rfl ?_
            refine Ops.int (m := a.Inf) (m' := 0) (r := .bool (a.Inf == 0)) rfl rfl rfl rfl rfl ?_
            apply Ops.nil
            replace H := H.all
            refine Runs.whether (v := (a.Inf == 0)) rfl ?_ ?_ <;> intro hc6
            · replace h := cond_T hc6 h
              apply Runs.then
              refine Runs.regionH 3 rfl H ?_; intro b10 σ H
              refine Ops.loadHA (off := 0) (cs := [(.v (.int .i8 b.Inf)), (.v (.int .i64 b.N))]) H 1 rfl rfl rfl rfl rfl rfl rfl nofun rfl ?_
              refine Ops.storeH (off := 0) (v := (.agg [(.v (.int .i8 b.Inf)), (.v (.int .i64 b.N))])) (ys := [(.v (.int .i8 b.Inf)), (.v (.int .i64 b.N))]) (cells' := [(.v (.int .i8 b.Inf)), (.v (.int .i64 b.N))]) H 0 rfl rfl rfl rfl rfl rfl rfl rfl rfl nofun ?_; intro σ H
              refine Ops.assign (v := (.v (.int .i64 0))) rfl rfl ?_
              apply Ops.nil
              replace H := H.all
              apply Runs.ret
              replace h := Option.some.inj h; subst h
              exact (Ends.H (xs := [(.agg [(.v (.int .i8 b.Inf)), (.v (.int .i64 b.N))]), (.v (.int .i64 0))]) (.inr rfl) H (.agg (cs := [(.v (.int .i8 b.Inf)), (.v (.int .i64 b.N))]) (off := 0) 0 rfl rfl rfl rfl rfl rfl rfl (.tmp (v := (.v (.int .i64 0))) rfl .nil)) (.two (.cons (.p rfl) (.cons (.c (.v _)) .nil))))
            · replace h := cond_F hc6 h
              apply Runs.skip
              apply Runs.then
              refine Runs.regionH 3 rfl H ?_; intro b11 σ H
              refine Ops.loadHA (off := 0) (cs := [(.v (.int .i8 a.Inf)), (.v (.int .i64 a.N))]) H 2 rfl rfl rfl rfl rfl rfl rfl nofun rfl ?_
              refine Ops.storeH (off := 0) (v := (.agg [(.v (.int .i8 a.Inf)), (.v (.int .i64 a.N))])) (ys := [(.v (.int .i8 a.Inf)), (.v (.int .i64 a.N))]) (cells' := [(.v (.int .i8 a.Inf)), (.v (.int .i64 a.N))]) H 0 rfl rfl rfl rfl rfl rfl rfl rfl rfl nofun ?_; intro σ H
              refine Ops.assign (v := (.v (.int .i64 0))) rfl rfl ?_
              apply Ops.nil
              replace H := H.all
              apply Runs.ret
              replace h := Option.some.inj h; subst h
              exact (Ends.H (xs := [(.agg [(.v (.int .i8 a.Inf)), (.v (.int .i64 a.N))]), (.v (.int .i64 0))]) (.inr rfl) H (.agg (cs := [(.v (.int .i8 a.Inf)), (.v (.int .i64 a.N))]) (off := 0) 0 rfl rfl rfl rfl rfl rfl rfl (.tmp (v := (.v (.int .i64 0))) rfl .nil)) (.two (.cons (.p rfl) (.cons (.c (.v _)) .nil))))

set_option maxRecDepth 100000 in
set_option maxHeartbeats 4000000 in
theorem safe_Minus_fn {a : Bound} {r : Bound × Int} (h : safe_Minus a = r) : Fn CX 29 [(.agg (vs (Bound.cs a)))] (.tup [(.agg (vs (Bound.cs r.1))), (.v (.int .i64 r.2))]) := by
  refine Fn.ends Try.func29 rfl rfl rfl rfl rfl rfl ?_
  have H : Hs (⟨0, fun _ => .none⟩ : Heap) [] := Has.nil (Nat.le_refl _)
  generalize (⟨0, fun _ => .none⟩ : Heap) = σ at H ⊢
  unfold safe_Minus at h
  apply Runs.then
  refine Runs.regionH 3 rfl H ?_; intro b1 σ H
  refine Ops.boxH (v := (.agg [(.v (.int .i8 a.Inf)), (.v (.int .i64 a.N))])) (cs := [(.v (.int .i8 a.Inf)), (.v (.int .i64 a.N))]) H (by omega) (by omega) rfl rfl rfl ?_; intro σ H
  refine Ops.allocH (cs := [(.v (.int .i8 0)), (.v (.int .i64 0))]) H (by omega) (by omega) rfl rfl ?_; intro σ H
  refine Ops.assign (v := (.v (.int .i64 0))) rfl rfl ?_
  apply Ops.nil
  replace H := H.all
  apply Runs.then
  apply Runs.then
  refine Runs.regionH 3 rfl H ?_; intro b2 σ H
  refine Ops.loadHA (off := 0) (cs := [(.v (.int .i8 a.Inf)), (.v (.int .i64 a.N))]) H 1 rfl rfl rfl rfl rfl rfl rfl nofun rfl ?_
  refine Ops.call (ys := [(.agg [(.v (.int .i8 a.Inf)), (.v (.int .i64 a.N))])]) (r := (.v (.bool (safe_Right a)))) rfl (safe_Right_fn rfl) rfl ?_
  refine Ops.not (b := (safe_Right a)) rfl rfl ?_
  apply Ops.nil
  replace H := H.all
  refine Runs.whether (v := (!(safe_Right a))) rfl ?_ ?_ <;> intro hc1
  · replace h := cond_T hc1 h
    apply Runs.then
    refine Runs.regionH 3 rfl H ?_; intro b3 σ H
    refine Ops.buildA (cs := [(.v (.int .i8 0)), (.v (.int .i64 0))]) rfl rfl ?_
    refine Ops.storeH (off := 0) (v := (.agg [(.v (.int .i8 0)), (.v (.int .i64 0))])) (ys := [(.v (.int .i8 0)), (.v (.int .i64 0))]) (cells' := [(.v (.int .i8 0)), (.v (.int .i64 0))]) H 0 rfl rfl rfl rfl rfl rfl rfl rfl rfl nofun ?_; intro σ H
    refine Ops.assign (v := (.v (.int .i64 2))) rfl rfl ?_
    apply Ops.nil
    replace H := H.all
    apply Runs.ret
    subst h
    exact (Ends.H (xs := [(.agg [(.v (.int .i8 0)), (.v (.int .i64 0))]), (.v (.int .i64 2))]) (.inr rfl) H (.agg (cs := [(.v (.int .i8 0)), (.v (.int .i64 0))]) (off := 0) 0 rfl rfl rfl rfl rfl rfl rfl (.tmp (v := (.v (.int .i64 2))) rfl .nil)) (.two (.cons (.p rfl) (.cons (.c (.v _)) .nil))))
  · replace h := cond_F hc1 h
    apply Runs.skip
    apply Runs.then
    refine Runs.regionH 8 rfl H ?_; intro b4 σ H
    refine Ops.fieldAddrH (off := 0) (fo := 1) H 1 rfl rfl rfl rfl rfl nofun rfl ?_
    refine Ops.loadH (off := 1) (v := (.v (.int .i64 a.N))) H 1 rfl rfl rfl rfl rfl nofun rfl ?_
    refine Ops.call (ys := [(.v (.int .i64 0)), (.v (.int .i64 a.N))]) (r := (.tup [(.v (.int .i64 (safe_Sub 0 a.N).1)), (.v (.int .i64 (safe_Sub 0 a.N).2))])) rfl (safe_Sub_fn rfl) rfl ?_
    refine Ops.move (v := (.tup [(.v (.int .i64 (safe_Sub 0 a.N).1)), (.v (.int .i64 (safe_Sub 0 a.N).2))])) rfl rfl ?_
    refine Ops.extract (v := (.v (.int .i64 (safe_Sub 0 a.N).1))) rfl rfl rfl ?_
    refine Ops.extract (v := (.v (.int .i64 (safe_Sub 0 a.N).2))) rfl rfl rfl ?_
    refine Ops.assign (v := (.v (.int .i64 (safe_Sub 0 a.N).1))) rfl rfl ?_
    refine Ops.assign (v := (.v (.int .i64 (safe_Sub 0 a.N).2))) rfl rfl ?_
    apply Ops.nil
    replace H := H.all
    apply Runs.then
    apply Runs.then
    refine Runs.regionH 2 rfl H ?_; intro b5 σ H
    refine Ops.move (v := (.v (.int .i64 (safe_Sub 0 a.N).2))) rfl rfl ?_
    refine Ops.int (m := (safe_Sub 0 a.N).2) (m' := 0) (r := .bool (((safe_Sub 0 a.N).2) != 0)) rfl rfl rfl rfl rfl ?_
    apply Ops.nil
    replace H := H.all
    refine Runs.whether (v := (((safe_Sub 0 a.N).2) != 0)) rfl ?_ ?_ <;> intro hc2
    · replace h := cond_T hc2 h
      apply Runs.then
      refine Runs.regionH 4 rfl H ?_; intro b6 σ H
      refine Ops.buildA (cs := [(.v (.int .i8 0)), (.v (.int .i64 0))]) rfl rfl ?_
      refine Ops.move (v := (.v (.int .i64 (safe_Sub 0 a.N).2))) rfl rfl ?_
      refine Ops.storeH (off := 0) (v := (.agg [(.v (.int .i8 0)), (.v (.int .i64 0))])) (ys := [(.v (.int .i8 0)), (.v (.int .i64 0))]) (cells' := [(.v (.int .i8 0)), (.v (.int .i64 0))]) H 0 rfl rfl rfl rfl rfl rfl rfl rfl rfl nofun ?_; intro σ H
      refine Ops.assign (v := (.v (.int .i64 (safe_Sub 0 a.N).2))) rfl rfl ?_
      apply Ops.nil
      replace H := H.all
      apply Runs.ret
      subst h
      exact (Ends.H (xs := [(.agg [(.v (.int .i8 0)), (.v (.int .i64 0))]), (.v (.int .i64 (safe_Sub 0 a.N).2))]) (.inr rfl) H (.agg (cs := [(.v (.int .i8 0)), (.v (.int .i64 0))]) (off := 0) 0 rfl rfl rfl rfl rfl rfl rfl (.tmp (v := (.v (.int .i64 (safe_Sub 0 a.N).2))) rfl .nil)) (.two (.cons (.p rfl) (.cons (.c (.v _)) .nil))))
    · replace h := cond_F hc2 h
      apply Runs.skip
      apply Runs.then
      refine Runs.regionH 7 rfl H ?_; intro b7 σ H
      refine Ops.fieldAddrH (off := 0) (fo := 0) H 1 rfl rfl rfl rfl rfl nofun rfl ?_
      refine Ops.loadH (off := 0) (v := (.v (.int .i8 a.Inf))) H 1 rfl rfl rfl rfl rfl nofun rfl ?_
      refine Ops.neg (m := a.Inf) rfl rfl ?_
      refine Ops.move (v := (.v (.int .i64 (safe_Sub 0 a.N).1))) rfl rfl ?_
      refine Ops.buildA (cs := [(.v (.int .i8 (IntKind.i8.wrap (0 - a.Inf)))), (.v (.int .i64 (safe_Sub 0 a.N).1))]) rfl rfl ?_
      refine Ops.storeH (off := 0) (v := (.agg [(.v (.int .i8 (IntKind.i8.wrap (0 - a.Inf)))), (.v (.int .i64 (safe_Sub 0 a.N).1))])) (ys := [(.v (.int .i8 (IntKind.i8.wrap (0 - a.Inf)))), (.v (.int .i64 (safe_Sub 0 a.N).1))]) (cells' := [(.v (.int .i8 (IntKind.i8.wrap (0 - a.Inf)))), (.v (.int .i64 (safe_Sub 0 a.N).1))]) H 0 rfl rfl rfl rfl rfl rfl rfl rfl rfl nofun ?_; intro σ H
      refine Ops.assign (v := (.v (.int .i64 0))) rfl rfl ?_
      apply Ops.nil
      replace H := H.all
      apply Runs.ret
      subst h
      exact (Ends.H (xs := [(.agg [(.v (.int .i8 (IntKind.i8.wrap (0 - a.Inf)))), (.v (.int .i64 (safe_Sub 0 a.N).1))]), (.v (.int .i64 0))]) (.inr rfl) H (.agg (cs := [(.v (.int .i8 (IntKind.i8.wrap (0 - a.Inf)))), (.v (.int .i64 (safe_Sub 0 a.N).1))]) (off := 0) 0 rfl rfl rfl rfl rfl rfl rfl (.tmp (v := (.v (.int .i64 0))) rfl .nil)) (.two (.cons (.p rfl) (.cons (.c (.v _)) .nil))))

set_option maxRecDepth 100000 in
set_option maxHeartbeats 4000000 in
theorem epactref01_Minus_fn {a : Bound} {r : Bound × Int} (h : epactref01_Minus a = some r) : Fn CX 30 [(.agg (vs (Bound.cs a)))] (.tup [(.agg (vs (Bound.cs r.1))), (.v (.int .i64 r.2))]) := by
  refine Fn.ends Try.func30 rfl rfl rfl rfl rfl rfl ?_
  have H : Hs (⟨0, fun _ => .none⟩ : Heap) [] := Has.nil (Nat.le_refl _)
  generalize (⟨0, fun _ => .none⟩ : Heap) = σ at H ⊢
  unfold epactref01_Minus at h
  apply Runs.then
  refine Runs.regionH 3 rfl H ?_; intro b1 σ H
  refine Ops.boxH (v := (.agg [(.v (.int .i8 a.Inf)), (.v (.int .i64 a.N))])) (cs := [(.v (.int .i8 a.Inf)), (.v (.int .i64 a.N))]) H (by omega) (by omega) rfl rfl rfl ?_; intro σ H
  refine Ops.allocH (cs := [(.v (.int .i8 0)), (.v (.int .i64 0))]) H (by omega) (by omega) rfl rfl ?_; intro σ H
  refine Ops.assign (v := (.v (.int .i64 0))) rfl rfl ?_
  apply Ops.nil
  replace H := H.all
  apply Runs.then
  apply Runs.then
  refine Runs.regionH 3 rfl H ?_; intro b2 σ H
  refine Ops.loadHA (off := 0) (cs := [(.v (.int .i8 a.Inf)), (.v (.int .i64 a.N))]) H 1 rfl rfl rfl rfl rfl rfl rfl nofun rfl ?_
  refine Ops.call (ys := [(.agg [(.v (.int .i8 a.Inf)), (.v (.int .i64 a.N))])]) (r := (.v (.bool (epactref01_right a)))) rfl (epactref01_right_fn rfl) rfl ?_
  refine Ops.not (b := (epactref01_right a)) rfl rfl ?_
  apply Ops.nil
  replace H := H.all
  refine Runs.whether (v := (!(epactref01_right a))) rfl ?_ ?_ <;> intro hc1
  · replace h := cond_T hc1 h
    apply Runs.then
    refine Runs.regionH 3 rfl H ?_; intro b3 σ H
    refine Ops.buildA (cs := [(.v (.int .i8 0)), (.v (.int .i64 0))]) rfl rfl ?_
    refine Ops.storeH (off := 0) (v := (.agg [(.v (.int .i8 0)), (.v (.int .i64 0))])) (ys := [(.v (.int .i8 0)), (.v (.int .i64 0))]) (cells' := [(.v (.int .i8 0)), (.v (.int .i64 0))]) H 0 rfl rfl rfl rfl rfl rfl rfl rfl rfl nofun ?_; intro σ H
    refine Ops.assign (v := (.v (.int .i64 2))) rfl rfl ?_
    apply Ops.nil
    replace H := H.all
    apply Runs.ret
    replace h := Option.some.inj h; subst h
    exact (Ends.H (xs := [(.agg [(.v (.int .i8 0)), (.v (.int .i64 0))]), (.v (.int .i64 2))]) (.inr rfl) H (.agg (cs := [(.v (.int .i8 0)), (.v (.int .i64 0))]) (off := 0) 0 rfl rfl rfl rfl rfl rfl rfl (.tmp (v := (.v (.int .i64 2))) rfl .nil)) (.two (.cons (.p rfl) (.cons (.c (.v _)) .nil))))
  · replace h := cond_F hc1 h
    apply Runs.skip
    apply Runs.then
    apply Runs.then
    refine Runs.regionH 3 rfl H ?_; intro b4 σ H
    refine Ops.fieldAddrH (off := 0) (fo := 0) H 1 rfl rfl rfl rfl rfl nofun rfl ?_
    refine Ops.loadH (off := 0) (v := (.v (.int .i8 a.Inf))) H 1 rfl rfl rfl rfl rfl nofun rfl ?_
    refine Ops.int (m := a.Inf) (m' := 0) (r := .bool (a.Inf != 0)) rfl rfl rfl rfl rfl ?_
    apply Ops.nil
    replace H := H.all
    refine Runs.whether (v := (a.Inf != 0)) rfl ?_ ?_ <;> intro hc2
    · replace h := cond_T hc2 h
      apply Runs.then
      refine Runs.regionH 6 rfl H ?_; intro b5 σ H
      refine Ops.fieldAddrH (off := 0) (fo := 0) H 1 rfl rfl rfl rfl rfl nofun rfl ?_
      refine Ops.loadH (off := 0) (v := (.v (.int .i8 a.Inf))) H 1 rfl rfl rfl rfl rfl nofun rfl ?_
      refine Ops.int (m := 0) (m' := a.Inf) (r := .int .i8 (IntKind.i8.wrap (0 - a.Inf))) rfl rfl rfl rfl rfl ?_
      refine Ops.buildA (cs := [(.v (.int .i8 (IntKind.i8.wrap (0 - a.Inf)))), (.v (.int .i64 0))]) rfl rfl ?_
      refine Ops.storeH (off := 0) (v := (.agg [(.v (.int .i8 (IntKind.i8.wrap (0 - a.Inf)))), (.v (.int .i64 0))])) (ys := [(.v (.int .i8 (IntKind.i8.wrap (0 - a.Inf)))), (.v (.int .i64 0))]) (cells' := [(.v (.int .i8 (IntKind.i8.wrap (0 - a.Inf)))), (.v (.int .i64 0))]) H 0 rfl rfl rfl rfl rfl rfl rfl rfl rfl nofun ?_; intro σ H
      refine Ops.assign (v := (.v (.int .i64 0))) rfl rfl ?_
      apply Ops.nil
      replace H := H.all
      apply Runs.ret
      replace h := Option.some.inj h; subst h
      exact (Ends.H (xs := [(.agg [(.v (.int .i8 (IntKind.i8.wrap (0 - a.Inf)))), (.v (.int .i64 0))]), (.v (.int .i64 0))]) (.inr rfl) H (.agg (cs := [(.v (.int .i8 (IntKind.i8.wrap (0 - a.Inf)))), (.v (.int .i64 0))]) (off := 0) 0 rfl rfl rfl rfl rfl rfl rfl (.tmp (v := (.v (.int .i64 0))) rfl .nil)) (.two (.cons (.p rfl) (.cons (.c (.v _)) .nil))))
    · replace h := cond_F hc2 h
      apply Runs.skip
      apply Runs.then
      refine Runs.regionH 8 rfl H ?_; intro b6 σ H
      refine Ops.fieldAddrH (off := 0) (fo := 1) H 1 rfl rfl rfl rfl rfl nofun rfl ?_
      refine Ops.loadH (off := 1) (v := (.v (.int .i64 a.N))) H 1 rfl rfl rfl rfl rfl nofun rfl ?_
      obtain ⟨x1, q1, h⟩ := bind_some h
      refine Ops.call (ys := [(.v (.int .i64 0)), (.v (.int .i64 a.N))]) (r := (.tup [(.v (.int .i64 x1.1)), (.v (.int .i64 x1.2))])) rfl (epactref01_Sub_fn q1) rfl ?_
      refine Ops.move (v := (.tup [(.v (.int .i64 x1.1)), (.v (.int .i64 x1.2))])) rfl rfl ?_
      refine Ops.extract (v := (.v (.int .i64 x1.1))) rfl rfl rfl ?_
      refine Ops.extract (v := (.v (.int .i64 x1.2))) rfl rfl rfl ?_
      refine Ops.assign (v := (.v (.int .i64 x1.1))) rfl rfl ?_
      refine Ops.assign (v := (.v (.int .i64 x1.2))) rfl rfl ?_
      apply Ops.nil
      replace H := H.all
      apply Runs.then
      refine Runs.regionH 5 rfl H ?_; intro b7 σ H
      refine Ops.move (v := (.v (.int .i64 x1.1))) rfl rfl ?_
      refine Ops.buildA (cs := [(.v (.int .i8 0)), (.v (.int .i64 x1.1))]) rfl rfl ?_
      refine Ops.move (v := (.v (.int .i64 x1.2))) rfl rfl ?_
      refine Ops.storeH (off := 0) (v := (.agg [(.v (.int .i8 0)), (.v (.int .i64 x1.1))])) (ys := [(.v (.int .i8 0)), (.v (.int .i64 x1.1))]) (cells' := [(.v (.int .i8 0)), (.v (.int .i64 x1.1))]) H 0 rfl rfl rfl rfl rfl rfl rfl rfl rfl nofun ?_; intro σ H
      refine Ops.assign (v := (.v (.int .i64 x1.2))) rfl rfl ?_
      apply Ops.nil
      replace H := H.all
      apply Runs.ret
      replace h := Option.some.inj h; subst h
      exact (Ends.H (xs := [(.agg [(.v (.int .i8 0)), (.v (.int .i64 x1.1))]), (.v (.int .i64 x1.2))]) (.inr rfl) H (.agg (cs := [(.v (.int .i8 0)), (.v (.int .i64 x1.1))]) (off := 0) 0 rfl rfl rfl rfl rfl rfl rfl (.tmp (v := (.v (.int .i64 x1.2))) rfl .nil)) (.two (.cons (.p rfl) (.cons (.c (.v _)) .nil))))

set_option maxRecDepth 100000 in
set_option maxHeartbeats 4000000 in
theorem epactref01_Right_fn {a : Bound} {r : Bool} (h : epactref01_Right a = r) : Fn CX 32 [(.agg (vs (Bound.cs a)))] (.v (.bool r)) := by
  refine Fn.ends Try.func32 rfl rfl rfl rfl rfl rfl ?_
  have H : Hs (⟨0, fun _ => .none⟩ : Heap) [] := Has.nil (Nat.le_refl _)
  generalize (⟨0, fun _ => .none⟩ : Heap) = σ at H ⊢
  unfold epactref01_Right at h
  apply Runs.then
  refine Runs.regionH 2 rfl H ?_; intro b1 σ H
  refine Ops.boxH (v := (.agg [(.v (.int .i8 a.Inf)), (.v (.int .i64 a.N))])) (cs := [(.v (.int .i8 a.Inf)), (.v (.int .i64 a.N))]) H (by omega) (by omega) rfl rfl rfl ?_; intro σ H
  refine Ops.assign (v := (.v (.bool false))) rfl rfl ?_
  apply Ops.nil
  replace H := H.all
  apply Runs.then
  refine Runs.regionH 3 rfl H ?_; intro b2 σ H
  refine Ops.loadHA (off := 0) (cs := [(.v (.int .i8 a.Inf)), (.v (.int .i64 a.N))]) H 0 rfl rfl rfl rfl rfl rfl rfl nofun rfl ?_
  refine Ops.call (ys := [(.agg [(.v (.int .i8 a.Inf)), (.v (.int .i64 a.N))])]) (r := (.v (.bool (epactref01_right a)))) rfl (epactref01_right_fn rfl) rfl ?_
  refine Ops.assign (v := (.v (.bool (epactref01_right a)))) rfl rfl ?_
  apply Ops.nil
  replace H := H.all
  apply Runs.ret
  subst h
  exact (Ends.H (xs := [(.v (.bool (epactref01_right a)))]) (.inr rfl) H (.tmp (v := (.v (.bool (epactref01_right a)))) rfl .nil) (.one (.c (.v _))))

set_option maxRecDepth 100000 in
set_option maxHeartbeats 4000000 in
theorem safe_Less_fn {a : Bound} {b : Bound} {r : Bool} (h : safe_Less a b = r) : Fn CX 33 [(.agg (vs (Bound.cs a))), (.agg (vs (Bound.cs b)))] (.v (.bool r)) := by
  refine Fn.ends Try.func33 rfl rfl rfl rfl rfl rfl ?_
  have H : Hs (⟨0, fun _ => .none⟩ : Heap) [] := Has.nil (Nat.le_refl _)
  generalize (⟨0, fun _ => .none⟩ : Heap) = σ at H ⊢
  unfold safe_Less at h
  apply Runs.then
  refine Runs.regionH 3 rfl H ?_; intro b1 σ H
  refine Ops.boxH (v := (.agg [(.v (.int .i8 a.Inf)), (.v (.int .i64 a.N))])) (cs := [(.v (.int .i8 a.Inf)), (.v (.int .i64 a.N))]) H (by omega) (by omega) rfl rfl rfl ?_; intro σ H
  refine Ops.boxH (v := (.agg [(.v (.int .i8 b.Inf)), (.v (.int .i64 b.N))])) (cs := [(.v (.int .i8 b.Inf)), (.v (.int .i64 b.N))]) H (by omega) (by omega) rfl rfl rfl ?_; intro σ H
  refine Ops.assign (v := (.v (.bool false))) rfl rfl ?_
  apply Ops.nil
  replace H := H.all
  apply Runs.then
  apply Runs.inBlock
  apply Runs.then
  refine Runs.regionH 9 rfl H ?_; intro b2 σ H
  refine Ops.loadHA (off := 0) (cs := [(.v (.int .i8 a.Inf)), (.v (.int .i64 a.N))]) H 1 rfl rfl rfl rfl rfl rfl rfl nofun rfl ?_
  refine Ops.call (ys := [(.agg [(.v (.int .i8 a.Inf)), (.v (.int .i64 a.N))])]) (r := (.v (.bool (safe_Right a)))) rfl (safe_Right_fn rfl) rfl ?_
  refine Ops.not (b := (safe_Right a)) rfl rfl ?_
  refine Ops.move (v := (.v (.bool (!(safe_Right a))))) rfl rfl ?_
  refine Ops.mid 4 (K1 := fun e σ => EnvHas e [(13, (.v (.bool ((!(safe_Right a)) || (!(safe_Right b)))))), (2, (.ptr (b1 + 0) 2 0)), (3, (.ptr (b1 + 1) 2 0))] ∧ Has σ (b2 + 8) (b2 + 9) [.blk (b1 + 1) 32 [(.v (.int .i8 b.Inf)), (.v (.int .i64 b.N))], .blk (b1 + 0) 32 [(.v (.int .i8 a.Inf)), (.v (.int .i64 a.N))]]) rfl ?_ ?_
  · refine Ops.split rfl rfl ?_ ?_ <;> intro hc1
    · skip
      refine Ops.pass rfl rfl rfl ?_
      refine Ops.pass rfl rfl rfl ?_
      refine Ops.pass rfl rfl rfl ?_
      refine Ops.pickT (v := (.v (.bool true))) rfl rfl rfl ?_
      apply Ops.nil
      exact ⟨⟨or_T hc1, rfl, rfl, trivial⟩, H.weak (by omega) (Nat.le_refl _)⟩
    · skip
      refine Ops.wanted rfl rfl ?_
      refine Ops.loadHA (off := 0) (cs := [(.v (.int .i8 b.Inf)), (.v (.int .i64 b.N))]) H 0 rfl rfl rfl rfl rfl rfl rfl nofun rfl ?_
      refine Ops.wanted rfl rfl ?_
      refine Ops.call (ys := [(.agg [(.v (.int .i8 b.Inf)), (.v (.int .i64 b.N))])]) (r := (.v (.bool (safe_Right b)))) rfl (safe_Right_fn rfl) rfl ?_
      refine Ops.wanted rfl rfl ?_
      refine Ops.not (b := (safe_Right b)) rfl rfl ?_
      refine Ops.pickF (v := (.v (.bool (!(safe_Right b))))) rfl rfl rfl ?_
      apply Ops.nil
      exact ⟨⟨or_F hc1, rfl, rfl, trivial⟩, H.weak (by omega) (Nat.le_refl _)⟩
  · rintro e σ ⟨he, H⟩
    obtain ⟨e, rfl⟩ := he.ex
    refine Ops.assign (v := (.v (.bool ((!(safe_Right a)) || (!(safe_Right b)))))) rfl rfl ?_
    apply Ops.nil
    replace H := H.all
    refine Runs.whether (v := ((!(safe_Right a)) || (!(safe_Right b)))) rfl ?_ ?_ <;> intro hc2
    · replace h := cond_T hc2 h
      apply Runs.then
      refine Runs.regionH 1 rfl H ?_; intro b3 σ H
      refine Ops.assign (v := (.v (.bool false))) rfl rfl ?_
      apply Ops.nil
      replace H := H.all
      apply Runs.ret
      subst h
      exact (Ends.H (xs := [(.v (.bool false))]) (.inr rfl) H (.tmp (v := (.v (.bool false))) rfl .nil) (.one (.c (.v _))))
    · replace h := cond_F hc2 h
      apply Runs.then
      refine Runs.regionH 6 rfl H ?_; intro b4 σ H
      refine Ops.fieldAddrH (off := 0) (fo := 0) H 1 rfl rfl rfl rfl rfl nofun rfl ?_
      refine Ops.loadH (off := 0) (v := (.v (.int .i8 a.Inf))) H 1 rfl rfl rfl rfl rfl nofun rfl ?_
      refine Ops.fieldAddrH (off := 0) (fo := 0) H 0 rfl rfl rfl rfl rfl nofun rfl ?_
      refine Ops.loadH (off := 0) (v := (.v (.int .i8 b.Inf))) H 0 rfl rfl rfl rfl rfl nofun rfl ?_
      refine Ops.int (m := a.Inf) (m' := b.Inf) (r := .bool (a.Inf != b.Inf)) rfl rfl rfl rfl rfl ?_
      refine Ops.assign (v := (.v (.bool (a.Inf != b.Inf)))) rfl rfl ?_
      apply Ops.nil
      replace H := H.all
      refine Runs.whether (v := (a.Inf != b.Inf)) rfl ?_ ?_ <;> intro hc3
      · replace h := cond_T hc3 h
        apply Runs.then
        refine Runs.regionH 6 rfl H ?_; intro b5 σ H
        refine Ops.fieldAddrH (off := 0) (fo := 0) H 1 rfl rfl rfl rfl rfl nofun rfl ?_
        refine Ops.loadH (off := 0) (v := (.v (.int .i8 a.Inf))) H 1 rfl rfl rfl rfl rfl nofun rfl ?_
        refine Ops.fieldAddrH (off := 0) (fo := 0) H 0 rfl rfl rfl rfl rfl nofun rfl ?_
        refine Ops.loadH (off := 0) (v := (.v (.int .i8 b.Inf))) H 0 rfl rfl rfl rfl rfl nofun rfl ?_
        refine Ops.int (m := a.Inf) (m' := b.Inf) (r := .bool (decide (a.Inf < b.Inf))) rfl rfl rfl rfl rfl ?_
        refine Ops.assign (v := (.v (.bool (decide (a.Inf < b.Inf))))) rfl rfl ?_
        apply Ops.nil
        replace H := H.all
        apply Runs.ret
        subst h
        exact (Ends.H (xs := [(.v (.bool (decide (a.Inf < b.Inf))))]) (.inr rfl) H (.tmp (v := (.v (.bool (decide (a.Inf < b.Inf))))) rfl .nil) (.one (.c (.v _))))
      · replace h := cond_F hc3 h
        apply Runs.skip
        apply Runs.then
        refine Runs.regionH 6 rfl H ?_; intro b6 σ H
        refine Ops.fieldAddrH (off := 0) (fo := 1) H 1 rfl rfl rfl rfl rfl nofun rfl ?_
        refine Ops.loadH (off := 1) (v := (.v (.int .i64 a.N))) H 1 rfl rfl rfl rfl rfl nofun rfl ?_
        refine Ops.fieldAddrH (off := 0) (fo := 1) H 0 rfl rfl rfl rfl rfl nofun rfl ?_
        refine Ops.loadH (off := 1) (v := (.v (.int .i64 b.N))) H 0 rfl rfl rfl rfl rfl nofun rfl ?_
        refine Ops.int (m := a.N) (m' := b.N) (r := .bool (decide (a.N < b.N))) rfl rfl rfl rfl rfl ?_
        refine Ops.assign (v := (.v (.bool (decide (a.N < b.N))))) rfl rfl ?_
        apply Ops.nil
        replace H := H.all
        apply Runs.ret
        subst h
        exact (Ends.H (xs := [(.v (.bool (decide (a.N < b.N))))]) (.inr rfl) H (.tmp (v := (.v (.bool (decide (a.N < b.N))))) rfl .nil) (.one (.c (.v _))))

set_option maxRecDepth 100000 in
set_option maxHeartbeats 4000000 in
theorem epactref01_Less_fn {a : Bound} {b : Bound} {r : Bool} (h : epactref01_Less a b = r) : Fn CX 34 [(.agg (vs (Bound.cs a))), (.agg (vs (Bound.cs b)))] (.v (.bool r)) := by
  refine Fn.ends Try.func34 rfl rfl rfl rfl rfl rfl ?_
  have H : Hs (⟨0, fun _ => .none⟩ : Heap) [] := Has.nil (Nat.le_refl _)
  generalize (⟨0, fun _ => .none⟩ : Heap) = σ at H ⊢
  unfold epactref01_Less at h
  apply Runs.then
  refine Runs.regionH 3 rfl H ?_; intro b1 σ H
  refine Ops.boxH (v := (.agg [(.v (.int .i8 a.Inf)), (.v (.int .i64 a.N))])) (cs := [(.v (.int .i8 a.Inf)), (.v (.int .i64 a.N))]) H (by omega) (by omega) rfl rfl rfl ?_; intro σ H
  refine Ops.boxH (v := (.agg [(.v (.int .i8 b.Inf)), (.v (.int .i64 b.N))])) (cs := [(.v (.int .i8 b.Inf)), (.v (.int .i64 b.N))]) H (by omega) (by omega) rfl rfl rfl ?_; intro σ H
  refine Ops.assign (v := (.v (.bool false))) rfl rfl ?_
  apply Ops.nil
  replace H := H.all
  apply Runs.then
  apply Runs.then
  refine Runs.regionH 8 rfl H ?_; intro b2 σ H
  refine Ops.loadHA (off := 0) (cs := [(.v (.int .i8 a.Inf)), (.v (.int .i64 a.N))]) H 1 rfl rfl rfl rfl rfl rfl rfl nofun rfl ?_
  refine Ops.call (ys := [(.agg [(.v (.int .i8 a.Inf)), (.v (.int .i64 a.N))])]) (r := (.v (.bool (epactref01_right a)))) rfl (epactref01_right_fn rfl) rfl ?_
  refine Ops.not (b := (epactref01_right a)) rfl rfl ?_
  refine Ops.move (v := (.v (.bool (!(epactref01_right a))))) rfl rfl ?_
  refine Ops.mid 4 (K1 := fun e σ => EnvHas e [(12, (.v (.bool ((!(epactref01_right a)) || (!(epactref01_right b)))))), (2, (.ptr (b1 + 0) 2 0)), (3, (.ptr (b1 + 1) 2 0))] ∧ Has σ (b2 + 8) (b2 + 8) [.blk (b1 + 1) 32 [(.v (.int .i8 b.Inf)), (.v (.int .i64 b.N))], .blk (b1 + 0) 32 [(.v (.int .i8 a.Inf)), (.v (.int .i64 a.N))]]) rfl ?_ ?_
  · refine Ops.split rfl rfl ?_ ?_ <;> intro hc1
    · skip
      refine Ops.pass rfl rfl rfl ?_
      refine Ops.pass rfl rfl rfl ?_
      refine Ops.pass rfl rfl rfl ?_
      refine Ops.pickT (v := (.v (.bool true))) rfl rfl rfl ?_
      apply Ops.nil
      exact ⟨⟨or_T hc1, rfl, rfl, trivial⟩, H.weak (by omega) (Nat.le_refl _)⟩
    · skip
      refine Ops.wanted rfl rfl ?_
      refine Ops.loadHA (off := 0) (cs := [(.v (.int .i8 b.Inf)), (.v (.int .i64 b.N))]) H 0 rfl rfl rfl rfl rfl rfl rfl nofun rfl ?_
      refine Ops.wanted rfl rfl ?_
      refine Ops.call (ys := [(.agg [(.v (.int .i8 b.Inf)), (.v (.int .i64 b.N))])]) (r := (.v (.bool (epactref01_right b)))) rfl (epactref01_right_fn rfl) rfl ?_
      refine Ops.wanted rfl rfl ?_
      refine Ops.not (b := (epactref01_right b)) rfl rfl ?_
      refine Ops.pickF (v := (.v (.bool (!(epactref01_right b))))) rfl rfl rfl ?_
      apply Ops.nil
      exact ⟨⟨or_F hc1, rfl, rfl, trivial⟩, H.weak (by omega) (Nat.le_refl _)⟩
  · rintro e σ ⟨he, H⟩
    obtain ⟨e, rfl⟩ := he.ex
    apply Ops.nil
    replace H := H.all
    refine Runs.whether (v := ((!(epactref01_right a)) || (!(epactref01_right b)))) rfl ?_ ?_ <;> intro hc2
    · replace h := cond_T hc2 h
      apply Runs.then
      refine Runs.regionH 1 rfl H ?_; intro b3 σ H
      refine Ops.assign (v := (.v (.bool false))) rfl rfl ?_
      apply Ops.nil
      replace H := H.all
      apply Runs.ret
      subst h
      exact (Ends.H (xs := [(.v (.bool false))]) (.inr rfl) H (.tmp (v := (.v (.bool false))) rfl .nil) (.one (.c (.v _))))
    · replace h := cond_F hc2 h
      apply Runs.skip
      apply Runs.then
      apply Runs.then
      refine Runs.regionH 8 rfl H ?_; intro b4 σ H
      refine Ops.fieldAddrH (off := 0) (fo := 0) H 1 rfl rfl rfl rfl rfl nofun rfl ?_
      refine Ops.loadH (off := 0) (v := (.v (.int .i8 a.Inf))) H 1 rfl rfl rfl rfl rfl nofun rfl ?_
      refine Ops.int (m := a.Inf) (m' := 0) (r := .bool (a.Inf == 0)) rfl rfl rfl rfl rfl ?_
      refine Ops.move (v := (.v (.bool (a.Inf == 0)))) rfl rfl ?_
      refine Ops.mid 4 (K1 := fun e σ => EnvHas e [(20, (.v (.bool ((a.Inf == 0) && (b.Inf == 0))))), (2, (.ptr (b1 + 0) 2 0)), (3, (.ptr (b1 + 1) 2 0))] ∧ Has σ (b4 + 8) (b4 + 8) [.blk (b1 + 1) 32 [(.v (.int .i8 b.Inf)), (.v (.int .i64 b.N))], .blk (b1 + 0) 32 [(.v (.int .i8 a.Inf)), (.v (.int .i64 a.N))]]) rfl ?_ ?_
      · refine Ops.split rfl rfl ?_ ?_ <;> intro hc3
        · skip
          refine Ops.wanted rfl rfl ?_
          refine Ops.fieldAddrH (off := 0) (fo := 0) H 0 rfl rfl rfl rfl rfl nofun rfl ?_
          refine Ops.wanted rfl rfl ?_
          refine Ops.loadH (off := 0) (v := (.v (.int .i8 b.Inf))) H 0 rfl rfl rfl rfl rfl nofun rfl ?_
          refine Ops.wanted rfl rfl ?_
          refine Ops.int (m := b.Inf) (m' := 0) (r := .bool (b.Inf == 0)) rfl rfl rfl rfl rfl ?_
          refine Ops.pickT (v := (.v (.bool (b.Inf == 0)))) rfl rfl rfl ?_
          apply Ops.nil
          exact ⟨⟨and_T hc3, rfl, rfl, trivial⟩, H.weak (by omega) (Nat.le_refl _)⟩
        · skip
          refine Ops.pass rfl rfl rfl ?_
          refine Ops.pass rfl rfl rfl ?_
          refine Ops.pass rfl rfl rfl ?_
          refine Ops.pickF (v := (.v (.bool false))) rfl rfl rfl ?_
          apply Ops.nil
          exact ⟨⟨and_F hc3, rfl, rfl, trivial⟩, H.weak (by omega) (Nat.le_refl _)⟩
      · rintro e σ ⟨he, H⟩
        obtain ⟨e, rfl⟩ := he.ex
        apply Ops.nil
        replace H := H.all
        refine Runs.whether (v := ((a.Inf == 0) && (b.Inf == 0))) rfl ?_ ?_ <;> intro hc4
        · replace h := cond_T hc4 h
          apply Runs.then
          refine Runs.regionH 6 rfl H ?_; intro b5 σ H
          refine Ops.fieldAddrH (off := 0) (fo := 1) H 1 rfl rfl rfl rfl rfl nofun rfl ?_
          refine Ops.loadH (off := 1) (v := (.v (.int .i64 a.N))) H 1 rfl rfl rfl rfl rfl nofun rfl ?_
          refine Ops.fieldAddrH (off := 0) (fo := 1) H 0 rfl rfl rfl rfl rfl nofun rfl ?_
          refine Ops.loadH (off := 1) (v := (.v (.int .i64 b.N))) H 0 rfl rfl rfl rfl rfl nofun rfl ?_
          refine Ops.int (m := a.N) (m' := b.N) (r := .bool (decide (a.N < b.N))) rfl rfl rfl rfl rfl ?_
          refine Ops.assign (v := (.v (.bool (decide (a.N < b.N))))) rfl rfl ?_
          apply Ops.nil
          replace H := H.all
          apply Runs.ret
          subst h
          exact (Ends.H (xs := [(.v (.bool (decide (a.N < b.N))))]) (.inr rfl) H (.tmp (v := (.v (.bool (decide (a.N < b.N))))) rfl .nil) (.one (.c (.v _))))
        · replace h := cond_F hc4 h
          apply Runs.skip
          apply Runs.then
          refine Runs.regionH 6 rfl H ?_; intro b6 σ H
          refine Ops.fieldAddrH (off := 0) (fo := 0) H 1 rfl rfl rfl rfl rfl nofun rfl ?_
          refine Ops.loadH (off := 0) (v := (.v (.int .i8 a.Inf))) H 1 rfl rfl rfl rfl rfl nofun rfl ?_
          refine Ops.fieldAddrH (off := 0) (fo := 0) H 0 rfl rfl rfl rfl rfl nofun rfl ?_
          refine Ops.loadH (off := 0) (v := (.v (.int .i8 b.Inf))) H 0 rfl rfl rfl rfl rfl nofun rfl ?_
          refine Ops.int (m := a.Inf) (m' := b.Inf) (r := .bool (decide (a.Inf < b.Inf))) rfl rfl rfl rfl rfl ?_
          refine Ops.assign (v := (.v (.bool (decide (a.Inf < b.Inf))))) rfl rfl ?_
          apply Ops.nil
          replace H := H.all
          apply Runs.ret
          subst h
          exact (Ends.H (xs := [(.v (.bool (decide (a.Inf < b.Inf))))]) (.inr rfl) H (.tmp (v := (.v (.bool (decide (a.Inf < b.Inf))))) rfl .nil) (.one (.c (.v _))))

set_option maxRecDepth 100000 in
set_option maxHeartbeats 4000000 in
theorem epactlaw01_SafeBounds_fn {a : Bound} {b : Bound} {r : Bool} (h : epactlaw01_SafeBounds a b = some r) : Fn CX 7 [(.agg (vs (Bound.cs a))), (.agg (vs (Bound.cs b)))] (.v (.bool r)) := by
  refine Fn.ends Try.func7 rfl rfl rfl rfl rfl rfl ?_
  have H : Hs (⟨0, fun _ => .none⟩ : Heap) [] := Has.nil (Nat.le_refl _)
  generalize (⟨0, fun _ => .none⟩ : Heap) = σ at H ⊢
  unfold epactlaw01_SafeBounds at h
  apply Runs.then
  refine Runs.regionH 3 rfl H ?_; intro b1 σ H
  refine Ops.boxH (v := (.agg [(.v (.int .i8 a.Inf)), (.v (.int .i64 a.N))])) (cs := [(.v (.int .i8 a.Inf)), (.v (.int .i64 a.N))]) H (by omega) (by omega) rfl rfl rfl ?_; intro σ H
  refine Ops.boxH (v := (.agg [(.v (.int .i8 b.Inf)), (.v (.int .i64 b.N))])) (cs := [(.v (.int .i8 b.Inf)), (.v (.int .i64 b.N))]) H (by omega) (by omega) rfl rfl rfl ?_; intro σ H
  refine Ops.assign (v := (.v (.bool false))) rfl rfl ?_
  apply Ops.nil
  replace H := H.all
  apply Runs.then
  refine Runs.regionH 9 rfl H ?_; intro b2 σ H
  refine Ops.loadHA (off := 0) (cs := [(.v (.int .i8 a.Inf)), (.v (.int .i64 a.N))]) H 1 rfl rfl rfl rfl rfl rfl rfl nofun rfl ?_
  refine Ops.loadHA (off := 0) (cs := [(.v (.int .i8 b.Inf)), (.v (.int .i64 b.N))]) H 0 rfl rfl rfl rfl rfl rfl rfl nofun rfl ?_
  refine Ops.call (ys := [(.agg [(.v (.int .i8 a.Inf)), (.v (.int .i64 a.N))]), (.agg [(.v (.int .i8 b.Inf)), (.v (.int .i64 b.N))])]) (r := (.tup [(.agg [(.v (.int .i8 (safe_Sum a b).1.Inf)), (.v (.int .i64 (safe_Sum a b).1.N))]), (.v (.int .i64 (safe_Sum a b).2))])) rfl (safe_Sum_fn rfl) rfl ?_
  refine Ops.move (v := (.tup [(.agg [(.v (.int .i8 (safe_Sum a b).1.Inf)), (.v (.int .i64 (safe_Sum a b).1.N))]), (.v (.int .i64 (safe_Sum a b).2))])) rfl rfl ?_
  refine Ops.extract (v := (.agg [(.v (.int .i8 (safe_Sum a b).1.Inf)), (.v (.int .i64 (safe_Sum a b).1.N))])) rfl rfl rfl ?_
  refine Ops.extract (v := (.v (.int .i64 (safe_Sum a b).2))) rfl rfl rfl ?_
  refine Ops.allocH (cs := [(.v (.int .i8 0)), (.v (.int .i64 0))]) H (by omega) (by omega) rfl rfl ?_; intro σ H
  refine Ops.storeH (off := 0) (v := (.agg [(.v (.int .i8 (safe_Sum a b).1.Inf)), (.v (.int .i64 (safe_Sum a b).1.N))])) (ys := [(.v (.int .i8 (safe_Sum a b).1.Inf)), (.v (.int .i64 (safe_Sum a b).1.N))]) (cells' := [(.v (.int .i8 (safe_Sum a b).1.Inf)), (.v (.int .i64 (safe_Sum a b).1.N))]) H 0 rfl rfl rfl rfl rfl rfl rfl rfl rfl nofun ?_; intro σ H
  refine Ops.assign (v := (.v (.int .i64 (safe_Sum a b).2))) rfl rfl ?_
  apply Ops.nil
  replace H := H.all
  apply Runs.then
  refine Runs.regionH 9 rfl H ?_; intro b3 σ H
  refine Ops.loadHA (off := 0) (cs := [(.v (.int .i8 a.Inf)), (.v (.int .i64 a.N))]) H 2 rfl rfl rfl rfl rfl rfl rfl nofun rfl ?_
  refine Ops.loadHA (off := 0) (cs := [(.v (.int .i8 b.Inf)), (.v (.int .i64 b.N))]) H 1 rfl rfl rfl rfl rfl rfl rfl nofun rfl ?_
  obtain ⟨x1, q1, h⟩ := bind_some h
  refine Ops.call (ys := [(.agg [(.v (.int .i8 a.Inf)), (.v (.int .i64 a.N))]), (.agg [(.v (.int .i8 b.Inf)), (.v (.int .i64 b.N))])]) (r := (.tup [(.agg [(.v (.int .i8 x1.1.Inf)), (.v (.int .i64 x1.1.N))]), (.v (.int .i64 x1.2))])) rfl (epactref01_Sum_fn q1) rfl ?_
  refine Ops.move (v := (.tup [(.agg [(.v (.int .i8 x1.1.Inf)), (.v (.int .i64 x1.1.N))]), (.v (.int .i64 x1.2))])) rfl rfl ?_
  refine Ops.extract (v := (.agg [(.v (.int .i8 x1.1.Inf)), (.v (.int .i64 x1.1.N))])) rfl rfl rfl ?_
  refine Ops.extract (v := (.v (.int .i64 x1.2))) rfl rfl rfl ?_
  refine Ops.allocH (cs := [(.v (.int .i8 0)), (.v (.int .i64 0))]) H (by omega) (by omega) rfl rfl ?_; intro σ H
  refine Ops.storeH (off := 0) (v := (.agg [(.v (.int .i8 x1.1.Inf)), (.v (.int .i64 x1.1.N))])) (ys := [(.v (.int .i8 x1.1.Inf)), (.v (.int .i64 x1.1.N))]) (cells' := [(.v (.int .i8 x1.1.Inf)), (.v (.int .i64 x1.1.N))]) H 0 rfl rfl rfl rfl rfl rfl rfl rfl rfl nofun ?_; intro σ H
  refine Ops.assign (v := (.v (.int .i64 x1.2))) rfl rfl ?_
  apply Ops.nil
  replace H := H.all
  apply Runs.then
  refine Runs.regionH 8 rfl H ?_; intro b4 σ H
  refine Ops.loadHA (off := 0) (cs := [(.v (.int .i8 a.Inf)), (.v (.int .i64 a.N))]) H 3 rfl rfl rfl rfl rfl rfl rfl nofun rfl ?_
  refine Ops.call (ys := [(.agg [(.v (.int .i8 a.Inf)), (.v (.int .i64 a.N))])]) (r := (.tup [(.agg [(.v (.int .i8 (safe_Minus a).1.Inf)), (.v (.int .i64 (safe_Minus a).1.N))]), (.v (.int .i64 (safe_Minus a).2))])) rfl (safe_Minus_fn rfl) rfl ?_
  refine Ops.move (v := (.tup [(.agg [(.v (.int .i8 (safe_Minus a).1.Inf)), (.v (.int .i64 (safe_Minus a).1.N))]), (.v (.int .i64 (safe_Minus a).2))])) rfl rfl ?_
  refine Ops.extract (v := (.agg [(.v (.int .i8 (safe_Minus a).1.Inf)), (.v (.int .i64 (safe_Minus a).1.N))])) rfl rfl rfl ?_
  refine Ops.extract (v := (.v (.int .i64 (safe_Minus a).2))) rfl rfl rfl ?_
  refine Ops.allocH (cs := [(.v (.int .i8 0)), (.v (.int .i64 0))]) H (by omega) (by omega) rfl rfl ?_; intro σ H
  refine Ops.storeH (off := 0) (v := (.agg [(.v (.int .i8 (safe_Minus a).1.Inf)), (.v (.int .i64 (safe_Minus a).1.N))])) (ys := [(.v (.int .i8 (safe_Minus a).1.Inf)), (.v (.int .i64 (safe_Minus a).1.N))]) (cells' := [(.v (.int .i8 (safe_Minus a).1.Inf)), (.v (.int .i64 (safe_Minus a).1.N))]) H 0 rfl rfl rfl rfl rfl rfl rfl rfl rfl nofun ?_; intro σ H
  refine Ops.assign (v := (.v (.int .i64 (safe_Minus a).2))) rfl rfl ?_
  apply Ops.nil
  replace H := H.all
  apply Runs.then
  refine Runs.regionH 8 rfl H ?_; intro b5 σ H
  refine Ops.loadHA (off := 0) (cs := [(.v (.int .i8 a.Inf)), (.v (.int .i64 a.N))]) H 4 rfl rfl rfl rfl rfl rfl rfl nofun rfl ?_
  obtain ⟨x2, q2, h⟩ := bind_some h
  refine Ops.call (ys := [(.agg [(.v (.int .i8 a.Inf)), (.v (.int .i64 a.N))])]) (r := (.tup [(.agg [(.v (.int .i8 x2.1.Inf)), (.v (.int .i64 x2.1.N))]), (.v (.int .i64 x2.2))])) rfl (epactref01_Minus_fn q2) rfl ?_
  refine Ops.move (v := (.tup [(.agg [(.v (.int .i8 x2.1.Inf)), (.v (.int .i64 x2.1.N))]), (.v (.int .i64 x2.2))])) rfl rfl ?_
  refine Ops.extract (v := (.agg [(.v (.int .i8 x2.1.Inf)), (.v (.int .i64 x2.1.N))])) rfl rfl rfl ?_
  refine Ops.extract (v := (.v (.int .i64 x2.2))) rfl rfl rfl ?_
  refine Ops.allocH (cs := [(.v (.int .i8 0)), (.v (.int .i64 0))]) H (by omega) (by omega) rfl rfl ?_; intro σ H
  refine Ops.storeH (off := 0) (v := (.agg [(.v (.int .i8 x2.1.Inf)), (.v (.int .i64 x2.1.N))])) (ys := [(.v (.int .i8 x2.1.Inf)), (.v (.int .i64 x2.1.N))]) (cells' := [(.v (.int .i8 x2.1.Inf)), (.v (.int .i64 x2.1.N))]) H 0 rfl rfl rfl rfl rfl rfl rfl rfl rfl nofun ?_; intro σ H
  refine Ops.assign (v := (.v (.int .i64 x2.2))) rfl rfl ?_
  apply Ops.nil
  replace H := H.all
  apply Runs.then
  refine Runs.drawnH 38 rfl (by kernel_rfl) H ?_; intro b6 σ H B6
  refine Ops.loadHA (off := 0) (cs := [(.v (.int .i8 (safe_Sum a b).1.Inf)), (.v (.int .i64 (safe_Sum a b).1.N))]) H 3 rfl rfl rfl rfl rfl rfl rfl (fun _ => .inl ⟨B6 3 _ rfl _ rfl, nofun⟩) rfl ?_
  refine Ops.loadHA (off := 0) (cs := [(.v (.int .i8 x1.1.Inf)), (.v (.int .i64 x1.1.N))]) H 2 rfl rfl rfl rfl rfl rfl rfl (fun _ => .inl ⟨B6 2 _ rfl _ rfl, nofun⟩) rfl ?_
  refine Ops.binA (u := (.agg [(.v (.int .i8 (safe_Sum a b).1.Inf)), (.v (.int .i64 (safe_Sum a b).1.N))])) (w := (.agg [(.v (.int .i8 x1.1.Inf)), (.v (.int .i64 x1.1.N))])) (r := .bool ((((safe_Sum a b).1.Inf) == x1.1.Inf) && ((((safe_Sum a b).1.N) == x1.1.N) && true))) rfl rfl (by kernel_rfl) (fun _ => ask_eqA rfl rfl rfl rfl) rfl ?_
  refine Ops.move (v := (.v (.bool ((((safe_Sum a b).1.Inf) == x1.1.Inf) && ((((safe_Sum a b).1.N) == x1.1.N) && true))))) rfl rfl ?_
  refine Ops.mid 4 (K1 := fun e σ => EnvHas e [(42, (.v (.bool (((((safe_Sum a b).1.Inf) == x1.1.Inf) && ((((safe_Sum a b).1.N) == x1.1.N) && true)) && (((safe_Sum a b).2) == x1.2))))), (2, (.ptr (b1 + 0) 2 0)), (3, (.ptr (b1 + 1) 2 0)), (9, (.ptr (b4 + 5) 2 0)), (10, (.v (.int .i64 (safe_Minus a).2))), (11, (.ptr (b5 + 5) 2 0)), (12, (.v (.int .i64 x2.2)))] ∧ Has σ (b6 + 8) (b6 + 38) [.blk (b5 + 5) 32 [(.v (.int .i8 x2.1.Inf)), (.v (.int .i64 x2.1.N))], .blk (b4 + 5) 32 [(.v (.int .i8 (safe_Minus a).1.Inf)), (.v (.int .i64 (safe_Minus a).1.N))], .blk (b1 + 1) 32 [(.v (.int .i8 b.Inf)), (.v (.int .i64 b.N))], .blk (b1 + 0) 32 [(.v (.int .i8 a.Inf)), (.v (.int .i64 a.N))]]) rfl ?_ ?_
  · refine Ops.split rfl rfl ?_ ?_ <;> intro hc1
    · skip
      refine Ops.wanted rfl rfl ?_
      refine Ops.move (v := (.v (.int .i64 (safe_Sum a b).2))) rfl rfl ?_
      refine Ops.wanted rfl rfl ?_
      refine Ops.move (v := (.v (.int .i64 x1.2))) rfl rfl ?_
      refine Ops.wanted rfl rfl ?_
      refine Ops.int (m := (safe_Sum a b).2) (m' := x1.2) (r := .bool (((safe_Sum a b).2) == x1.2)) rfl rfl rfl rfl rfl ?_
      refine Ops.pickT (v := (.v (.bool (((safe_Sum a b).2) == x1.2)))) rfl rfl rfl ?_
      apply Ops.nil
      exact ⟨⟨and_T hc1, rfl, rfl, rfl, rfl, rfl, rfl, trivial⟩, ((H.erase 3).erase 2).weak (by omega) (Nat.le_refl _)⟩
    · skip
      refine Ops.pass rfl rfl rfl ?_
      refine Ops.pass rfl rfl rfl ?_
      refine Ops.pass rfl rfl rfl ?_
      refine Ops.pickF (v := (.v (.bool false))) rfl rfl rfl ?_
      apply Ops.nil
      exact ⟨⟨and_F hc1, rfl, rfl, rfl, rfl, rfl, rfl, trivial⟩, ((H.erase 3).erase 2).weak (by omega) (Nat.le_refl _)⟩
  · rintro e σ ⟨he, H⟩
    obtain ⟨e, rfl⟩ := he.ex
    refine Ops.move (v := (.v (.bool (((((safe_Sum a b).1.Inf) == x1.1.Inf) && ((((safe_Sum a b).1.N) == x1.1.N) && true)) && (((safe_Sum a b).2) == x1.2))))) rfl rfl ?_
    refine Ops.mid 4 (K1 := fun e σ => EnvHas e [(47, (.v (.bool ((((((safe_Sum a b).1.Inf) == x1.1.Inf) && ((((safe_Sum a b).1.N) == x1.1.N) && true)) && (((safe_Sum a b).2) == x1.2)) && ((((safe_Minus a).1.Inf) == x2.1.Inf) && ((((safe_Minus a).1.N) == x2.1.N) && true)))))), (2, (.ptr (b1 + 0) 2 0)), (3, (.ptr (b1 + 1) 2 0)), (10, (.v (.int .i64 (safe_Minus a).2))), (12, (.v (.int .i64 x2.2)))] ∧ Has σ (b6 + 13) (b6 + 38) [.blk (b1 + 1) 32 [(.v (.int .i8 b.Inf)), (.v (.int .i64 b.N))], .blk (b1 + 0) 32 [(.v (.int .i8 a.Inf)), (.v (.int .i64 a.N))]]) rfl ?_ ?_
    · refine Ops.split rfl rfl ?_ ?_ <;> intro hc2
      · skip
        refine Ops.wanted rfl rfl ?_
        refine Ops.loadHA (off := 0) (cs := [(.v (.int .i8 (safe_Minus a).1.Inf)), (.v (.int .i64 (safe_Minus a).1.N))]) H 1 rfl rfl rfl rfl rfl rfl rfl (fun _ => .inl ⟨B6 1 _ rfl _ rfl, nofun⟩) rfl ?_
        refine Ops.wanted rfl rfl ?_
        refine Ops.loadHA (off := 0) (cs := [(.v (.int .i8 x2.1.Inf)), (.v (.int .i64 x2.1.N))]) H 0 rfl rfl rfl rfl rfl rfl rfl (fun _ => .inl ⟨B6 0 _ rfl _ rfl, nofun⟩) rfl ?_
        refine Ops.wanted rfl rfl ?_
        refine Ops.binA (u := (.agg [(.v (.int .i8 (safe_Minus a).1.Inf)), (.v (.int .i64 (safe_Minus a).1.N))])) (w := (.agg [(.v (.int .i8 x2.1.Inf)), (.v (.int .i64 x2.1.N))])) (r := .bool ((((safe_Minus a).1.Inf) == x2.1.Inf) && ((((safe_Minus a).1.N) == x2.1.N) && true))) rfl rfl (by kernel_rfl) (fun _ => ask_eqA rfl rfl rfl rfl) rfl ?_
        refine Ops.pickT (v := (.v (.bool ((((safe_Minus a).1.Inf) == x2.1.Inf) && ((((safe_Minus a).1.N) == x2.1.N) && true))))) rfl rfl rfl ?_
        apply Ops.nil
        exact ⟨⟨and_T hc2, rfl, rfl, rfl, rfl, trivial⟩, ((H.erase 1).erase 0).weak (by omega) (Nat.le_refl _)⟩
      · skip
        refine Ops.pass rfl rfl rfl ?_
        refine Ops.pass rfl rfl rfl ?_
        refine Ops.pass rfl rfl rfl ?_
        refine Ops.pickF (v := (.v (.bool false))) rfl rfl rfl ?_
        apply Ops.nil
        exact ⟨⟨and_F hc2, rfl, rfl, rfl, rfl, trivial⟩, ((H.erase 1).erase 0).weak (by omega) (Nat.le_refl _)⟩
    · rintro e σ ⟨he, H⟩
      obtain ⟨e, rfl⟩ := he.ex
      refine Ops.move (v := (.v (.bool ((((((safe_Sum a b).1.Inf) == x1.1.Inf) && ((((safe_Sum a b).1.N) == x1.1.N) && true)) && (((safe_Sum a b).2) == x1.2)) && ((((safe_Minus a).1.Inf) == x2.1.Inf) && ((((safe_Minus a).1.N) == x2.1.N) && true)))))) rfl rfl ?_
      refine Ops.mid 4 (K1 := fun e σ => EnvHas e [(52, (.v (.bool (((((((safe_Sum a b).1.Inf) == x1.1.Inf) && ((((safe_Sum a b).1.N) == x1.1.N) && true)) && (((safe_Sum a b).2) == x1.2)) && ((((safe_Minus a).1.Inf) == x2.1.Inf) && ((((safe_Minus a).1.N) == x2.1.N) && true))) && (((safe_Minus a).2) == x2.2))))), (2, (.ptr (b1 + 0) 2 0)), (3, (.ptr (b1 + 1) 2 0))] ∧ Has σ (b6 + 18) (b6 + 38) [.blk (b1 + 1) 32 [(.v (.int .i8 b.Inf)), (.v (.int .i64 b.N))], .blk (b1 + 0) 32 [(.v (.int .i8 a.Inf)), (.v (.int .i64 a.N))]]) rfl ?_ ?_
      · refine Ops.split rfl rfl ?_ ?_ <;> intro hc3
        · skip
          refine Ops.wanted rfl rfl ?_
          refine Ops.move (v := (.v (.int .i64 (safe_Minus a).2))) rfl rfl ?_
          refine Ops.wanted rfl rfl ?_
          refine Ops.move (v := (.v (.int .i64 x2.2))) rfl rfl ?_
          refine Ops.wanted rfl rfl ?_
          refine Ops.int (m := (safe_Minus a).2) (m' := x2.2) (r := .bool (((safe_Minus a).2) == x2.2)) rfl rfl rfl rfl rfl ?_
          refine Ops.pickT (v := (.v (.bool (((safe_Minus a).2) == x2.2)))) rfl rfl rfl ?_
          apply Ops.nil
          exact ⟨⟨and_T hc3, rfl, rfl, trivial⟩, H.weak (by omega) (Nat.le_refl _)⟩
        · skip
          refine Ops.pass rfl rfl rfl ?_
          refine Ops.pass rfl rfl rfl ?_
          refine Ops.pass rfl rfl rfl ?_
          refine Ops.pickF (v := (.v (.bool false))) rfl rfl rfl ?_
          apply Ops.nil
          exact ⟨⟨and_F hc3, rfl, rfl, trivial⟩, H.weak (by omega) (Nat.le_refl _)⟩
      · rintro e σ ⟨he, H⟩
        obtain ⟨e, rfl⟩ := he.ex
        refine Ops.move (v := (.v (.bool (((((((safe_Sum a b).1.Inf) == x1.1.Inf) && ((((safe_Sum a b).1.N) == x1.1.N) && true)) && (((safe_Sum a b).2) == x1.2)) && ((((safe_Minus a).1.Inf) == x2.1.Inf) && ((((safe_Minus a).1.N) == x2.1.N) && true))) && (((safe_Minus a).2) == x2.2))))) rfl rfl ?_
        refine Ops.mid 6 (K1 := fun e σ => EnvHas e [(59, (.v (.bool ((((((((safe_Sum a b).1.Inf) == x1.1.Inf) && ((((safe_Sum a b).1.N) == x1.1.N) && true)) && (((safe_Sum a b).2) == x1.2)) && ((((safe_Minus a).1.Inf) == x2.1.Inf) && ((((safe_Minus a).1.N) == x2.1.N) && true))) && (((safe_Minus a).2) == x2.2)) && ((safe_Right a) == (epactref01_Right a)))))), (2, (.ptr (b1 + 0) 2 0)), (3, (.ptr (b1 + 1) 2 0))] ∧ Has σ (b6 + 25) (b6 + 38) [.blk (b1 + 1) 32 [(.v (.int .i8 b.Inf)), (.v (.int .i64 b.N))], .blk (b1 + 0) 32 [(.v (.int .i8 a.Inf)), (.v (.int .i64 a.N))]]) rfl ?_ ?_
        · refine Ops.split rfl rfl ?_ ?_ <;> intro hc4
          · skip
            refine Ops.wanted rfl rfl ?_
            refine Ops.loadHA (off := 0) (cs := [(.v (.int .i8 a.Inf)), (.v (.int .i64 a.N))]) H 1 rfl rfl rfl rfl rfl rfl rfl (fun _ => .inl ⟨B6 5 _ rfl _ rfl, nofun⟩) rfl ?_
            refine Ops.wanted rfl rfl ?_
            refine Ops.call (ys := [(.agg [(.v (.int .i8 a.Inf)), (.v (.int .i64 a.N))])]) (r := (.v (.bool (safe_Right a)))) rfl (safe_Right_fn rfl) rfl ?_
            refine Ops.wanted rfl rfl ?_
            refine Ops.loadHA (off := 0) (cs := [(.v (.int .i8 a.Inf)), (.v (.int .i64 a.N))]) H 1 rfl rfl rfl rfl rfl rfl rfl (fun _ => .inl ⟨B6 5 _ rfl _ rfl, nofun⟩) rfl ?_
            refine Ops.wanted rfl rfl ?_
            refine Ops.call (ys := [(.agg [(.v (.int .i8 a.Inf)), (.v (.int .i64 a.N))])]) (r := (.v (.bool (epactref01_Right a)))) rfl (epactref01_Right_fn rfl) rfl ?_
            refine Ops.wanted rfl rfl ?_
            refine Ops.eqB (b := (safe_Right a)) (b' := (epactref01_Right a)) rfl rfl rfl rfl ?_
            refine Ops.pickT (v := (.v (.bool ((safe_Right a) == (epactref01_Right a))))) rfl rfl rfl ?_
            apply Ops.nil
            exact ⟨⟨and_T hc4, rfl, rfl, trivial⟩, H.weak (by omega) (Nat.le_refl _)⟩
          · skip
            refine Ops.pass rfl rfl rfl ?_
            refine Ops.pass rfl rfl rfl ?_
            refine Ops.pass rfl rfl rfl ?_
            refine Ops.pass rfl rfl rfl ?_
            refine Ops.pass rfl rfl rfl ?_
            refine Ops.pickF (v := (.v (.bool false))) rfl rfl rfl ?_
            apply Ops.nil
            exact ⟨⟨and_F hc4, rfl, rfl, trivial⟩, H.weak (by omega) (Nat.le_refl _)⟩
        · rintro e σ ⟨he, H⟩
          obtain ⟨e, rfl⟩ := he.ex
          refine Ops.move (v := (.v (.bool ((((((((safe_Sum a b).1.Inf) == x1.1.Inf) && ((((safe_Sum a b).1.N) == x1.1.N) && true)) && (((safe_Sum a b).2) == x1.2)) && ((((safe_Minus a).1.Inf) == x2.1.Inf) && ((((safe_Minus a).1.N) == x2.1.N) && true))) && (((safe_Minus a).2) == x2.2)) && ((safe_Right a) == (epactref01_Right a)))))) rfl rfl ?_
          refine Ops.mid 8 (K1 := fun e σ => EnvHas e [(68, (.v (.bool (((((((((safe_Sum a b).1.Inf) == x1.1.Inf) && ((((safe_Sum a b).1.N) == x1.1.N) && true)) && (((safe_Sum a b).2) == x1.2)) && ((((safe_Minus a).1.Inf) == x2.1.Inf) && ((((safe_Minus a).1.N) == x2.1.N) && true))) && (((safe_Minus a).2) == x2.2)) && ((safe_Right a) == (epactref01_Right a))) && ((safe_Less a b) == (epactref01_Less a b))))))] ∧ Has σ (b6 + 34) (b6 + 38) []) rfl ?_ ?_
          · refine Ops.split rfl rfl ?_ ?_ <;> intro hc5
            · skip
              refine Ops.wanted rfl rfl ?_
              refine Ops.loadHA (off := 0) (cs := [(.v (.int .i8 a.Inf)), (.v (.int .i64 a.N))]) H 1 rfl rfl rfl rfl rfl rfl rfl (fun _ => .inl ⟨B6 5 _ rfl _ rfl, nofun⟩) rfl ?_
              refine Ops.wanted rfl rfl ?_
              refine Ops.loadHA (off := 0) (cs := [(.v (.int .i8 b.Inf)), (.v (.int .i64 b.N))]) H 0 rfl rfl rfl rfl rfl rfl rfl (fun _ => .inl ⟨B6 4 _ rfl _ rfl, nofun⟩) rfl ?_
              refine Ops.wanted rfl rfl ?_
              refine Ops.call (ys := [(.agg [(.v (.int .i8 a.Inf)), (.v (.int .i64 a.N))]), (.agg [(.v (.int .i8 b.Inf)), (.v (.int .i64 b.N))])]) (r := (.v (.bool (safe_Less a b)))) rfl (safe_Less_fn rfl) rfl ?_
              refine Ops.wanted rfl rfl ?_
              refine Ops.loadHA (off := 0) (cs := [(.v (.int .i8 a.Inf)), (.v (.int .i64 a.N))]) H 1 rfl rfl rfl rfl rfl rfl rfl (fun _ => .inl ⟨B6 5 _ rfl _ rfl, nofun⟩) rfl ?_
              refine Ops.wanted rfl rfl ?_
              refine Ops.loadHA (off := 0) (cs := [(.v (.int .i8 b.Inf)), (.v (.int .i64 b.N))]) H 0 rfl rfl rfl rfl rfl rfl rfl (fun _ => .inl ⟨B6 4 _ rfl _ rfl, nofun⟩) rfl ?_
              refine Ops.wanted rfl rfl ?_
              refine Ops.call (ys := [(.agg [(.v (.int .i8 a.Inf)), (.v (.int .i64 a.N))]), (.agg [(.v (.int .i8 b.Inf)), (.v (.int .i64 b.N))])]) (r := (.v (.bool (epactref01_Less a b)))) rfl (epactref01_Less_fn rfl) rfl ?_
              refine Ops.wanted rfl rfl ?_
              refine Ops.eqB (b := (safe_Less a b)) (b' := (epactref01_Less a b)) rfl rfl rfl rfl ?_
              refine Ops.pickT (v := (.v (.bool ((safe_Less a b) == (epactref01_Less a b))))) rfl rfl rfl ?_
              apply Ops.nil
              exact ⟨⟨and_T hc5, trivial⟩, ((H.erase 1).erase 0).weak (by omega) (Nat.le_refl _)⟩
            · skip
              refine Ops.pass rfl rfl rfl ?_
              refine Ops.pass rfl rfl rfl ?_
              refine Ops.pass rfl rfl rfl ?_
              refine Ops.pass rfl rfl rfl ?_
              refine Ops.pass rfl rfl rfl ?_
              refine Ops.pass rfl rfl rfl ?_
              refine Ops.pass rfl rfl rfl ?_
              refine Ops.pickF (v := (.v (.bool false))) rfl rfl rfl ?_
              apply Ops.nil
              exact ⟨⟨and_F hc5, trivial⟩, ((H.erase 1).erase 0).weak (by omega) (Nat.le_refl _)⟩
          · rintro e σ ⟨he, H⟩
            obtain ⟨e, rfl⟩ := he.ex
            refine Ops.move (v := (.v (.bool (((((((((safe_Sum a b).1.Inf) == x1.1.Inf) && ((((safe_Sum a b).1.N) == x1.1.N) && true)) && (((safe_Sum a b).2) == x1.2)) && ((((safe_Minus a).1.Inf) == x2.1.Inf) && ((((safe_Minus a).1.N) == x2.1.N) && true))) && (((safe_Minus a).2) == x2.2)) && ((safe_Right a) == (epactref01_Right a))) && ((safe_Less a b) == (epactref01_Less a b)))))) rfl rfl ?_
            refine Ops.mid 2 (K1 := fun e σ => EnvHas e [(71, (.v (.bool ((((((((((safe_Sum a b).1.Inf) == x1.1.Inf) && ((((safe_Sum a b).1.N) == x1.1.N) && true)) && (((safe_Sum a b).2) == x1.2)) && ((((safe_Minus a).1.Inf) == x2.1.Inf) && ((((safe_Minus a).1.N) == x2.1.N) && true))) && (((safe_Minus a).2) == x2.2)) && ((safe_Right a) == (epactref01_Right a))) && ((safe_Less a b) == (epactref01_Less a b))) && epactlaw01_awake))))] ∧ Has σ (b6 + 37) (b6 + 38) []) rfl ?_ ?_
            · refine Ops.split rfl rfl ?_ ?_ <;> intro hc6
              · skip
                refine Ops.wanted rfl rfl ?_
                refine Ops.call (ys := []) (r := (.v (.bool epactlaw01_awake))) rfl (epactlaw01_awake_fn rfl) rfl ?_
                refine Ops.pickT (v := (.v (.bool epactlaw01_awake))) rfl rfl rfl ?_
                apply Ops.nil
                exact ⟨⟨and_T hc6, trivial⟩, H.weak (by omega) (Nat.le_refl _)⟩
              · skip
                refine Ops.pass rfl rfl rfl ?_
                refine Ops.pickF (v := (.v (.bool false))) rfl rfl rfl ?_
                apply Ops.nil
                exact ⟨⟨and_F hc6, trivial⟩, H.weak (by omega) (Nat.le_refl _)⟩
            · rintro e σ ⟨he, H⟩
              obtain ⟨e, rfl⟩ := he.ex
              refine Ops.assign (v := (.v (.bool ((((((((((safe_Sum a b).1.Inf) == x1.1.Inf) && ((((safe_Sum a b).1.N) == x1.1.N) && true)) && (((safe_Sum a b).2) == x1.2)) && ((((safe_Minus a).1.Inf) == x2.1.Inf) && ((((safe_Minus a).1.N) == x2.1.N) && true))) && (((safe_Minus a).2) == x2.2)) && ((safe_Right a) == (epactref01_Right a))) && ((safe_Less a b) == (epactref01_Less a b))) && epactlaw01_awake)))) rfl rfl ?_
              apply Ops.nil
              replace H := H.all
              apply Runs.ret
              replace h := Option.some.inj h; subst h
              exact (Ends.H (xs := [(.v (.bool ((((((((((safe_Sum a b).1.Inf) == x1.1.Inf) && ((((safe_Sum a b).1.N) == x1.1.N) && true)) && (((safe_Sum a b).2) == x1.2)) && ((((safe_Minus a).1.Inf) == x2.1.Inf) && ((((safe_Minus a).1.N) == x2.1.N) && true))) && (((safe_Minus a).2) == x2.2)) && ((safe_Right a) == (epactref01_Right a))) && ((safe_Less a b) == (epactref01_Less a b))) && epactlaw01_awake)))]) (.inr rfl) H (.tmp (v := (.v (.bool ((((((((((safe_Sum a b).1.Inf) == x1.1.Inf) && ((((safe_Sum a b).1.N) == x1.1.N) && true)) && (((safe_Sum a b).2) == x1.2)) && ((((safe_Minus a).1.Inf) == x2.1.Inf) && ((((safe_Minus a).1.N) == x2.1.N) && true))) && (((safe_Minus a).2) == x2.2)) && ((safe_Right a) == (epactref01_Right a))) && ((safe_Less a b) == (epactref01_Less a b))) && epactlaw01_awake)))) rfl .nil) (.one (.c (.v _))))

end Go.Dn

set_option linter.unusedVariables false
set_option linter.unusedSimpArgs false
namespace Go.Dn
open Go

/-- A loop comes to an end, and what holds then. -/
theorem loopO_inv {S R : Type} {step : S → Option (S ⊕ R)} (I : S → Prop) (m : S → Nat) (post : R → Prop)
    (h : ∀ s, I s → (∃ s', step s = some (.inl s') ∧ I s' ∧ m s' < m s) ∨ (∃ r, step s = some (.inr r) ∧ post r)) : ∀ s, I s → ∃ r, loopO step s = some r ∧ post r := by
  have key : ∀ n s, m s = n → I s → ∃ r, loopO step s = some r ∧ post r := by
    intro n
    induction n using Nat.strongRecOn with
    | _ n ih =>
      intro s hm hI
      rcases h s hI with ⟨s', h1, h2, h3⟩ | ⟨r, h1, h2⟩
      · obtain ⟨r, q1, q2⟩ := ih (m s') (by omega) s' rfl h2
        exact ⟨r, by rw [loopO_eq, h1]; exact q1, q2⟩
      · exact ⟨r, by rw [loopO_eq, h1], h2⟩
  exact fun s hI => key _ s rfl hI

/-- The answer is known ahead. -/
theorem loopO_val {S R : Type} {step : S → Option (S ⊕ R)} (I : S → R → Prop) (m : S → Nat)
    (h : ∀ s r, I s r → (∃ s', step s = some (.inl s') ∧ I s' r ∧ m s' < m s) ∨ step s = some (.inr r)) {s : S} {r : R} (hI : I s r) : loopO step s = some r := by
  obtain ⟨r', h1, h2⟩ := loopO_inv (I := fun s => I s r) m (fun r' => r' = r) (fun s hs => by
    rcases h s r hs with ⟨s', h1, h2, h3⟩ | h1
    · exact .inl ⟨s', h1, h2, h3⟩
    · exact .inr ⟨r, h1, rfl⟩) s hI
  rw [h1, h2]

theorem bind_eq {α β : Type} {x : Option α} {a : α} {f : α → Option β} {b : Option β} (h : x = some a) (hf : f a = b) : x.bind f = b := by rw [h]; exact hf

theorem wrap_i64 (a : Int) : IntKind.i64.wrap a = (a + 9223372036854775808) % 18446744073709551616 - 9223372036854775808 := by
  simp [IntKind.wrap, IntKind.bits, IntKind.signed]
  split <;> omega
theorem wrap_u64 (a : Int) : IntKind.u64.wrap a = a % 18446744073709551616 := by
  simp [IntKind.wrap, IntKind.bits, IntKind.signed]
theorem wrap_i8 (a : Int) : IntKind.i8.wrap a = (a + 128) % 256 - 128 := by
  simp [IntKind.wrap, IntKind.bits, IntKind.signed]
  split <;> omega
theorem wrap_i32 (a : Int) : IntKind.i32.wrap a = (a + 2147483648) % 4294967296 - 2147483648 := by
  simp [IntKind.wrap, IntKind.bits, IntKind.signed]
  split <;> omega
theorem okI_i64 {x : Int} : okI .i64 x ↔ -9223372036854775808 ≤ x ∧ x ≤ 9223372036854775807 := Iff.rfl
theorem okI_i32 {x : Int} : okI .i32 x ↔ -2147483648 ≤ x ∧ x ≤ 2147483647 := Iff.rfl
theorem okI_i8 {x : Int} : okI .i8 x ↔ -128 ≤ x ∧ x ≤ 127 := Iff.rfl
theorem okI_u8 {x : Int} : okI .u8 x ↔ 0 ≤ x ∧ x ≤ 255 := Iff.rfl
theorem w64_id {x : Int} (h : -9223372036854775808 ≤ x ∧ x ≤ 9223372036854775807) : w64 x = x := by
  unfold w64; rw [wrap_i64]; omega
theorem maxLen_eq : maxLen = 9223372036854775807 := rfl
theorem room_eq : room = 140737488355328 := rfl

theorem at?_lt {α : Type} {l : List α} {i : Int} (h0 : 0 ≤ i) (h : i < l.length) : at? l i = some (l[i.toNat]'(by omega)) := by
  unfold at?; rw [if_pos h0, List.getElem?_eq_getElem]
theorem at?_nat {α : Type} {l : List α} {k : Nat} (h : k < l.length) : at? l (k : Int) = some l[k] := by
  rw [at?_lt (by omega) (by omega)]; rfl
theorem at?_none {α : Type} {l : List α} {i : Int} (h : i < 0 ∨ (l.length : Int) ≤ i) : at? l i = none := by
  unfold at?
  split
  · rw [List.getElem?_eq_none]; omega
  · rfl
theorem app?_ok {α : Type} {b : Nat} {l m : List α} (h : (l.length + m.length) * b ≤ room) : app? b l m = some (l ++ m) := if_pos h
theorem nz?_ok {b : Int} (h : b ≠ 0) : nz? b = some () := if_neg h

theorem beq_t {a b : Int} (h : a = b) : (a == b) = true := by simp [h]
theorem beq_f {a b : Int} (h : a ≠ b) : (a == b) = false := by simp [h]
theorem bne_t {a b : Int} (h : a ≠ b) : (a != b) = true := by simp [h]
theorem bne_f {a b : Int} (h : a = b) : (a != b) = false := by simp [h]
theorem ibeq (a b : Int) : (a == b) = decide (a = b) := by by_cases h : a = b <;> simp [h]
theorem dec_t {p : Prop} [Decidable p] (h : p) : decide p = true := by simp [h]
theorem dec_f {p : Prop} [Decidable p] (h : ¬ p) : decide p = false := by simp [h]

theorem pickB {α : Type} (c : Bool) (a b : α) : (bif c then a else b) = if c = true then a else b := by cases c <;> rfl

theorem first_bad {α : Type} {l : List α} {good : Nat → α → Prop} (h : ¬ ∀ k x, l[k]? = some x → good k x) : ∃ (k : Nat) (x : α), l[k]? = some x ∧ ¬ good k x ∧ ∀ j y, j < k → l[j]? = some y → good j y := by
  have hex : ∃ k : Nat, ∃ x, l[k]? = some x ∧ ¬ good k x := by
    apply Classical.byContradiction
    intro hn
    exact h fun k x hk => Classical.byContradiction fun hg => hn ⟨k, x, hk, hg⟩
  obtain ⟨k, hk⟩ := hex
  induction k using Nat.strongRecOn with
  | _ k ih =>
    by_cases h : ∃ j, j < k ∧ ∃ x, l[j]? = some x ∧ ¬ good j x
    · obtain ⟨j, hj, hx⟩ := h
      exact ih j hj hx
    · obtain ⟨x, hx, hb⟩ := hk
      exact ⟨k, x, hx, hb, fun j y hj hy => Classical.byContradiction fun hg => h ⟨j, hj, y, hy, hg⟩⟩

/-- 'for i, x := range l { if bad(x) { return false } }'. -/
theorem all_loop {α R : Type} {l : List α} {step : Int → Option (Int ⊕ R)} (good : Nat → α → Prop) {no yes : R}
    (hstep : ∀ (k : Nat) (x : α), l[k]? = some x → (∀ j y, j < k → l[j]? = some y → good j y) → (step (k : Int) = some (.inl ((k : Int) + 1)) ∧ good k x) ∨ (step (k : Int) = some (.inr no) ∧ ¬ good k x))
    (hend : step (l.length : Int) = some (.inr yes)) : (loopO step 0 = some yes ∧ ∀ k x, l[k]? = some x → good k x) ∨ (loopO step 0 = some no ∧ ¬ ∀ k x, l[k]? = some x → good k x) := by
  by_cases hall : ∀ k x, l[k]? = some x → good k x
  · refine .inl ⟨?_, hall⟩
    refine loopO_val (I := fun (s : Int) r => r = yes ∧ ∃ k : Nat, s = k ∧ k ≤ l.length) (fun s => (l.length - s.toNat)) ?_ ⟨rfl, 0, rfl, Nat.zero_le _⟩
    rintro s r ⟨rfl, k, rfl, hk⟩
    by_cases hlt : k < l.length
    · rcases hstep k l[k] (List.getElem?_eq_getElem hlt) (fun j y _ hy => hall j y hy) with ⟨h1, _⟩ | ⟨_, h2⟩
      · exact .inl ⟨_, h1, ⟨rfl, k + 1, by push_cast; rfl, hlt⟩, by simp; omega⟩
      · exact absurd (hall k _ (List.getElem?_eq_getElem hlt)) h2
    · have : k = l.length := by omega
      subst this
      exact .inr hend
  · refine .inr ⟨?_, hall⟩
    obtain ⟨k0, x0, hx0, hb0, hgood⟩ := first_bad hall
    have hlt0 := (List.getElem?_eq_some_iff.1 hx0).1
    refine loopO_val (I := fun (s : Int) r => r = no ∧ ∃ k : Nat, s = k ∧ k ≤ k0) (fun s => (l.length - s.toNat)) ?_ ⟨rfl, 0, rfl, Nat.zero_le _⟩
    rintro s r ⟨rfl, k, rfl, hk⟩
    by_cases hlt : k < k0
    · have hkl : k < l.length := by omega
      rcases hstep k l[k] (List.getElem?_eq_getElem hkl) (fun j y hj hy => hgood j y (by omega) hy) with ⟨h1, _⟩ | ⟨_, h2⟩
      · exact .inl ⟨_, h1, ⟨rfl, k + 1, by push_cast; rfl, hlt⟩, by simp; omega⟩
      · exact absurd (hgood k _ hlt (List.getElem?_eq_getElem hkl)) h2
    · have : k = k0 := by omega
      subst this
      rcases hstep k x0 hx0 hgood with ⟨_, h2⟩ | ⟨h1, _⟩
      · exact absurd h2 hb0
      · exact .inr h1

/-- 'for _, x := range l { acc = acc with x }'. -/
theorem fold_loop {α A R : Type} {l : List α} {step : A × Int → Option ((A × Int) ⊕ R)} (f : A → Nat → α → A) (fin : A → R) (I : Nat → A → Prop) {a0 : A} (h0 : I 0 a0)
    (hgo : ∀ (k : Nat) (x : α) (a : A), l[k]? = some x → I k a → step (a, (k : Int)) = some (.inl (f a k x, (k : Int) + 1)) ∧ I (k + 1) (f a k x))
    (hend : ∀ a, I l.length a → step (a, (l.length : Int)) = some (.inr (fin a))) : ∃ a, loopO step (a0, 0) = some (fin a) ∧ I l.length a := by
  obtain ⟨r, h1, a, rfl, h2⟩ := loopO_inv (step := step) (I := fun s => ∃ (k : Nat) (a : A), s = (a, (k : Int)) ∧ k ≤ l.length ∧ I k a) (fun s => l.length - s.2.toNat) (fun r => ∃ a, r = fin a ∧ I l.length a) (by
    rintro s ⟨k, a, rfl, hk, hI⟩
    by_cases hlt : k < l.length
    · obtain ⟨q1, q2⟩ := hgo k l[k] a (List.getElem?_eq_getElem hlt) hI
      exact .inl ⟨_, q1, ⟨k + 1, _, by push_cast; rfl, hlt, q2⟩, by simp; omega⟩
    · have : k = l.length := by omega
      subst this
      exact .inr ⟨_, hend a hI, a, rfl, hI⟩) (a0, 0) ⟨0, a0, rfl, Nat.zero_le _, h0⟩
  exact ⟨a, h1, h2⟩
end Go.Dn

set_option linter.unusedVariables false
set_option linter.unusedSimpArgs false
namespace Go.Dn
open Go

def In64 (a : Int) : Prop := -9223372036854775808 ≤ a ∧ a ≤ 9223372036854775807
def InU64 (a : Int) : Prop := 0 ≤ a ∧ a ≤ 18446744073709551615
def fitS (a : Int) : Int × Int := if -9223372036854775808 ≤ a ∧ a ≤ 9223372036854775807 then (a, 0) else (0, 10)
theorem fitS_of {a : Int} (h : In64 a) : fitS a = (a, 0) := if_pos h
theorem fitS_not {a : Int} (h : ¬ In64 a) : fitS a = (0, 10) := if_neg h
theorem fitS_in (a : Int) : In64 (fitS a).1 := by unfold fitS In64; split <;> simp <;> omega
theorem fit_or (x : Int) : (In64 x ∧ fitS x = (x, 0)) ∨ (¬ In64 x ∧ fitS x = (0, 10)) := by
  by_cases h : In64 x
  · exact .inl ⟨h, fitS_of h⟩
  · exact .inr ⟨h, fitS_not h⟩
theorem fit_zero {x : Int} (h : (fitS x).2 = 0) : In64 x ∧ (fitS x).1 = x := by
  rcases fit_or x with ⟨h1, h2⟩ | ⟨h1, h2⟩
  · exact ⟨h1, by rw [h2]⟩
  · rw [h2] at h; cases h

theorem and32 (x : Int) (h : InU64 x) : (((BitVec.ofInt 64 x &&& BitVec.ofInt 64 4294967295).toNat : Nat) : Int) = x % 4294967296 := by
  obtain ⟨n, rfl⟩ := Int.eq_ofNat_of_zero_le h.1
  have hn : n < 2 ^ 64 := by have := h.2; omega
  have h1 : (BitVec.ofInt 64 (n : Int)).toNat = n := by simp [BitVec.toNat_ofInt]; omega
  have h2 : (BitVec.ofInt 64 4294967295).toNat = 2 ^ 32 - 1 := by decide
  rw [BitVec.toNat_and, h1, h2, Nat.and_two_pow_sub_one_eq_mod]
  omega

theorem mul64_fact {x y : Int} (hx : InU64 x) (hy : InU64 y) :
    (x / 4294967296 * (y / 4294967296) + (x / 4294967296 * (y % 4294967296) + x % 4294967296 * (y % 4294967296) / 4294967296) / 4294967296 +
      ((x / 4294967296 * (y % 4294967296) + x % 4294967296 * (y % 4294967296) / 4294967296) % 4294967296 + x % 4294967296 * (y / 4294967296)) / 4294967296) = x * y / 18446744073709551616 ∧
    0 ≤ x % 4294967296 * (y % 4294967296) ∧ x % 4294967296 * (y % 4294967296) ≤ 18446744065119617025 ∧
    0 ≤ x / 4294967296 * (y % 4294967296) ∧ x / 4294967296 * (y % 4294967296) ≤ 18446744065119617025 ∧
    0 ≤ x % 4294967296 * (y / 4294967296) ∧ x % 4294967296 * (y / 4294967296) ≤ 18446744065119617025 ∧
    0 ≤ x / 4294967296 * (y / 4294967296) ∧ x / 4294967296 * (y / 4294967296) ≤ 18446744065119617025 := by
  have b : ∀ {u v : Int}, 0 ≤ u → u ≤ 4294967295 → 0 ≤ v → v ≤ 4294967295 → 0 ≤ u * v ∧ u * v ≤ 18446744065119617025 := by
    intro u v h1 h2 h3 h4
    exact ⟨Int.mul_nonneg h1 h3, Int.le_trans (Int.mul_le_mul h2 h4 h3 (by omega)) (by decide)⟩
  obtain ⟨hx1, hx2⟩ := hx
  obtain ⟨hy1, hy2⟩ := hy
  obtain ⟨a1, a2⟩ := b (u := x % 4294967296) (v := y % 4294967296) (by omega) (by omega) (by omega) (by omega)
  obtain ⟨b1, b2⟩ := b (u := x / 4294967296) (v := y % 4294967296) (by omega) (by omega) (by omega) (by omega)
  obtain ⟨c1, c2⟩ := b (u := x % 4294967296) (v := y / 4294967296) (by omega) (by omega) (by omega) (by omega)
  obtain ⟨d1, d2⟩ := b (u := x / 4294967296) (v := y / 4294967296) (by omega) (by omega) (by omega) (by omega)
  refine ⟨?_, a1, a2, b1, b2, c1, c2, d1, d2⟩
  have e : x * y = x / 4294967296 * (y / 4294967296) * 18446744073709551616 + (x / 4294967296 * (y % 4294967296) + x % 4294967296 * (y / 4294967296)) * 4294967296 + x % 4294967296 * (y % 4294967296) := by
    have ex : x = x / 4294967296 * 4294967296 + x % 4294967296 := by omega
    have ey : y = y / 4294967296 * 4294967296 + y % 4294967296 := by omega
    clear a1 a2 b1 b2 c1 c2 d1 d2 b hx1 hx2 hy1 hy2
    generalize x / 4294967296 = x1 at *
    generalize x % 4294967296 = x0 at *
    generalize y / 4294967296 = y1 at *
    generalize y % 4294967296 = y0 at *
    subst ex ey
    simp only [Int.add_mul, Int.mul_add]
    have h1 : x1 * 4294967296 * (y1 * 4294967296) = x1 * y1 * 18446744073709551616 := by
      rw [Int.mul_assoc, Int.mul_comm 4294967296, Int.mul_assoc y1, ← Int.mul_assoc]
      rfl
    have h2 : x1 * 4294967296 * y0 = x1 * y0 * 4294967296 := by rw [Int.mul_assoc, Int.mul_comm 4294967296, ← Int.mul_assoc]
    have h3 : x0 * (y1 * 4294967296) = x0 * y1 * 4294967296 := by rw [← Int.mul_assoc]
    rw [h1, h2, h3]
    omega
  rw [e]
  generalize x / 4294967296 * (y / 4294967296) = d at *
  generalize x / 4294967296 * (y % 4294967296) = b' at *
  generalize x % 4294967296 * (y / 4294967296) = c at *
  generalize x % 4294967296 * (y % 4294967296) = a at *
  omega

theorem safe_Add_eq {a b : Int} (ha : In64 a) (hb : In64 b) : safe_Add a b = fitS (a + b) := by
  unfold In64 at ha hb
  unfold safe_Add fitS w64
  rw [wrap_i64]
  cases h : ((decide ((a + b + 9223372036854775808) % 18446744073709551616 - 9223372036854775808 > a) != decide (b > 0)) && b != 0)
  · rw [cond_false]
    simp only [Bool.and_eq_false_iff, bne_eq_false_iff_eq, decide_eq_decide] at h
    split <;> simp only [Prod.mk.injEq, and_true] <;> omega
  · rw [cond_true]
    simp only [Bool.and_eq_true, bne_iff_ne, ne_eq, decide_eq_decide] at h
    split <;> simp only [Prod.mk.injEq] <;> omega

theorem safe_size_eq {a : Int} (h : In64 a) : safe_size a = a.natAbs := by
  unfold In64 at h
  unfold safe_size
  rw [pickB]
  simp only [decide_eq_true_eq, wrap_u64]
  split <;> omega

theorem inU_abs {a : Int} (h : In64 a) : InU64 a.natAbs := by unfold In64 at h; unfold InU64; omega
theorem natAbs_prod (a b : Int) : (a.natAbs : Int) * b.natAbs = (a * b).natAbs := by rw [Int.natAbs_mul]; simp

theorem mul64_eq {x y : Int} (hx : InU64 x) (hy : InU64 y) : math_bits_Mul64 x y = (x * y / 18446744073709551616, x * y % 18446744073709551616) := by
  unfold math_bits_Mul64
  have hb : ∀ z : Int, z.fdiv (2 ^ 32) = z / 4294967296 := fun z => Int.fdiv_eq_ediv_of_nonneg z (by decide)
  have hm : (IntKind.u64.bits) = 64 := rfl
  obtain ⟨h1, h2, h3, h4, h5, h6, h7, h8, h9⟩ := mul64_fact hx hy
  have hw : ∀ z : Int, 0 ≤ z → z ≤ 18446744073709551615 → IntKind.u64.wrap z = z := fun z q1 q2 => by rw [wrap_u64]; omega
  simp only [hb, iAnd]
  rw [hm, and32 x hx, and32 y hy]
  have x0 : 0 ≤ x % 4294967296 ∧ x % 4294967296 < 4294967296 := by omega
  have y0 : 0 ≤ y % 4294967296 ∧ y % 4294967296 < 4294967296 := by omega
  rw [hw (x % 4294967296) (by omega) (by omega), hw (y % 4294967296) (by omega) (by omega), hw _ h2 (by omega), hw _ h4 (by omega), hw _ h6 (by omega), hw _ h8 (by omega)]
  rw [hw (x / 4294967296 * (y % 4294967296) + x % 4294967296 * (y % 4294967296) / 4294967296) (by omega) (by omega)]
  rw [and32 _ ⟨by omega, by omega⟩]
  have t0 : 0 ≤ (x / 4294967296 * (y % 4294967296) + x % 4294967296 * (y % 4294967296) / 4294967296) % 4294967296 ∧ (x / 4294967296 * (y % 4294967296) + x % 4294967296 * (y % 4294967296) / 4294967296) % 4294967296 < 4294967296 := by omega
  rw [hw ((x / 4294967296 * (y % 4294967296) + x % 4294967296 * (y % 4294967296) / 4294967296) % 4294967296) (by omega) (by omega)]
  rw [hw ((x / 4294967296 * (y % 4294967296) + x % 4294967296 * (y % 4294967296) / 4294967296) % 4294967296 + x % 4294967296 * (y / 4294967296)) (by omega) (by omega)]
  rw [hw (x / 4294967296 * (y / 4294967296) + (x / 4294967296 * (y % 4294967296) + x % 4294967296 * (y % 4294967296) / 4294967296) / 4294967296) (by omega) (by omega)]
  rw [hw _ (by omega) (by omega), h1, wrap_u64]

theorem safe_signed_eq {n : Int} (m : Bool) (h : InU64 n) : safe_signed n m = fitS (if m then -n else n) := by
  unfold InU64 at h
  unfold safe_signed fitS w64
  rw [pickB, pickB, wrap_u64, wrap_i64, wrap_i64]
  cases m <;> simp only [Bool.true_and, Bool.false_and, Bool.not_true, Bool.not_false, decide_eq_true_eq, Bool.false_eq_true, if_false, if_true]
  · split
    · rw [if_pos (by omega)]; simp only [Prod.mk.injEq, and_true]; omega
    · rw [if_neg (by omega)]
  · split
    · rw [if_pos (by omega)]; simp only [Prod.mk.injEq, and_true]; omega
    · rw [if_neg (by omega)]

theorem safe_Mul_eq {a b : Int} (ha : In64 a) (hb : In64 b) : safe_Mul a b = fitS (a * b) := by
  unfold safe_Mul
  rw [safe_size_eq ha, safe_size_eq hb, mul64_eq (inU_abs ha) (inU_abs hb), pickB]
  simp only [natAbs_prod]
  rw [safe_signed_eq _ (by unfold InU64; omega)]
  by_cases h : ((a * b).natAbs : Int) / 18446744073709551616 = 0
  · rw [if_neg (by simp [h])]
    have e : ((a * b).natAbs : Int) % 18446744073709551616 = (a * b).natAbs := by omega
    rw [e]
    show fitS _ = _
    refine congrArg fitS ?_
    by_cases h1 : a < 0 <;> by_cases h2 : b < 0 <;> simp only [h1, h2, decide_true, decide_false]
    · have := Int.mul_nonneg_of_nonpos_of_nonpos (Int.le_of_lt h1) (Int.le_of_lt h2)
      simp; omega
    · have := Int.mul_nonpos_of_nonpos_of_nonneg (Int.le_of_lt h1) (Int.not_lt.1 h2)
      simp; omega
    · have := Int.mul_nonpos_of_nonneg_of_nonpos (Int.not_lt.1 h1) (Int.le_of_lt h2)
      simp; omega
    · have := Int.mul_nonneg (Int.not_lt.1 h1) (Int.not_lt.1 h2)
      simp; omega
  · rw [if_pos (by simp [h])]
    unfold fitS
    rw [if_neg]
    omega

def floorS (a b : Int) : Int × Int × Int := if b = 0 then (0, 0, 11) else if b = -1 ∧ a = -9223372036854775808 then (0, 0, 10) else (a.fdiv b, a.fmod b, 0)
theorem floor_up {a b : Int} (hb : b ≠ 0) (h1 : a.tmod b ≠ 0) (h2 : ¬(a.tmod b < 0 ↔ b < 0)) : a.fdiv b = a.tdiv b - 1 ∧ a.fmod b = a.tmod b + b := by
  have q1 := Int.emod_nonneg a hb
  have q2 := Int.emod_lt a hb
  have hd : b ∣ a ↔ a % b = 0 := Int.dvd_iff_emod_eq_zero
  rw [Int.fdiv_eq_ediv, Int.fmod_eq_emod, Int.tdiv_eq_ediv]
  rw [Int.tmod_eq_emod] at h1 h2 ⊢
  simp only [hd] at h1 h2 ⊢
  rcases Int.lt_or_gt_of_ne hb with h | h
  · rw [Int.sign_eq_neg_one_of_neg h]
    split at h1 <;> split <;> simp_all <;> omega
  · rw [Int.sign_eq_one_of_pos h]
    split at h1 <;> split <;> simp_all <;> omega

theorem floor_same {a b : Int} (hb : b ≠ 0) (h : a.tmod b = 0 ∨ (a.tmod b < 0 ↔ b < 0)) : a.fdiv b = a.tdiv b ∧ a.fmod b = a.tmod b := by
  have q1 := Int.emod_nonneg a hb
  have q2 := Int.emod_lt a hb
  have hd : b ∣ a ↔ a % b = 0 := Int.dvd_iff_emod_eq_zero
  rw [Int.fdiv_eq_ediv, Int.fmod_eq_emod, Int.tdiv_eq_ediv]
  rw [Int.tmod_eq_emod] at h ⊢
  simp only [hd] at h ⊢
  rcases Int.lt_or_gt_of_ne hb with hh | hh
  · rw [Int.sign_eq_neg_one_of_neg hh]
    split at h <;> split <;> simp_all <;> omega
  · rw [Int.sign_eq_one_of_pos hh]
    split at h <;> split <;> simp_all <;> omega

theorem tdiv_in {a b : Int} (ha : In64 a) (hb : b ≠ 0) (hn : ¬(b = -1 ∧ a = -9223372036854775808)) : In64 (a.tdiv b) := by
  have h : (a.tdiv b).natAbs = a.natAbs / b.natAbs := Int.natAbs_tdiv a b
  obtain ⟨h1, h2⟩ := ha
  by_cases hb1 : b = 1
  · subst hb1; rw [Int.tdiv_one]; exact ⟨h1, h2⟩
  · by_cases hb2 : b = -1
    · have ha' : a ≠ -9223372036854775808 := fun e => hn ⟨hb2, e⟩
      have : a.natAbs / b.natAbs ≤ a.natAbs := Nat.div_le_self _ _
      unfold In64; omega
    · have h3 : a.natAbs / b.natAbs ≤ a.natAbs / 2 := Nat.div_le_div_left (by omega) (by omega)
      unfold In64; omega

theorem tdiv_in1 {a b : Int} (ha : In64 a) (hb : b ≠ 0) (h1 : a.tmod b ≠ 0) : In64 (a.tdiv b - 1) := by
  have h : (a.tdiv b).natAbs = a.natAbs / b.natAbs := Int.natAbs_tdiv a b
  obtain ⟨h2, h3⟩ := ha
  by_cases hb1 : b = 1
  · subst hb1; simp at h1
  · by_cases hb2 : b = -1
    · subst hb2; simp at h1
    · have h3 : a.natAbs / b.natAbs ≤ a.natAbs / 2 := Nat.div_le_div_left (by omega) (by omega)
      unfold In64; omega

theorem tmod_in {a b : Int} (hb : In64 b) (hb0 : b ≠ 0) : In64 (a.tmod b) := by
  have h : (a.tmod b).natAbs = a.natAbs % b.natAbs := Int.natAbs_tmod a b
  have : a.natAbs % b.natAbs < b.natAbs := Nat.mod_lt _ (by omega)
  unfold In64 at *; omega

theorem wrap_in {a : Int} (h : In64 a) : IntKind.i64.wrap a = a := by rw [wrap_i64]; unfold In64 at h; omega

theorem fmod_in {a b : Int} (hb : In64 b) (hb0 : b ≠ 0) : In64 (a.fmod b) := by
  have q1 := Int.emod_nonneg a hb0
  have q2 := Int.emod_lt a hb0
  rw [Int.fmod_eq_emod]
  unfold In64 at *
  split <;> omega

theorem floor_leaf1 {a b : Int} (ha : In64 a) (hb : In64 b) (h0 : b ≠ 0) (hn : ¬(b = -1 ∧ a = -9223372036854775808)) (h1 : a.tmod b ≠ 0) (h2 : ¬(a.tmod b < 0 ↔ b < 0)) :
    (IntKind.i64.wrap (IntKind.i64.wrap (a.tdiv b) - 1), IntKind.i64.wrap (a.tmod b + b), (0 : Int)) = floorS a b := by
  obtain ⟨e1, e2⟩ := floor_up h0 h1 h2
  rw [floorS, if_neg h0, if_neg hn, e1, e2, wrap_in (tdiv_in ha h0 hn), wrap_in (tdiv_in1 ha h0 h1), wrap_in (by rw [← e2]; exact fmod_in hb h0)]

theorem floor_leaf2 {a b : Int} (ha : In64 a) (hb : In64 b) (h0 : b ≠ 0) (hn : ¬(b = -1 ∧ a = -9223372036854775808)) (h : a.tmod b = 0 ∨ (a.tmod b < 0 ↔ b < 0)) :
    (IntKind.i64.wrap (a.tdiv b), a.tmod b, (0 : Int)) = floorS a b := by
  obtain ⟨e1, e2⟩ := floor_same h0 h
  rw [floorS, if_neg h0, if_neg hn, e1, e2, wrap_in (tdiv_in ha h0 hn)]


theorem safe_Floor_eq {a b : Int} (ha : In64 a) (hb : In64 b) : safe_Floor a b = some (floorS a b) := by
  unfold safe_Floor
  by_cases h0 : b = 0
  · subst h0; rfl
  rw [beq_f h0, cond_false]
  by_cases hn : b = -1 ∧ a = -9223372036854775808
  · obtain ⟨rfl, rfl⟩ := hn
    rfl
  have : (b == -1 && a == -9223372036854775808) = false := by
    simp only [Bool.and_eq_false_iff, beq_eq_false_iff_ne]
    by_cases h : b = -1
    · exact .inr fun e => hn ⟨h, e⟩
    · exact .inl h
  rw [this, cond_false, nz?_ok h0]
  simp only [Option.bind_some, pickB, Bool.and_eq_true, bne_iff_ne, ne_eq, decide_eq_decide]
  split
  · rename_i h
    simp only [Option.bind_some]
    exact congrArg some (floor_leaf1 ha hb h0 hn h.1 h.2)
  · rename_i h
    simp only [Option.bind_some]
    refine congrArg some (floor_leaf2 ha hb h0 hn ?_)
    by_cases h1 : a.tmod b = 0
    · exact .inl h1
    · exact .inr (Classical.byContradiction fun h2 => h ⟨h1, h2⟩)

theorem fdiv_nonneg_eq {a b : Int} (hb : 0 < b) : a.fdiv b = a / b ∧ a.fmod b = a % b := ⟨Int.fdiv_eq_ediv_of_nonneg a (Int.le_of_lt hb), Int.fmod_eq_emod_of_nonneg a (Int.le_of_lt hb)⟩
theorem floorS_pos {a b : Int} (hb : 0 < b) : floorS a b = (a / b, a % b, 0) := by
  unfold floorS
  rw [if_neg (by omega), if_neg (by omega), (fdiv_nonneg_eq hb).1, (fdiv_nonneg_eq hb).2]

end Go.Dn

set_option linter.unusedVariables false
set_option linter.unusedSimpArgs false
namespace Go.Dn
open Go

theorem wrap_u32 (a : Int) : IntKind.u32.wrap a = a % 4294967296 := by
  rfl
theorem u32_id {a : Int} (h : 0 ≤ a ∧ a < 4294967296) : IntKind.u32.wrap a = a := by rw [wrap_u32]; omega
theorem u64_id {a : Int} (h : 0 ≤ a ∧ a < 18446744073709551616) : IntKind.u64.wrap a = a := by rw [wrap_u64]; omega
def Dig (x : Int) : Prop := 0 ≤ x ∧ x < 65536
structure Digs (d : Arr9_u32) : Prop where
  h0 : Dig d.d0
  h1 : Dig d.d1
  h2 : Dig d.d2
  h3 : Dig d.d3
  h4 : Dig d.d4
  h5 : Dig d.d5
  h6 : Dig d.d6
  h7 : Dig d.d7
  h8 : Dig d.d8
def lsz (d : Arr9_u32) : Int := d.d0 + 65536 * (d.d1 + 65536 * (d.d2 + 65536 * (d.d3 + 65536 * (d.d4 + 65536 * (d.d5 + 65536 * (d.d6 + 65536 * (d.d7 + 65536 * d.d8)))))))
def lval (x : epactref01_long) : Int := if x.minus = true then -lsz x.digits else lsz x.digits
theorem lsz_nonneg {d : Arr9_u32} (h : Digs d) : 0 ≤ lsz d := by
  obtain ⟨h0, h1, h2, h3, h4, h5, h6, h7, h8⟩ := h
  unfold Dig at *; unfold lsz; omega

/-- The digit that comes next. -/
theorem digit_next (t : Int) (h : -65536 < t ∧ t < 65536) : (bif (decide (t < 0)) then some (w64 (0 - t)) else some t) = some (t.natAbs : Int) := by
  by_cases h0 : t < 0
  · simp only [h0, decide_true, cond_true]
    rw [w64_id (by omega)]; congr 1; omega
  · simp only [h0, decide_false, cond_false]
    congr 1; omega

theorem tm_abs (a : Int) : ((a.tmod 65536).natAbs : Int) = (a.natAbs : Int) % 65536 := by rw [Int.natAbs_tmod]; rfl
theorem td_abs (a : Int) : ((a.tdiv 65536).natAbs : Int) = (a.natAbs : Int) / 65536 := by rw [Int.natAbs_tdiv]; rfl
theorem tm_in (a : Int) : -65536 < a.tmod 65536 ∧ a.tmod 65536 < 65536 := by have := tm_abs a; omega

theorem td_in {a : Int} (h : In64 a) : In64 (a.tdiv 65536) := by
  have := td_abs a
  unfold In64 at *
  generalize a.tdiv 65536 = b at *
  omega
theorem dig_abs (a : Int) : IntKind.u32.wrap ((a.tmod 65536).natAbs : Int) = (a.natAbs : Int) % 65536 := by
  rw [tm_abs, u32_id]
  omega
theorem ref01_of_eq {a : Int} (h : In64 a) : epactref01_of a = some ⟨decide (a < 0), ⟨(a.natAbs : Int) % 65536, (a.natAbs : Int) / 65536 % 65536, (a.natAbs : Int) / 65536 / 65536 % 65536, (a.natAbs : Int) / 65536 / 65536 / 65536 % 65536, 0, 0, 0, 0, 0⟩⟩ := by
  have h1 := td_in h
  have h2 := td_in h1
  have h3 := td_in h2
  unfold epactref01_of
  simp only [Option.bind_some]
  rw [digit_next _ (tm_in a)]
  simp only [Option.bind_some]
  rw [w64_id h1]
  rw [digit_next _ (tm_in _)]
  simp only [Option.bind_some]
  rw [w64_id h2]
  rw [digit_next _ (tm_in _)]
  simp only [Option.bind_some]
  rw [w64_id h3]
  rw [digit_next _ (tm_in _)]
  simp only [Option.bind_some]
  simp only [dig_abs, td_abs]

theorem abs_digits {A : Int} (h0 : 0 ≤ A) (h1 : A < 18446744073709551616) : lsz ⟨A % 65536, A / 65536 % 65536, A / 65536 / 65536 % 65536, A / 65536 / 65536 / 65536 % 65536, 0, 0, 0, 0, 0⟩ = A := by
  unfold lsz
  simp only
  have e1 : A = 65536 * (A / 65536) + A % 65536 := by omega
  generalize A / 65536 = B at *
  have e2 : B = 65536 * (B / 65536) + B % 65536 := by omega
  generalize B / 65536 = C at *
  have e3 : C = 65536 * (C / 65536) + C % 65536 := by omega
  generalize C / 65536 = D at *
  have e4 : D % 65536 = D := by omega
  omega
theorem ref01_of_digs {a : Int} (h : In64 a) : ∃ x, epactref01_of a = some x ∧ Digs x.digits ∧ lsz x.digits = a.natAbs ∧ x.minus = decide (a < 0) ∧ lval x = a ∧ x.digits.d4 = 0 ∧ x.digits.d5 = 0 ∧ x.digits.d6 = 0 ∧ x.digits.d7 = 0 ∧ x.digits.d8 = 0 := by
  refine ⟨_, ref01_of_eq h, ?_, ?_, rfl, ?_, rfl, rfl, rfl, rfl, rfl⟩
  · unfold In64 at h
    constructor <;> unfold Dig <;> simp only <;> omega
  · unfold In64 at h; exact abs_digits (by omega) (by omega)
  · unfold lval
    have e := abs_digits (A := (a.natAbs : Int)) (by omega) (by unfold In64 at h; omega)
    unfold lsz at e ⊢
    simp only at e ⊢
    rw [e]
    simp only [decide_eq_true_eq]; split <;> omega

theorem below_iff {a b : Arr9_u32} (ha : Digs a) (hb : Digs b) : epactref01_below a b = decide (lsz a < lsz b) := by
  obtain ⟨a0, a1, a2, a3, a4, a5, a6, a7, a8⟩ := ha
  obtain ⟨b0, b1, b2, b3, b4, b5, b6, b7, b8⟩ := hb
  unfold Dig at *
  unfold epactref01_below lsz
  simp only [pickB, bne_iff_ne, ne_eq]
  split
  · congr 1; apply propext; omega
  split
  · congr 1; apply propext; omega
  split
  · congr 1; apply propext; omega
  split
  · congr 1; apply propext; omega
  split
  · congr 1; apply propext; omega
  split
  · congr 1; apply propext; omega
  split
  · congr 1; apply propext; omega
  split
  · congr 1; apply propext; omega
  split
  · congr 1; apply propext; omega
  · symm; apply dec_f; omega

theorem u_div {x : Int} (h : 0 ≤ x) : x.tdiv 65536 = x / 65536 := Int.tdiv_eq_ediv_of_nonneg h
theorem u_mod {x : Int} (h : 0 ≤ x) : x.tmod 65536 = x % 65536 := Int.tmod_eq_emod_of_nonneg h

/-- A digit of a sum, and what is carried. -/
theorem add_step {a b c : Int} (ha : Dig a) (hb : Dig b) (hc : 0 ≤ c ∧ c ≤ 1) : ∃ x, IntKind.u32.wrap (IntKind.u32.wrap (a + b) + c) = x ∧ x = a + b + c ∧ IntKind.u32.wrap (x.tdiv 65536) = x / 65536 ∧ x.tmod 65536 = x % 65536 ∧ 0 ≤ x / 65536 ∧ x / 65536 ≤ 1 ∧ Dig (x % 65536) := by
  unfold Dig at *
  refine ⟨a + b + c, ?_, rfl, ?_, u_mod (by omega), by omega, by omega, by omega⟩
  · rw [u32_id (a := a + b) (by omega), u32_id (by omega)]
  · rw [u_div (by omega), u32_id (by omega)]

theorem more_eq {a b : Arr9_u32} (ha : Digs a) (hb : Digs b) (hs : lsz a + lsz b < 22300745198530623141535718272648361505980416) : ∃ c, epactref01_more a b = some c ∧ Digs c ∧ lsz c = lsz a + lsz b := by
  obtain ⟨a0, a1, a2, a3, a4, a5, a6, a7, a8⟩ := ha
  obtain ⟨b0, b1, b2, b3, b4, b5, b6, b7, b8⟩ := hb
  unfold epactref01_more
  obtain ⟨x0, p0, q0, r0, s0, t0, u0, v0⟩ := add_step a0 b0 (c := 0) (by omega)
  simp only [p0, r0, Option.bind_some]
  obtain ⟨x1, p1, q1, r1, s1, t1, u1, v1⟩ := add_step a1 b1 (c := x0 / 65536) ⟨t0, u0⟩
  simp only [p1, r1, Option.bind_some]
  obtain ⟨x2, p2, q2, r2, s2, t2, u2, v2⟩ := add_step a2 b2 (c := x1 / 65536) ⟨t1, u1⟩
  simp only [p2, r2, Option.bind_some]
  obtain ⟨x3, p3, q3, r3, s3, t3, u3, v3⟩ := add_step a3 b3 (c := x2 / 65536) ⟨t2, u2⟩
  simp only [p3, r3, Option.bind_some]
  obtain ⟨x4, p4, q4, r4, s4, t4, u4, v4⟩ := add_step a4 b4 (c := x3 / 65536) ⟨t3, u3⟩
  simp only [p4, r4, Option.bind_some]
  obtain ⟨x5, p5, q5, r5, s5, t5, u5, v5⟩ := add_step a5 b5 (c := x4 / 65536) ⟨t4, u4⟩
  simp only [p5, r5, Option.bind_some]
  obtain ⟨x6, p6, q6, r6, s6, t6, u6, v6⟩ := add_step a6 b6 (c := x5 / 65536) ⟨t5, u5⟩
  simp only [p6, r6, Option.bind_some]
  obtain ⟨x7, p7, q7, r7, s7, t7, u7, v7⟩ := add_step a7 b7 (c := x6 / 65536) ⟨t6, u6⟩
  simp only [p7, r7, Option.bind_some]
  obtain ⟨x8, p8, q8, r8, s8, t8, u8, v8⟩ := add_step a8 b8 (c := x7 / 65536) ⟨t7, u7⟩
  simp only [p8, r8, Option.bind_some]
  simp only [s0, s1, s2, s3, s4, s5, s6, s7, s8]
  refine ⟨_, rfl, ⟨v0, v1, v2, v3, v4, v5, v6, v7, v8⟩, ?_⟩
  clear p0 r0 s0 p1 r1 s1 p2 r2 s2 p3 r3 s3 p4 r4 s4 p5 r5 s5 p6 r6 s6 p7 r7 s7 p8 r8 s8 v0 v1 v2 v3 v4 v5 v6 v7
  unfold lsz at *
  unfold Dig at *
  simp only at *
  omega

theorem sub_step {a b c : Int} (ha : Dig a) (hb : Dig b) (hc : 0 ≤ c ∧ c ≤ 1) : ∃ x, IntKind.u32.wrap (IntKind.u32.wrap (IntKind.u32.wrap (a + 65536) - b) - c) = x ∧ x = a + 65536 - b - c ∧ IntKind.u32.wrap (1 - IntKind.u32.wrap (x.tdiv 65536)) = 1 - x / 65536 ∧ x.tmod 65536 = x % 65536 ∧ 0 ≤ 1 - x / 65536 ∧ 1 - x / 65536 ≤ 1 ∧ Dig (x % 65536) := by
  unfold Dig at *
  refine ⟨a + 65536 - b - c, ?_, rfl, ?_, u_mod (by omega), by omega, by omega, by omega⟩
  · rw [u32_id (a := a + 65536) (by omega), u32_id (a := a + 65536 - b) (by omega), u32_id (by omega)]
  · rw [u_div (by omega), u32_id (a := (a + 65536 - b - c) / 65536) (by omega), u32_id (by omega)]

theorem rest_eq {a b : Arr9_u32} (ha : Digs a) (hb : Digs b) (hs : lsz b ≤ lsz a) : ∃ c, epactref01_rest a b = some c ∧ Digs c ∧ lsz c = lsz a - lsz b := by
  obtain ⟨a0, a1, a2, a3, a4, a5, a6, a7, a8⟩ := ha
  obtain ⟨b0, b1, b2, b3, b4, b5, b6, b7, b8⟩ := hb
  unfold epactref01_rest
  obtain ⟨x0, p0, q0, r0, s0, t0, u0, v0⟩ := sub_step a0 b0 (c := 0) (by omega)
  simp only [p0, r0, Option.bind_some]
  obtain ⟨x1, p1, q1, r1, s1, t1, u1, v1⟩ := sub_step a1 b1 (c := 1 - x0 / 65536) ⟨t0, u0⟩
  simp only [p1, r1, Option.bind_some]
  obtain ⟨x2, p2, q2, r2, s2, t2, u2, v2⟩ := sub_step a2 b2 (c := 1 - x1 / 65536) ⟨t1, u1⟩
  simp only [p2, r2, Option.bind_some]
  obtain ⟨x3, p3, q3, r3, s3, t3, u3, v3⟩ := sub_step a3 b3 (c := 1 - x2 / 65536) ⟨t2, u2⟩
  simp only [p3, r3, Option.bind_some]
  obtain ⟨x4, p4, q4, r4, s4, t4, u4, v4⟩ := sub_step a4 b4 (c := 1 - x3 / 65536) ⟨t3, u3⟩
  simp only [p4, r4, Option.bind_some]
  obtain ⟨x5, p5, q5, r5, s5, t5, u5, v5⟩ := sub_step a5 b5 (c := 1 - x4 / 65536) ⟨t4, u4⟩
  simp only [p5, r5, Option.bind_some]
  obtain ⟨x6, p6, q6, r6, s6, t6, u6, v6⟩ := sub_step a6 b6 (c := 1 - x5 / 65536) ⟨t5, u5⟩
  simp only [p6, r6, Option.bind_some]
  obtain ⟨x7, p7, q7, r7, s7, t7, u7, v7⟩ := sub_step a7 b7 (c := 1 - x6 / 65536) ⟨t6, u6⟩
  simp only [p7, r7, Option.bind_some]
  obtain ⟨x8, p8, q8, r8, s8, t8, u8, v8⟩ := sub_step a8 b8 (c := 1 - x7 / 65536) ⟨t7, u7⟩
  simp only [p8, r8, Option.bind_some]
  simp only [s0, s1, s2, s3, s4, s5, s6, s7, s8]
  refine ⟨_, rfl, ⟨v0, v1, v2, v3, v4, v5, v6, v7, v8⟩, ?_⟩
  clear p0 r0 s0 p1 r1 s1 p2 r2 s2 p3 r3 s3 p4 r4 s4 p5 r5 s5 p6 r6 s6 p7 r7 s7 p8 r8 s8 v0 v1 v2 v3 v4 v5 v6 v7
  unfold lsz at *
  unfold Dig at *
  simp only at *
  omega

theorem sum_eq {a b : epactref01_long} (ha : Digs a.digits) (hb : Digs b.digits) (hs : lsz a.digits + lsz b.digits < 22300745198530623141535718272648361505980416) : ∃ c, epactref01_sum a b = some c ∧ Digs c.digits ∧ lval c = lval a + lval b := by
  unfold epactref01_sum
  by_cases hm : a.minus = b.minus
  · obtain ⟨c, e, hc, hv⟩ := more_eq ha hb hs
    simp only [hm, beq_self_eq_true, cond_true, e, Option.bind_some]
    refine ⟨_, rfl, hc, ?_⟩
    unfold lval; simp only [hm, hv]; split <;> omega
  · have hm' : (a.minus == b.minus) = false := by simpa using hm
    rw [hm', cond_false, below_iff ha hb]
    by_cases hl : lsz a.digits < lsz b.digits
    · obtain ⟨c, e, hc, hv⟩ := rest_eq hb ha (by omega)
      simp only [hl, decide_true, cond_true, e, Option.bind_some]
      refine ⟨_, rfl, hc, ?_⟩
      unfold lval; simp only [hv]
      cases h1 : a.minus <;> cases h2 : b.minus <;> simp_all <;> omega
    · obtain ⟨c, e, hc, hv⟩ := rest_eq ha hb (by omega)
      simp only [hl, decide_false, cond_false, e, Option.bind_some]
      refine ⟨_, rfl, hc, ?_⟩
      unfold lval; simp only [hv]
      cases h1 : a.minus <;> cases h2 : b.minus <;> simp_all <;> omega

end Go.Dn

set_option linter.unusedVariables false
set_option linter.unusedSimpArgs false
namespace Go.Dn
open Go

theorem mul_step {p c : Int} (hp : 0 ≤ p ∧ p ≤ 4294836225) (hc : 0 ≤ c ∧ c ≤ 65535) : ∃ x, IntKind.u32.wrap (IntKind.u32.wrap p + c) = x ∧ x = p + c ∧ IntKind.u32.wrap (x.tdiv 65536) = x / 65536 ∧ x.tmod 65536 = x % 65536 ∧ 0 ≤ x / 65536 ∧ x / 65536 ≤ 65535 ∧ Dig (x % 65536) := by
  unfold Dig at *
  refine ⟨p + c, ?_, rfl, ?_, u_mod (by omega), by omega, by omega, by omega⟩
  · rw [u32_id (a := p) (by omega), u32_id (by omega)]
  · rw [u_div (by omega), u32_id (by omega)]
theorem dig_mul {u v : Int} (hu : Dig u) (hv : Dig v) : 0 ≤ u * v ∧ u * v ≤ 4294836225 := by
  obtain ⟨h1, h2⟩ := hu
  obtain ⟨h3, h4⟩ := hv
  have h2 : u ≤ 65535 := by omega
  have h4 : v ≤ 65535 := by omega
  exact ⟨Int.mul_nonneg h1 h3, Int.le_trans (Int.mul_le_mul h2 h4 h3 (by omega)) (by decide)⟩
theorem row_val {p0 p1 p2 p3 p4 x0 x1 x2 x3 x4 : Int} (q0 : x0 = p0 + 0) (q1 : x1 = p1 + x0 / 65536) (q2 : x2 = p2 + x1 / 65536) (q3 : x3 = p3 + x2 / 65536) (q4 : x4 = p4 + x3 / 65536) (hz : p4 = 0) (h3 : x3 / 65536 ≤ 65535) (h0 : 0 ≤ x3 / 65536) :
    x0 % 65536 + 65536 * (x1 % 65536 + 65536 * (x2 % 65536 + 65536 * (x3 % 65536 + 65536 * (x4 % 65536)))) = p0 + 65536 * (p1 + 65536 * (p2 + 65536 * p3)) := by
  omega
theorem mulB (u b0 b1 b2 b3 : Int) : u * (b0 + 65536 * (b1 + 65536 * (b2 + 65536 * b3))) = u * b0 + 65536 * (u * b1 + 65536 * (u * b2 + 65536 * (u * b3))) := by
  rw [Int.mul_add u b0, Int.mul_left_comm u 65536, Int.mul_add u b1, Int.mul_left_comm u 65536 (b2 + _), Int.mul_add u b2, Int.mul_left_comm u 65536 b3]
theorem mulA (u b0 b1 b2 b3 : Int) : (b0 + 65536 * (b1 + 65536 * (b2 + 65536 * b3))) * u = b0 * u + 65536 * (b1 * u + 65536 * (b2 * u + 65536 * (b3 * u))) := by
  rw [Int.mul_comm, mulB, Int.mul_comm b0, Int.mul_comm b1, Int.mul_comm b2, Int.mul_comm b3]
structure Low (d : Arr9_u32) : Prop where
  z4 : d.d4 = 0
  z5 : d.d5 = 0
  z6 : d.d6 = 0
  z7 : d.d7 = 0
  z8 : d.d8 = 0
theorem lsz_low {d : Arr9_u32} (h : Low d) : lsz d = d.d0 + 65536 * (d.d1 + 65536 * (d.d2 + 65536 * d.d3)) := by
  obtain ⟨h1, h2, h3, h4, h5⟩ := h
  unfold lsz; rw [h1, h2, h3, h4, h5]; simp
theorem zero_dig : Dig 0 := by unfold Dig; omega
theorem zero_digs : Digs ⟨0, 0, 0, 0, 0, 0, 0, 0, 0⟩ := ⟨zero_dig, zero_dig, zero_dig, zero_dig, zero_dig, zero_dig, zero_dig, zero_dig, zero_dig⟩

theorem product_eq {a b : epactref01_long} (ha : Digs a.digits) (hb : Digs b.digits) (la : Low a.digits) (lb : Low b.digits) :
    ∃ c, epactref01_product a b = some c ∧ Digs c.digits ∧ lsz c.digits = lsz a.digits * lsz b.digits ∧ c.minus = (a.minus != b.minus) := by
  have hz : ∀ u : Int, u * b.digits.d4 = 0 := fun u => by rw [lb.z4, Int.mul_zero]
  rw [lsz_low la, lsz_low lb, mulA]
  simp only [mulB]
  unfold epactref01_product
  obtain ⟨x00, p00, q00, r00, s00, t00, u00, v00⟩ := mul_step (dig_mul ha.h0 hb.h0) (c := 0) ⟨by omega, by omega⟩
  simp only [p00, r00, Option.bind_some]
  obtain ⟨x01, p01, q01, r01, s01, t01, u01, v01⟩ := mul_step (dig_mul ha.h0 hb.h1) (c := x00 / 65536) ⟨t00, u00⟩
  simp only [p01, r01, Option.bind_some]
  obtain ⟨x02, p02, q02, r02, s02, t02, u02, v02⟩ := mul_step (dig_mul ha.h0 hb.h2) (c := x01 / 65536) ⟨t01, u01⟩
  simp only [p02, r02, Option.bind_some]
  obtain ⟨x03, p03, q03, r03, s03, t03, u03, v03⟩ := mul_step (dig_mul ha.h0 hb.h3) (c := x02 / 65536) ⟨t02, u02⟩
  simp only [p03, r03, Option.bind_some]
  obtain ⟨x04, p04, q04, r04, s04, t04, u04, v04⟩ := mul_step (dig_mul ha.h0 hb.h4) (c := x03 / 65536) ⟨t03, u03⟩
  simp only [p04, r04, Option.bind_some]
  have e0 := row_val q00 q01 q02 q03 q04 (hz _) u03 t03
  simp only [s00, s01, s02, s03, s04]
  have d0 : Digs ⟨x00 % 65536, x01 % 65536, x02 % 65536, x03 % 65536, x04 % 65536, 0, 0, 0, 0⟩ := ⟨v00, v01, v02, v03, v04, zero_dig, zero_dig, zero_dig, zero_dig⟩
  have b0 : lsz ⟨x00 % 65536, x01 % 65536, x02 % 65536, x03 % 65536, x04 % 65536, 0, 0, 0, 0⟩ < 1208925819614629174706176 := by
    obtain ⟨h0, h1, h2, h3, h4, h5, h6, h7, h8⟩ := d0
    unfold Dig at *; unfold lsz; simp only at *; omega
  have f0 : lsz ⟨0, 0, 0, 0, 0, 0, 0, 0, 0⟩ ≤ 18446744073709551616 := by unfold lsz; simp
  obtain ⟨c0, k0, m0, n0⟩ := more_eq zero_digs d0 (by omega)
  simp only [k0, Option.bind_some]
  obtain ⟨x10, p10, q10, r10, s10, t10, u10, v10⟩ := mul_step (dig_mul ha.h1 hb.h0) (c := 0) ⟨by omega, by omega⟩
  simp only [p10, r10, Option.bind_some]
  obtain ⟨x11, p11, q11, r11, s11, t11, u11, v11⟩ := mul_step (dig_mul ha.h1 hb.h1) (c := x10 / 65536) ⟨t10, u10⟩
  simp only [p11, r11, Option.bind_some]
  obtain ⟨x12, p12, q12, r12, s12, t12, u12, v12⟩ := mul_step (dig_mul ha.h1 hb.h2) (c := x11 / 65536) ⟨t11, u11⟩
  simp only [p12, r12, Option.bind_some]
  obtain ⟨x13, p13, q13, r13, s13, t13, u13, v13⟩ := mul_step (dig_mul ha.h1 hb.h3) (c := x12 / 65536) ⟨t12, u12⟩
  simp only [p13, r13, Option.bind_some]
  obtain ⟨x14, p14, q14, r14, s14, t14, u14, v14⟩ := mul_step (dig_mul ha.h1 hb.h4) (c := x13 / 65536) ⟨t13, u13⟩
  simp only [p14, r14, Option.bind_some]
  have e1 := row_val q10 q11 q12 q13 q14 (hz _) u13 t13
  simp only [s10, s11, s12, s13, s14]
  have d1 : Digs ⟨0, x10 % 65536, x11 % 65536, x12 % 65536, x13 % 65536, x14 % 65536, 0, 0, 0⟩ := ⟨zero_dig, v10, v11, v12, v13, v14, zero_dig, zero_dig, zero_dig⟩
  have b1 : lsz ⟨0, x10 % 65536, x11 % 65536, x12 % 65536, x13 % 65536, x14 % 65536, 0, 0, 0⟩ < 79228162514264337593543950336 := by
    obtain ⟨h0, h1, h2, h3, h4, h5, h6, h7, h8⟩ := d1
    unfold Dig at *; unfold lsz; simp only at *; omega
  have f1 : lsz c0 ≤ 2417851639229258349412352 := by omega
  obtain ⟨c1, k1, m1, n1⟩ := more_eq m0 d1 (by omega)
  simp only [k1, Option.bind_some]
  obtain ⟨x20, p20, q20, r20, s20, t20, u20, v20⟩ := mul_step (dig_mul ha.h2 hb.h0) (c := 0) ⟨by omega, by omega⟩
  simp only [p20, r20, Option.bind_some]
  obtain ⟨x21, p21, q21, r21, s21, t21, u21, v21⟩ := mul_step (dig_mul ha.h2 hb.h1) (c := x20 / 65536) ⟨t20, u20⟩
  simp only [p21, r21, Option.bind_some]
  obtain ⟨x22, p22, q22, r22, s22, t22, u22, v22⟩ := mul_step (dig_mul ha.h2 hb.h2) (c := x21 / 65536) ⟨t21, u21⟩
  simp only [p22, r22, Option.bind_some]
  obtain ⟨x23, p23, q23, r23, s23, t23, u23, v23⟩ := mul_step (dig_mul ha.h2 hb.h3) (c := x22 / 65536) ⟨t22, u22⟩
  simp only [p23, r23, Option.bind_some]
  obtain ⟨x24, p24, q24, r24, s24, t24, u24, v24⟩ := mul_step (dig_mul ha.h2 hb.h4) (c := x23 / 65536) ⟨t23, u23⟩
  simp only [p24, r24, Option.bind_some]
  have e2 := row_val q20 q21 q22 q23 q24 (hz _) u23 t23
  simp only [s20, s21, s22, s23, s24]
  have d2 : Digs ⟨0, 0, x20 % 65536, x21 % 65536, x22 % 65536, x23 % 65536, x24 % 65536, 0, 0⟩ := ⟨zero_dig, zero_dig, v20, v21, v22, v23, v24, zero_dig, zero_dig⟩
  have b2 : lsz ⟨0, 0, x20 % 65536, x21 % 65536, x22 % 65536, x23 % 65536, x24 % 65536, 0, 0⟩ < 5192296858534827628530496329220096 := by
    obtain ⟨h0, h1, h2, h3, h4, h5, h6, h7, h8⟩ := d2
    unfold Dig at *; unfold lsz; simp only at *; omega
  have f2 : lsz c1 ≤ 237684487542793012780631851008 := by omega
  obtain ⟨c2, k2, m2, n2⟩ := more_eq m1 d2 (by omega)
  simp only [k2, Option.bind_some]
  obtain ⟨x30, p30, q30, r30, s30, t30, u30, v30⟩ := mul_step (dig_mul ha.h3 hb.h0) (c := 0) ⟨by omega, by omega⟩
  simp only [p30, r30, Option.bind_some]
  obtain ⟨x31, p31, q31, r31, s31, t31, u31, v31⟩ := mul_step (dig_mul ha.h3 hb.h1) (c := x30 / 65536) ⟨t30, u30⟩
  simp only [p31, r31, Option.bind_some]
  obtain ⟨x32, p32, q32, r32, s32, t32, u32, v32⟩ := mul_step (dig_mul ha.h3 hb.h2) (c := x31 / 65536) ⟨t31, u31⟩
  simp only [p32, r32, Option.bind_some]
  obtain ⟨x33, p33, q33, r33, s33, t33, u33, v33⟩ := mul_step (dig_mul ha.h3 hb.h3) (c := x32 / 65536) ⟨t32, u32⟩
  simp only [p33, r33, Option.bind_some]
  obtain ⟨x34, p34, q34, r34, s34, t34, u34, v34⟩ := mul_step (dig_mul ha.h3 hb.h4) (c := x33 / 65536) ⟨t33, u33⟩
  simp only [p34, r34, Option.bind_some]
  have e3 := row_val q30 q31 q32 q33 q34 (hz _) u33 t33
  simp only [s30, s31, s32, s33, s34]
  have d3 : Digs ⟨0, 0, 0, x30 % 65536, x31 % 65536, x32 % 65536, x33 % 65536, x34 % 65536, 0⟩ := ⟨zero_dig, zero_dig, zero_dig, v30, v31, v32, v33, v34, zero_dig⟩
  have b3 : lsz ⟨0, 0, 0, x30 % 65536, x31 % 65536, x32 % 65536, x33 % 65536, x34 % 65536, 0⟩ < 340282366920938463463374607431768211456 := by
    obtain ⟨h0, h1, h2, h3, h4, h5, h6, h7, h8⟩ := d3
    unfold Dig at *; unfold lsz; simp only at *; omega
  have f3 : lsz c2 ≤ 20769187434139310514121985316880384 := by omega
  obtain ⟨c3, k3, m3, n3⟩ := more_eq m2 d3 (by omega)
  simp only [k3, Option.bind_some]
  refine ⟨_, rfl, m3, ?_, rfl⟩
  show lsz c3 = _
  rw [n3, n2, n1, n0]
  have g0 : lsz ⟨x00 % 65536, x01 % 65536, x02 % 65536, x03 % 65536, x04 % 65536, 0, 0, 0, 0⟩ = (a.digits.d0 * b.digits.d0 + 65536 * (a.digits.d0 * b.digits.d1 + 65536 * (a.digits.d0 * b.digits.d2 + 65536 * (a.digits.d0 * b.digits.d3)))) := by rw [← e0]; unfold lsz; simp only; omega
  have g1 : lsz ⟨0, x10 % 65536, x11 % 65536, x12 % 65536, x13 % 65536, x14 % 65536, 0, 0, 0⟩ = 65536 * (a.digits.d1 * b.digits.d0 + 65536 * (a.digits.d1 * b.digits.d1 + 65536 * (a.digits.d1 * b.digits.d2 + 65536 * (a.digits.d1 * b.digits.d3)))) := by rw [← e1]; unfold lsz; simp only; omega
  have g2 : lsz ⟨0, 0, x20 % 65536, x21 % 65536, x22 % 65536, x23 % 65536, x24 % 65536, 0, 0⟩ = 4294967296 * (a.digits.d2 * b.digits.d0 + 65536 * (a.digits.d2 * b.digits.d1 + 65536 * (a.digits.d2 * b.digits.d2 + 65536 * (a.digits.d2 * b.digits.d3)))) := by rw [← e2]; unfold lsz; simp only; omega
  have g3 : lsz ⟨0, 0, 0, x30 % 65536, x31 % 65536, x32 % 65536, x33 % 65536, x34 % 65536, 0⟩ = 281474976710656 * (a.digits.d3 * b.digits.d0 + 65536 * (a.digits.d3 * b.digits.d1 + 65536 * (a.digits.d3 * b.digits.d2 + 65536 * (a.digits.d3 * b.digits.d3)))) := by rw [← e3]; unfold lsz; simp only; omega
  have gz : lsz ⟨0, 0, 0, 0, 0, 0, 0, 0, 0⟩ = 0 := by unfold lsz; simp
  rw [g0, g1, g2, g3, gz]
  omega

theorem product_val {a b c : epactref01_long} (h : lsz c.digits = lsz a.digits * lsz b.digits) (hm : c.minus = (a.minus != b.minus)) : lval c = lval a * lval b := by
  unfold lval
  rw [h, hm]
  cases a.minus <;> cases b.minus <;> simp [Int.neg_mul, Int.mul_neg]

theorem td_neg {x : Int} (h : x ≤ 0) : x.tdiv 65536 = -((-x) / 65536) := by
  have : x = -(-x) := by omega
  rw [this, Int.neg_tdiv, Int.tdiv_eq_ediv_of_nonneg (by omega)]
  simp

theorem number_eq {a : epactref01_long} (h : Digs a.digits) : epactref01_number a = some (fitS (lval a)) := by
  obtain ⟨h0, h1, h2, h3, h4, h5, h6, h7, h8⟩ := h
  unfold Dig at *
  have hn : lsz a.digits = a.digits.d0 + 65536 * (a.digits.d1 + 65536 * (a.digits.d2 + 65536 * (a.digits.d3 + 65536 * (a.digits.d4 + 65536 * (a.digits.d5 + 65536 * (a.digits.d6 + 65536 * (a.digits.d7 + 65536 * a.digits.d8))))))) := rfl
  have hbig : 9223372036854775808 < lsz a.digits → fitS (lval a) = (0, 10) := fun hb => by
    apply fitS_not; unfold In64 lval; split <;> omega
  unfold epactref01_number
  simp only [Option.bind_some]
  rw [w64_id (x := a.digits.d8) (by omega), w64_id (x := a.digits.d7) (by omega), w64_id (x := a.digits.d6) (by omega), w64_id (x := a.digits.d5) (by omega), w64_id (x := a.digits.d4) (by omega), w64_id (x := a.digits.d3) (by omega), w64_id (x := a.digits.d2) (by omega), w64_id (x := a.digits.d1) (by omega), w64_id (x := a.digits.d0) (by omega)]
  have key : ∀ d : Int, 0 ≤ d ∧ d < 65536 → w64 ((w64 (-9223372036854775808 + d)).tdiv 65536) = -((9223372036854775808 - d) / 65536) := fun d hd => by
    rw [w64_id (x := -9223372036854775808 + d) (by omega), td_neg (by omega), w64_id (by omega)]
    omega
  rw [key _ h3, key _ h2, key _ h1, key _ h0]
  by_cases g8 : a.digits.d8 > 0
  · simp only [g8, decide_true, cond_true, Option.bind_some, Jx.elim]
    rw [hbig (by omega)]
  simp only [g8, decide_false, cond_false, Option.bind_some, Jx.elim]
  by_cases g7 : a.digits.d7 > 0
  · simp only [g7, decide_true, cond_true, Option.bind_some, Jx.elim]
    rw [hbig (by omega)]
  simp only [g7, decide_false, cond_false, Option.bind_some, Jx.elim]
  by_cases g6 : a.digits.d6 > 0
  · simp only [g6, decide_true, cond_true, Option.bind_some, Jx.elim]
    rw [hbig (by omega)]
  simp only [g6, decide_false, cond_false, Option.bind_some, Jx.elim]
  by_cases g5 : a.digits.d5 > 0
  · simp only [g5, decide_true, cond_true, Option.bind_some, Jx.elim]
    rw [hbig (by omega)]
  simp only [g5, decide_false, cond_false, Option.bind_some, Jx.elim]
  by_cases g4 : a.digits.d4 > 0
  · simp only [g4, decide_true, cond_true, Option.bind_some, Jx.elim]
    rw [hbig (by omega)]
  simp only [g4, decide_false, cond_false, Option.bind_some, Jx.elim]
  rw [dec_f (p := 0 < -((9223372036854775808 - a.digits.d3) / 65536)) (by omega)]
  simp only [cond_false, Option.bind_some, Jx.elim]
  rw [w64_id (x := 0 - a.digits.d3) (by omega)]
  by_cases q2 : 0 - a.digits.d3 < -((9223372036854775808 - a.digits.d2) / 65536)
  · simp only [q2, decide_true, cond_true, Option.bind_some, Jx.elim]
    rw [hbig (by omega)]
  simp only [q2, decide_false, cond_false, Option.bind_some, Jx.elim]
  rw [w64_id (x := (0 - a.digits.d3) * 65536) (by omega), w64_id (x := (0 - a.digits.d3) * 65536 - a.digits.d2) (by omega)]
  by_cases q1 : (0 - a.digits.d3) * 65536 - a.digits.d2 < -((9223372036854775808 - a.digits.d1) / 65536)
  · simp only [q1, decide_true, cond_true, Option.bind_some, Jx.elim]
    rw [hbig (by omega)]
  simp only [q1, decide_false, cond_false, Option.bind_some, Jx.elim]
  rw [w64_id (x := ((0 - a.digits.d3) * 65536 - a.digits.d2) * 65536) (by omega), w64_id (x := ((0 - a.digits.d3) * 65536 - a.digits.d2) * 65536 - a.digits.d1) (by omega)]
  by_cases q0 : ((0 - a.digits.d3) * 65536 - a.digits.d2) * 65536 - a.digits.d1 < -((9223372036854775808 - a.digits.d0) / 65536)
  · simp only [q0, decide_true, cond_true, Option.bind_some, Jx.elim]
    rw [hbig (by omega)]
  simp only [q0, decide_false, cond_false, Option.bind_some, Jx.elim]
  rw [w64_id (x := (((0 - a.digits.d3) * 65536 - a.digits.d2) * 65536 - a.digits.d1) * 65536) (by omega), w64_id (x := (((0 - a.digits.d3) * 65536 - a.digits.d2) * 65536 - a.digits.d1) * 65536 - a.digits.d0) (by omega)]
  have ev : (((0 - a.digits.d3) * 65536 - a.digits.d2) * 65536 - a.digits.d1) * 65536 - a.digits.d0 = -lsz a.digits := by omega
  rw [ev]
  have hl : 0 ≤ lsz a.digits ∧ lsz a.digits ≤ 9223372036854775808 := by omega
  unfold lval
  generalize lsz a.digits = v at hl ⊢
  cases a.minus
  · simp only [cond_false, Bool.false_eq_true, if_false]
    by_cases hv : v = 9223372036854775808
    · subst hv; rfl
    · rw [beq_f (by omega), cond_false, w64_id (by omega), fitS_of (by unfold In64; omega)]
      simp
  · simp only [cond_true, if_true]
    rw [fitS_of (by unfold In64; omega)]

theorem ref01_Add_eq {a b : Int} (ha : In64 a) (hb : In64 b) : epactref01_Add a b = some (fitS (a + b)) := by
  obtain ⟨x, e1, d1, z1, -, v1, -⟩ := ref01_of_digs ha
  obtain ⟨y, e2, d2, z2, -, v2, -⟩ := ref01_of_digs hb
  obtain ⟨z, e3, d3, v3⟩ := sum_eq d1 d2 (by unfold In64 at *; omega)
  unfold epactref01_Add
  rw [e1, e2]; simp only [Option.bind_some]; rw [e3]; simp only [Option.bind_some]; rw [number_eq d3, v3, v1, v2]; rfl
theorem ref01_Sub_eq {a b : Int} (ha : In64 a) (hb : In64 b) : epactref01_Sub a b = some (fitS (a - b)) := by
  obtain ⟨x, e1, d1, z1, -, v1, -⟩ := ref01_of_digs ha
  obtain ⟨y, e2, d2, z2, -, v2, -⟩ := ref01_of_digs hb
  obtain ⟨z, e3, d3, v3⟩ := sum_eq (b := ⟨!y.minus, y.digits⟩) d1 d2 (by unfold In64 at *; simp only; omega)
  unfold epactref01_Sub
  rw [e1, e2]; simp only [Option.bind_some]; rw [e3]; simp only [Option.bind_some]; rw [number_eq d3, v3, v1]
  have : lval ⟨!y.minus, y.digits⟩ = -b := by rw [← v2]; unfold lval; cases y.minus <;> simp
  rw [this]; rfl
theorem low_of {x : epactref01_long} (h : x.digits.d4 = 0 ∧ x.digits.d5 = 0 ∧ x.digits.d6 = 0 ∧ x.digits.d7 = 0 ∧ x.digits.d8 = 0) : Low x.digits := ⟨h.1, h.2.1, h.2.2.1, h.2.2.2.1, h.2.2.2.2⟩
theorem ref01_Mul_eq {a b : Int} (ha : In64 a) (hb : In64 b) : epactref01_Mul a b = some (fitS (a * b)) := by
  obtain ⟨x, e1, d1, z1, -, v1, l1⟩ := ref01_of_digs ha
  obtain ⟨y, e2, d2, z2, -, v2, l2⟩ := ref01_of_digs hb
  obtain ⟨z, e3, d3, v3, m3⟩ := product_eq d1 d2 (low_of l1) (low_of l2)
  unfold epactref01_Mul
  rw [e1, e2]; simp only [Option.bind_some]; rw [e3]; simp only [Option.bind_some]; rw [number_eq d3, product_val v3 m3, v1, v2]; rfl

end Go.Dn

set_option linter.unusedVariables false
set_option linter.unusedSimpArgs false
namespace Go.Dn
open Go

theorem safe_Sub_eq {a b : Int} (ha : In64 a) (hb : In64 b) : safe_Sub a b = fitS (a - b) := by
  unfold In64 at ha hb
  unfold safe_Sub fitS w64
  rw [wrap_i64]
  cases h : ((decide ((a - b + 9223372036854775808) % 18446744073709551616 - 9223372036854775808 < a) != decide (b > 0)) && b != 0)
  · rw [cond_false]
    simp only [Bool.and_eq_false_iff, bne_eq_false_iff_eq, decide_eq_decide] at h
    split <;> simp only [Prod.mk.injEq, and_true] <;> omega
  · rw [cond_true]
    simp only [Bool.and_eq_true, bne_iff_ne, ne_eq, decide_eq_decide] at h
    split <;> simp only [Prod.mk.injEq] <;> omega

theorem safe_Right_iff {a : Bound} : safe_Right a = true ↔ a.Inf = 0 ∨ a.Inf = 1 ∧ a.N = 0 ∨ a.Inf = -1 ∧ a.N = 0 := by
  unfold safe_Right
  simp
  omega

/-- The three kinds of bounds. -/
theorem right_cases {a : Bound} (h : safe_Right a = true) : (∃ n, a = ⟨0, n⟩) ∨ a = ⟨1, 0⟩ ∨ a = ⟨-1, 0⟩ := by
  obtain ⟨i, n⟩ := a
  rw [safe_Right_iff] at h
  simp only at h
  rcases h with rfl | ⟨rfl, rfl⟩ | ⟨rfl, rfl⟩
  · exact .inl ⟨n, rfl⟩
  · exact .inr (.inl rfl)
  · exact .inr (.inr rfl)

theorem right_n' (n : Int) : safe_Right ⟨0, n⟩ = true := rfl
theorem w64_sub (a z : Int) : w64 (a - w64 z) = w64 (a - z) := by unfold w64; simp only [wrap_i64]; omega

/-- What Floor checks of a quotient and a rest. -/
theorem floor_check {q b r a : Int} (hq : In64 q) (hb : In64 b) (hr : In64 r) (ha : In64 a) (he : q * b + r = a) :
    ∃ x3 x4 x5 x6 x7 x8, epactref01_of q = some x3 ∧ epactref01_of b = some x4 ∧ epactref01_product x3 x4 = some x5 ∧ epactref01_of r = some x6 ∧ epactref01_sum x5 x6 = some x7 ∧ epactref01_of a = some x8 ∧
      ((((!(epactref01_below x7.digits x8.digits)) && (!(epactref01_below x8.digits x7.digits))) && ((x7.minus == x8.minus) || (a == 0)))) = true := by
  obtain ⟨x3, e3, d3, z3, -, v3, l3⟩ := ref01_of_digs hq
  obtain ⟨x4, e4, d4, z4, -, v4, l4⟩ := ref01_of_digs hb
  obtain ⟨x5, e5, d5, v5, m5⟩ := product_eq d3 d4 (low_of l3) (low_of l4)
  obtain ⟨x6, e6, d6, z6, -, v6, -⟩ := ref01_of_digs hr
  have hp : lsz x3.digits * lsz x4.digits ≤ 9223372036854775808 * 9223372036854775808 := by
    rw [z3, z4]
    exact Int.mul_le_mul (by unfold In64 at hq; omega) (by unfold In64 at hb; omega) (by omega) (by omega)
  obtain ⟨x7, e7, d7, v7⟩ := sum_eq d5 d6 (by rw [v5, z6]; unfold In64 at hr; omega)
  obtain ⟨x8, e8, d8, z8, m8, v8, -⟩ := ref01_of_digs ha
  refine ⟨x3, x4, x5, x6, x7, x8, e3, e4, e5, e6, e7, e8, ?_⟩
  rw [product_val v5 m5, v3, v4, v6, he] at v7
  have n7 := lsz_nonneg d7
  have hz : lsz x7.digits = a.natAbs := by
    unfold lval at v7; split at v7 <;> omega
  rw [below_iff d7 d8, below_iff d8 d7, hz, z8, m8]
  simp only [Int.lt_irrefl, decide_false, Bool.not_false, Bool.and_self, Bool.true_and, Bool.or_eq_true, beq_iff_eq]
  by_cases h0 : a = 0
  · exact .inr h0
  · left
    unfold lval at v7
    cases h : x7.minus
    · rw [h] at v7; simp at v7; symm; apply dec_f; omega
    · rw [h] at v7; simp at v7; symm; apply dec_t; omega

theorem ref01_Floor_eq {a b : Int} (ha : In64 a) (hb : In64 b) : epactref01_Floor a b = some (floorS a b) := by
  unfold epactref01_Floor
  by_cases h0 : b = 0
  · subst h0; simp [floorS]
  rw [beq_f h0, cond_false]
  by_cases h1 : b = -1
  · subst h1
    rw [beq_t rfl, cond_true, ref01_Sub_eq (a := 0) (by unfold In64; omega) ha]
    simp only [Option.bind_some]
    unfold floorS
    rw [if_neg (by decide)]
    by_cases hm : a = -9223372036854775808
    · subst hm; rfl
    · rw [if_neg (by simp [hm]), fitS_of (by unfold In64 at *; omega)]
      have t0 : a.tmod (-1) = 0 := by rw [Int.tmod_neg, Int.tmod_one]
      obtain ⟨q1, q2⟩ := floor_same (a := a) (b := -1) (by decide) (.inl t0)
      rw [q1, q2, t0, Int.tdiv_neg, Int.tdiv_one]
      simp
  rw [beq_f h1, cond_false, nz?_ok h0]
  simp only [Option.bind_some]
  have hn : ¬(b = -1 ∧ a = -9223372036854775808) := fun h => h1 h.1
  have hq := tdiv_in ha h0 hn
  have hr := tmod_in (a := a) hb h0
  have e0 : a - a.tdiv b * b = a.tmod b := by rw [Int.tmod_def, Int.mul_comm]
  have hr0 : (a.tmod b).natAbs < b.natAbs := by rw [Int.natAbs_tmod]; exact Nat.mod_lt _ (by omega)
  rw [w64_sub, w64_id hq, e0, w64_id hr]
  obtain ⟨x3, x4, x5, x6, x7, x8, e3, e4, e5, e6, e7, e8, hc⟩ := floor_check hq hb hr ha (by omega)
  rw [e3, e4]; simp only [Option.bind_some]; rw [e5]; simp only [Option.bind_some]; rw [e6]; simp only [Option.bind_some]; rw [e7]; simp only [Option.bind_some]; rw [e8]; simp only [Option.bind_some]
  rw [hc, Bool.true_and]
  unfold floorS
  rw [if_neg h0, if_neg hn]
  by_cases hs : a.tmod b = 0 ∨ (a.tmod b < 0 ↔ b < 0)
  · obtain ⟨q1, q2⟩ := floor_same h0 hs
    have : (((a.tmod b == 0) || (((decide (b > 0)) && (decide (a.tmod b > 0))) && (decide (a.tmod b < b)))) || (((decide (b < 0)) && (decide (a.tmod b < 0))) && (decide (a.tmod b > b)))) = true := by
      simp only [Bool.or_eq_true, Bool.and_eq_true, decide_eq_true_eq, beq_iff_eq]
      omega
    rw [this, cond_true, q1, q2]
  · have t1 : a.tmod b ≠ 0 := fun h => hs (.inl h)
    have t2 : ¬(a.tmod b < 0 ↔ b < 0) := fun h => hs (.inr h)
    obtain ⟨q1, q2⟩ := floor_up h0 t1 t2
    have : (((a.tmod b == 0) || (((decide (b > 0)) && (decide (a.tmod b > 0))) && (decide (a.tmod b < b)))) || (((decide (b < 0)) && (decide (a.tmod b < 0))) && (decide (a.tmod b > b)))) = false := by
      apply Bool.eq_false_iff.2
      intro h
      simp only [Bool.or_eq_true, Bool.and_eq_true, decide_eq_true_eq, beq_iff_eq] at h
      omega
    rw [this, cond_false]
    have hq1 := tdiv_in1 ha h0 t1
    have hr1 : In64 (a.tmod b + b) := by unfold In64 at *; omega
    rw [w64_id hq1, w64_id hr1]
    obtain ⟨y3, y4, y5, y6, y7, y8, f3, f4, f5, f6, f7, f8, hd⟩ := floor_check hq1 hb hr1 ha (by rw [Int.sub_mul]; omega)
    obtain rfl : y4 = x4 := Option.some.inj (f4.symm.trans e4)
    obtain rfl : y8 = x8 := Option.some.inj (f8.symm.trans e8)
    rw [f3]; simp only [Option.bind_some]; rw [f5]; simp only [Option.bind_some]; rw [f6]; simp only [Option.bind_some]; rw [f7]; simp only [Option.bind_some]
    rw [hd, Bool.true_and]
    have : (((a.tmod b + b == 0) || (((decide (b > 0)) && (decide (a.tmod b + b > 0))) && (decide (a.tmod b + b < b)))) || (((decide (b < 0)) && (decide (a.tmod b + b < 0))) && (decide (a.tmod b + b > b)))) = true := by
      simp only [Bool.or_eq_true, Bool.and_eq_true, decide_eq_true_eq, beq_iff_eq]
      omega
    rw [this, cond_true, q1, q2]

/-! ### The greatest common divisor, by halves -/
theorem gcd_half {m n : Nat} (h : n % 2 = 1) : Nat.gcd (2 * m) n = Nat.gcd m n := by
  apply Nat.Coprime.gcd_mul_left_cancel
  unfold Nat.Coprime
  rw [Nat.gcd_rec, h]
  decide
theorem cast_div2 (m : Nat) : ((m : Int)).tdiv 2 = ((m / 2 : Nat) : Int) := by rw [Int.tdiv_eq_ediv_of_nonneg (by omega)]; rfl
theorem cast_mod2 (m : Nat) : ((m : Int)).tmod 2 = ((m % 2 : Nat) : Int) := by rw [Int.tmod_eq_emod_of_nonneg (by omega)]; rfl
theorem common_eq {a b : Nat} (ha : a < 18446744073709551616) (hb : b < 18446744073709551616) : epactref01_common a b = some ((Nat.gcd a b : Nat) : Int) := by
  have hg : Nat.gcd a b < 18446744073709551616 := by
    by_cases h : a = 0
    · subst h; rw [Nat.gcd_zero_left]; exact hb
    · exact Nat.lt_of_le_of_lt (Nat.gcd_le_left b (by omega)) ha
  unfold epactref01_common
  have key : ∀ s : Int × Int × Int, (∃ m n k : Nat, s = ((m : Int), (n : Int), (k : Int)) ∧ m < 18446744073709551616 ∧ n < 18446744073709551616 ∧ k * Nat.gcd m n = Nat.gcd a b) →
      (∃ s', epactref01_common.s0 s = some (.inl s') ∧ (∃ m n k : Nat, s' = ((m : Int), (n : Int), (k : Int)) ∧ m < 18446744073709551616 ∧ n < 18446744073709551616 ∧ k * Nat.gcd m n = Nat.gcd a b) ∧ s'.1.toNat + s'.2.1.toNat < s.1.toNat + s.2.1.toNat) ∨
      (∃ r, epactref01_common.s0 s = some (.inr r) ∧ ∃ m n k : Nat, r = ((m : Int), (n : Int), (k : Int)) ∧ (m + n) * k = Nat.gcd a b ∧ m + n < 18446744073709551616) := by
    rintro s ⟨m, n, k, rfl, hm, hn, e⟩
    unfold epactref01_common.s0
    simp only [cast_mod2, cast_div2]
    by_cases h0 : 0 < m ∧ 0 < n
    · left
      obtain ⟨hm0, hn0⟩ := h0
      rw [dec_t (p := (m : Int) > 0) (by omega), dec_t (p := (n : Int) > 0) (by omega)]
      simp only [Bool.and_self, cond_true]
      by_cases m2 : m % 2 = 0
      · have b1 : (((m % 2 : Nat) : Int) == 0) = true := by rw [m2]; rfl
        by_cases n2 : n % 2 = 0
        · have b2 : (((n % 2 : Nat) : Int) == 0) = true := by rw [n2]; rfl
          rw [b1, b2]
          simp only [Bool.and_self, cond_true, Option.bind_some]
          have em : m = 2 * (m / 2) := by omega
          have en : n = 2 * (n / 2) := by omega
          have e2 : 2 * k * Nat.gcd (m / 2) (n / 2) = Nat.gcd a b := by
            rw [← e]
            conv => rhs; rw [em, en, Nat.gcd_mul_left]
            rw [Nat.mul_comm 2 k, Nat.mul_assoc]
          have gp : 1 ≤ Nat.gcd (m / 2) (n / 2) := Nat.gcd_pos_of_pos_left _ (by omega)
          have kb : 2 * k ≤ Nat.gcd a b := by
            rw [← e2]; exact Nat.le_mul_of_pos_right _ gp
          rw [u64_id (a := ((m / 2 : Nat) : Int)) (by omega), u64_id (a := ((n / 2 : Nat) : Int)) (by omega), u64_id (a := (k : Int) * 2) (by omega)]
          refine ⟨_, rfl, ⟨m / 2, n / 2, 2 * k, ?_, by omega, by omega, e2⟩, ?_⟩
          · simp only [Prod.mk.injEq, true_and]; omega
          · simp only; omega
        · have b2 : (((n % 2 : Nat) : Int) == 0) = false := by rw [show n % 2 = 1 by omega]; rfl
          rw [b1, b2]
          simp only [Bool.and_false, cond_false, cond_true, Option.bind_some]
          have em : m = 2 * (m / 2) := by omega
          rw [u64_id (a := ((m / 2 : Nat) : Int)) (by omega)]
          refine ⟨_, rfl, ⟨m / 2, n, k, rfl, by omega, by omega, ?_⟩, ?_⟩
          · rw [← e]; conv => rhs; rw [em, gcd_half (by omega)]
          · simp only; omega
      · have b1 : (((m % 2 : Nat) : Int) == 0) = false := by rw [show m % 2 = 1 by omega]; rfl
        by_cases n2 : n % 2 = 0
        · have b2 : (((n % 2 : Nat) : Int) == 0) = true := by rw [n2]; rfl
          rw [b1, b2]
          simp only [Bool.false_and, cond_false, cond_true, Option.bind_some]
          have en : n = 2 * (n / 2) := by omega
          rw [u64_id (a := ((n / 2 : Nat) : Int)) (by omega)]
          refine ⟨_, rfl, ⟨m, n / 2, k, rfl, by omega, by omega, ?_⟩, ?_⟩
          · rw [← e, Nat.gcd_comm m, Nat.gcd_comm m]; conv => rhs; rw [en, gcd_half (by omega)]
          · simp only; omega
        · have b2 : (((n % 2 : Nat) : Int) == 0) = false := by rw [show n % 2 = 1 by omega]; rfl
          rw [b1, b2]
          simp only [Bool.false_and, cond_false]
          by_cases hge : n ≤ m
          · rw [dec_t (p := (m : Int) ≥ n) (by omega), cond_true]
            simp only [Option.bind_some]
            rw [u64_id (a := (m : Int) - n) (by omega)]
            refine ⟨_, rfl, ⟨m - n, n, k, ?_, by omega, by omega, ?_⟩, ?_⟩
            · simp only [Prod.mk.injEq, and_true]; omega
            · rw [← e, Nat.gcd_sub_self_left hge]
            · simp only; omega
          · rw [dec_f (p := (m : Int) ≥ n) (by omega), cond_false]
            simp only [Option.bind_some]
            rw [u64_id (a := (n : Int) - m) (by omega)]
            refine ⟨_, rfl, ⟨m, n - m, k, ?_, by omega, by omega, ?_⟩, ?_⟩
            · simp only [Prod.mk.injEq, and_true, true_and]; omega
            · rw [← e, Nat.gcd_comm m, Nat.gcd_comm m, Nat.gcd_sub_self_left (by omega)]
            · simp only; omega
    · right
      have hf : ((decide ((m : Int) > 0)) && (decide ((n : Int) > 0))) = false := by
        apply Bool.eq_false_iff.2; intro h; simp only [Bool.and_eq_true, decide_eq_true_eq] at h; omega
      rw [hf, cond_false]
      refine ⟨_, rfl, m, n, k, rfl, ?_, by omega⟩
      rw [← e, Nat.mul_comm]
      congr 1
      by_cases hm0 : m = 0
      · subst hm0; rw [Nat.gcd_zero_left]; omega
      · have hn0 : n = 0 := by omega
        subst hn0; rw [Nat.gcd_zero_right]; omega
  obtain ⟨r, h1, h2⟩ := loopO_inv _ (fun s : Int × Int × Int => s.1.toNat + s.2.1.toNat) _ key ((a : Int), (b : Int), 1) ⟨a, b, 1, rfl, ha, hb, by omega⟩
  rw [h1]
  simp only [Option.bind_some]
  obtain ⟨m, n, k, rfl, e, hl⟩ := h2
  simp only
  rw [u64_id (a := (m : Int) + n) (by omega)]
  have : ((m : Int) + n) * k = ((Nat.gcd a b : Nat) : Int) := by rw [← e]; simp
  rw [this, u64_id (by omega)]

theorem ref01_size_eq {a : Int} (h : In64 a) : epactref01_size a = a.natAbs := by
  unfold In64 at h
  unfold epactref01_size
  by_cases h0 : a < 0
  · simp only [h0, decide_true, cond_true]
    rw [w64_id (x := a + 1) (by omega), w64_id (x := 0 - (a + 1)) (by omega), u64_id (a := 0 - (a + 1)) (by omega), u64_id (by omega)]
    omega
  · simp only [h0, decide_false, cond_false]
    rw [u64_id (by omega)]; omega

theorem gcd_ok {a b : Int} (ha : In64 a) (hb : In64 b) : gcd? (a.natAbs : Int) b.natAbs = some ((Nat.gcd a.natAbs b.natAbs : Nat) : Int) := by
  unfold gcd?
  rw [if_pos (by unfold In64 at *; omega)]
  rfl
theorem gcd_lt {a b : Int} (ha : In64 a) (hb : In64 b) : Nat.gcd a.natAbs b.natAbs ≤ 9223372036854775808 := by
  unfold In64 at *
  by_cases h : a = 0
  · subst h; simp; omega
  · exact Nat.le_trans (Nat.gcd_le_left _ (by omega)) (by omega)
theorem safe_Gcd_eq' {a b : Int} (ha : In64 a) (hb : In64 b) : safe_Gcd a b = some (fitS ((Nat.gcd a.natAbs b.natAbs : Nat) : Int)) := by
  have := gcd_lt ha hb
  unfold safe_Gcd
  rw [safe_size_eq ha, safe_size_eq hb, gcd_ok ha hb]
  simp only [Option.bind_some]
  rw [safe_signed_eq _ (by unfold InU64; omega)]
  rfl
theorem ref01_Gcd_eq {a b : Int} (ha : In64 a) (hb : In64 b) : epactref01_Gcd a b = some (fitS ((Nat.gcd a.natAbs b.natAbs : Nat) : Int)) := by
  have := gcd_lt ha hb
  unfold epactref01_Gcd
  rw [ref01_size_eq ha, ref01_size_eq hb, common_eq (by unfold In64 at *; omega) (by unfold In64 at *; omega)]
  simp only [Option.bind_some]
  generalize Nat.gcd a.natAbs b.natAbs = g at *
  by_cases h : (g : Int) > 9223372036854775807
  · rw [dec_t h, cond_true, fitS_not (by unfold In64; omega)]
  · rw [dec_f h, cond_false, fitS_of (by unfold In64; omega), w64_id (by omega)]

def lcmS (a b : Int) : Int × Int := if a = 0 ∨ b = 0 then (0, 0) else fitS (((a.natAbs / Nat.gcd a.natAbs b.natAbs : Nat) : Int) * b.natAbs)
theorem safe_Lcm_eq {a b : Int} (ha : In64 a) (hb : In64 b) : safe_Lcm a b = some (lcmS a b) := by
  have := gcd_lt ha hb
  unfold safe_Lcm lcmS
  rw [safe_size_eq ha, safe_size_eq hb]
  by_cases h0 : a = 0 ∨ b = 0
  · rw [if_pos h0]
    have : (((a.natAbs : Int) == 0) || ((b.natAbs : Int) == 0)) = true := by simp; omega
    rw [this, cond_true]
  rw [if_neg h0]
  have h1 : (((a.natAbs : Int) == 0) || ((b.natAbs : Int) == 0)) = false := by simp; omega
  rw [h1, cond_false, gcd_ok ha hb]
  simp only [Option.bind_some]
  have gp : 0 < Nat.gcd a.natAbs b.natAbs := Nat.gcd_pos_of_pos_left _ (by omega)
  rw [nz?_ok (by omega)]
  simp only [Option.bind_some]
  have hd : ((a.natAbs : Int)).tdiv ((Nat.gcd a.natAbs b.natAbs : Nat) : Int) = ((a.natAbs / Nat.gcd a.natAbs b.natAbs : Nat) : Int) := by
    rw [Int.tdiv_eq_ediv_of_nonneg (by omega)]; rfl
  have hle : a.natAbs / Nat.gcd a.natAbs b.natAbs ≤ a.natAbs := Nat.div_le_self _ _
  rw [hd]
  generalize a.natAbs / Nat.gcd a.natAbs b.natAbs = q at *
  rw [u64_id (a := (q : Int)) (by unfold In64 at ha; omega), mul64_eq (by unfold InU64; unfold In64 at ha; omega) (inU_abs hb)]
  simp only
  have hnn : 0 ≤ (q : Int) * b.natAbs := Int.mul_nonneg (by omega) (by omega)
  generalize (q : Int) * b.natAbs = p at *
  by_cases hp : p / 18446744073709551616 = 0
  · rw [bne_f hp, cond_false, safe_signed_eq _ (by unfold InU64; omega)]
    have : p % 18446744073709551616 = p := by omega
    rw [this]; rfl
  · rw [bne_t hp, cond_true, fitS_not (by unfold In64; omega)]
theorem u_div' {x : Int} (h : 0 ≤ x ∧ x < 18446744073709551616) : IntKind.u64.wrap (x.tdiv 65536) = x / 65536 := by rw [u_div h.1, u64_id (by omega)]
theorem u_mod' {x : Int} (h : 0 ≤ x ∧ x < 18446744073709551616) : IntKind.u32.wrap (x.tmod 65536) = x % 65536 := by rw [u_mod h.1, u32_id (by omega)]
theorem ref01_Lcm_eq {a b : Int} (ha : In64 a) (hb : In64 b) : epactref01_Lcm a b = some (lcmS a b) := by
  have := gcd_lt ha hb
  unfold epactref01_Lcm lcmS
  by_cases h0 : a = 0 ∨ b = 0
  · rw [if_pos h0]
    have : ((a == 0) || (b == 0)) = true := by simpa using h0
    rw [this, cond_true]
  rw [if_neg h0]
  have h1 : ((a == 0) || (b == 0)) = false := by simpa using h0
  rw [h1, cond_false, ref01_size_eq ha, ref01_size_eq hb, common_eq (by unfold In64 at *; omega) (by unfold In64 at *; omega)]
  simp only [Option.bind_some]
  have gp : 0 < Nat.gcd a.natAbs b.natAbs := Nat.gcd_pos_of_pos_left _ (by omega)
  rw [nz?_ok (by omega)]
  simp only [Option.bind_some]
  have hd : ((a.natAbs : Int)).tdiv ((Nat.gcd a.natAbs b.natAbs : Nat) : Int) = ((a.natAbs / Nat.gcd a.natAbs b.natAbs : Nat) : Int) := by
    rw [Int.tdiv_eq_ediv_of_nonneg (by omega)]; rfl
  have hle : a.natAbs / Nat.gcd a.natAbs b.natAbs ≤ a.natAbs := Nat.div_le_self _ _
  rw [hd]
  generalize a.natAbs / Nat.gcd a.natAbs b.natAbs = q at *
  have hq : (q : Int) < 18446744073709551616 := by unfold In64 at ha; omega
  rw [u64_id (a := (q : Int)) (by omega)]
  obtain ⟨x4, e4, d4, z4, -, v4, l4⟩ := ref01_of_digs hb
  rw [ref01_of_eq (a := 0) (by unfold In64; omega), e4]
  simp only [Option.bind_some]
  rw [u_div' ⟨by omega, hq⟩, u_div' ⟨by omega, by omega⟩, u_div' ⟨by omega, by omega⟩, u_mod' ⟨by omega, hq⟩, u_mod' ⟨by omega, by omega⟩, u_mod' ⟨by omega, by omega⟩, u_mod' ⟨by omega, by omega⟩]
  have dq : Digs ⟨(q : Int) % 65536, (q : Int) / 65536 % 65536, (q : Int) / 65536 / 65536 % 65536, (q : Int) / 65536 / 65536 / 65536 % 65536, 0, 0, 0, 0, 0⟩ := by
    constructor <;> unfold Dig <;> simp only <;> omega
  obtain ⟨c, e5, d5, v5, m5⟩ := product_eq (a := ⟨decide ((0 : Int) < 0), ⟨(q : Int) % 65536, (q : Int) / 65536 % 65536, (q : Int) / 65536 / 65536 % 65536, (q : Int) / 65536 / 65536 / 65536 % 65536, 0, 0, 0, 0, 0⟩⟩) (b := ⟨false, x4.digits⟩) dq d4 ⟨rfl, rfl, rfl, rfl, rfl⟩ (low_of l4)
  rw [e5]
  simp only [Option.bind_some]
  rw [number_eq d5]
  simp only [Option.bind_some]
  have : lval c = (q : Int) * b.natAbs := by
    simp only [abs_digits (A := (q : Int)) (by omega) hq, z4] at v5
    unfold lval
    rw [v5, m5]
    rfl
  rw [this]

theorem safeTells_true (a b : Int) (ha : okI .i64 a) (hb : okI .i64 b) : epactlaw01_SafeTells a b = some true := by
  have ha : In64 a := ha
  have hb : In64 b := hb
  unfold epactlaw01_SafeTells
  rw [ref01_Add_eq ha hb, safe_Add_eq ha hb]
  simp only [Option.bind_some, bne_self_eq_false, Bool.or_self, cond_false]
  rw [ref01_Sub_eq ha hb, safe_Sub_eq ha hb]
  simp only [Option.bind_some, bne_self_eq_false, Bool.or_self, cond_false]
  rw [ref01_Mul_eq ha hb, safe_Mul_eq ha hb]
  simp only [Option.bind_some, bne_self_eq_false, Bool.or_self, cond_false]
  rw [ref01_Floor_eq ha hb, safe_Floor_eq ha hb]
  simp only [Option.bind_some, bne_self_eq_false, Bool.or_self, cond_false]
  rw [ref01_Gcd_eq ha hb, safe_Gcd_eq' ha hb]
  simp only [Option.bind_some, bne_self_eq_false, Bool.or_self, cond_false]
  rw [ref01_Lcm_eq ha hb, safe_Lcm_eq ha hb]
  simp only [Option.bind_some, beq_self_eq_true, Bool.and_self, Bool.true_and]
  rfl

/-! ### Bounds -/
theorem ref01_right_eq (a : Bound) : epactref01_right a = safe_Right a := by
  unfold epactref01_right
  by_cases h : safe_Right a = true
  · rw [h]; rcases right_cases h with ⟨n, rfl⟩ | rfl | rfl <;> simp
  · have h' : safe_Right a = false := by simpa using h
    rw [h']
    rw [safe_Right_iff] at h
    rw [pickB]
    split
    · rename_i h0; simp at h0; omega
    · apply Bool.eq_false_iff.2; intro h2; simp at h2; omega
theorem safeBounds_true (a b : Bound) (ha : a.ok) (hb : b.ok) : epactlaw01_SafeBounds a b = some true := by
  have na : In64 a.N := ha.2
  have nb : In64 b.N := hb.2
  have hs : epactref01_Sum a b = some (safe_Sum a b) := by
    unfold epactref01_Sum safe_Sum
    rw [ref01_right_eq, ref01_right_eq]
    by_cases h1 : safe_Right a = true
    · by_cases h2 : safe_Right b = true
      · rcases right_cases h1 with ⟨n, rfl⟩ | rfl | rfl <;> rcases right_cases h2 with ⟨m, rfl⟩ | rfl | rfl <;> first | rfl | (simp only [right_n', Bool.not_true, Bool.or_self, cond_false]; simp [ref01_Add_eq na nb, safe_Add_eq na nb])
      · have h2 : safe_Right b = false := by simpa using h2
        rw [h1, h2]; rfl
    · have h1 : safe_Right a = false := by simpa using h1
      rw [h1]; rfl
  have hm : epactref01_Minus a = some (safe_Minus a) := by
    unfold epactref01_Minus safe_Minus
    rw [ref01_right_eq]
    by_cases h1 : safe_Right a = true
    · rcases right_cases h1 with ⟨n, rfl⟩ | rfl | rfl
      · have z : In64 0 := by unfold In64; omega
        rw [h1]
        simp only [Bool.not_true, cond_false, bne_self_eq_false]
        rw [ref01_Sub_eq z na, safe_Sub_eq z na]
        simp only [Option.bind_some]
        rcases fit_or (0 - n) with ⟨q1, q2⟩ | ⟨q1, q2⟩
        · rw [q2]; rfl
        · rw [q2]; rfl
      · rw [safe_Sub_eq (a := 0) (b := (Bound.mk 1 0).N) (by unfold In64; omega) na]; decide
      · rw [safe_Sub_eq (a := 0) (b := (Bound.mk (-1) 0).N) (by unfold In64; omega) na]; decide
    · have h1 : safe_Right a = false := by simpa using h1
      rw [h1]; rfl
  have hl : epactref01_Less a b = safe_Less a b := by
    unfold epactref01_Less safe_Less
    rw [ref01_right_eq, ref01_right_eq]
    by_cases h1 : safe_Right a = true
    · by_cases h2 : safe_Right b = true
      · rcases right_cases h1 with ⟨n, rfl⟩ | rfl | rfl <;> rcases right_cases h2 with ⟨m, rfl⟩ | rfl | rfl <;> rfl
      · have h2 : safe_Right b = false := by simpa using h2
        rw [h1, h2]; rfl
    · have h1 : safe_Right a = false := by simpa using h1
      rw [h1]; rfl
  unfold epactlaw01_SafeBounds
  rw [hs, hm, hl]
  simp only [Option.bind_some]
  unfold epactref01_Right
  rw [ref01_right_eq]
  simp [epactlaw01_awake]

end Go.Dn
