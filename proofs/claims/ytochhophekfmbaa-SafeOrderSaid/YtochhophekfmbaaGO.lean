/- Plain functions out of the loaded code, and that the interpreter answers as they do. -/
import Derived.Test.YtochhophekfmbaaD23
import Derived.Test.YtochhophekfmbaaS1
set_option linter.unusedVariables false
set_option linter.unusedSimpArgs false
namespace Go.Dn
open Go Go.Proofs

structure Bound where
  Inf : Int
  N : Int
  deriving DecidableEq

def Bound.cs (x : Bound) : List FV := [(.int .i8 x.Inf), (.int .i64 x.N)]

def Bound.ok (x : Bound) : Prop := okI .i8 x.Inf ∧ okI .i64 x.N

noncomputable def safe_Right (a : Bound) : Bool :=
  ((a.Inf == 0) || (((a.Inf == 1) || (a.Inf == (-1))) && (a.N == 0)))

noncomputable def safe_Add (a : Int) (b : Int) : Int × Int :=
  (bif (((decide ((w64 (a + b)) > a)) != (decide (b > 0))) && (b != 0)) then
    (0, 10)
  else
    ((w64 (a + b)), 0))

noncomputable def safe_Sum (a : Bound) (b : Bound) : Bound × Int :=
  (bif ((!(safe_Right a)) || (!(safe_Right b))) then
    ((Bound.mk 0 0), 2)
  else
    (bif (((a.Inf != 0) && (b.Inf != 0)) && (a.Inf != b.Inf)) then
      ((Bound.mk 0 0), 10)
    else
      (bif (a.Inf != 0) then
        (a, 0)
      else
        (bif (b.Inf != 0) then
          (b, 0)
        else
          ((Bound.mk 0 ((safe_Add a.N b.N).1)), (safe_Add a.N b.N).2)))))

noncomputable def safe_Less (a : Bound) (b : Bound) : Bool :=
  (bif ((!(safe_Right a)) || (!(safe_Right b))) then
    false
  else
    (bif (a.Inf != b.Inf) then
      (decide (a.Inf < b.Inf))
    else
      (decide (a.N < b.N))))

def epactlaw01_awake : Bool := true

noncomputable def safe_Sub (a : Int) (b : Int) : Int × Int :=
  (bif (((decide ((w64 (a - b)) < a)) != (decide (b > 0))) && (b != 0)) then
    (0, 10)
  else
    ((w64 (a - b)), 0))

noncomputable def safe_Minus (a : Bound) : Bound × Int :=
  (bif (!(safe_Right a)) then
    ((Bound.mk 0 0), 2)
  else
    (bif (((safe_Sub 0 a.N).2) != 0) then
      ((Bound.mk 0 0), (safe_Sub 0 a.N).2)
    else
      ((Bound.mk (IntKind.i8.wrap (0 - a.Inf)) ((safe_Sub 0 a.N).1)), 0)))

noncomputable def epactlaw01_SafeOrder (a : Bound) (b : Bound) (c : Bound) : Bool :=
  (bif (((!(safe_Right a)) || (!(safe_Right b))) || (!(safe_Right c))) then
    (((safe_Right a) || (((((safe_Sum a a).2) == 2) && (!(safe_Less a b))) && (!(safe_Less b a)))) && epactlaw01_awake)
  else
    (bif ((((safe_Less a b) && (safe_Less b a)) || ((!(safe_Less a b)) && ((!(safe_Less b a)) != ((a.Inf == b.Inf) && ((a.N == b.N) && true))))) || (((safe_Less a b) && (safe_Less b c)) && (!(safe_Less a c)))) then
      false
    else
      (bif ((((((safe_Sum a c).2) == 0) && (((safe_Sum b c).2) == 0)) && (c.Inf == 0)) && ((safe_Less a b) != (safe_Less ((safe_Sum a c).1) ((safe_Sum b c).1)))) then
        false
      else
        ((((((safe_Minus a).2) != 0) || (((safe_Minus b).2) != 0)) || ((safe_Less ((safe_Minus b).1) ((safe_Minus a).1)) == (safe_Less a b))) && epactlaw01_awake))))

set_option maxRecDepth 100000 in
set_option maxHeartbeats 4000000 in
theorem safe_Right_fn {a : Bound} {r : Bool} (h : safe_Right a = r) : Fn CX 31 [(.agg (vs (Bound.cs a)))] (.v (.bool r)) := by
  refine Fn.ends Try.func31 rfl rfl rfl rfl rfl rfl ?_
  have H : Hs (⟨0, fun _ => .none⟩ : Heap) [] := Has.nil (Nat.le_refl _)
  generalize (⟨0, fun _ => .none⟩ : Heap) = σ at H ⊢
  unfold safe_Right at h
  apply Runs.then
  refine Runs.regionH 2 rfl H ?_; intro b1 σ H
  refine Ops.boxH (v := (.agg [(.v (.int .i8 a.Inf)), (.v (.int .i64 a.N))])) (cs := [(.v (.int .i8 a.Inf)), (.v (.int .i64 a.N))]) H (by omega) (by omega) rfl rfl rfl ?_; intro σ H
  refine Ops.assign (v := (.v (.bool false))) rfl rfl ?_
  apply Ops.nil
  replace H := H.all
  apply Runs.then
  refine Runs.regionH 19 rfl H ?_; intro b2 σ H
  refine Ops.fieldAddrH (off := 0) (fo := 0) H 0 rfl rfl rfl rfl rfl nofun rfl ?_
  refine Ops.loadH (off := 0) (v := (.v (.int .i8 a.Inf))) H 0 rfl rfl rfl rfl rfl nofun rfl ?_
  refine Ops.int (m := a.Inf) (m' := 0) (r := .bool (a.Inf == 0)) rfl rfl rfl rfl rfl ?_
  refine Ops.move (v := (.v (.bool (a.Inf == 0)))) rfl rfl ?_
  refine Ops.mid 14 (K1 := fun e σ => EnvHas e [(20, (.v (.bool ((a.Inf == 0) || (((a.Inf == 1) || (a.Inf == (-1))) && (a.N == 0))))))] ∧ Has σ (b2 + 18) (b2 + 19) []) rfl ?_ ?_
  · refine Ops.split rfl rfl ?_ ?_ <;> intro hc1
    · skip
      refine Ops.pass rfl rfl rfl ?_
      refine Ops.pass rfl rfl rfl ?_
      refine Ops.pass rfl rfl rfl ?_
      refine Ops.pass rfl rfl rfl ?_
      refine Ops.passU rfl rfl rfl ?_
      refine Ops.passU rfl rfl rfl ?_
      refine Ops.passU rfl rfl rfl ?_
      refine Ops.pass rfl rfl rfl ?_
      refine Ops.pass rfl rfl rfl ?_
      refine Ops.passU rfl rfl rfl ?_
      refine Ops.passU rfl rfl rfl ?_
      refine Ops.passU rfl rfl rfl ?_
      refine Ops.pass rfl rfl rfl ?_
      refine Ops.pickT (v := (.v (.bool true))) rfl rfl rfl ?_
      apply Ops.nil
      exact ⟨⟨or_T hc1, trivial⟩, (H.erase 0).weak (by omega) (Nat.le_refl _)⟩
    · skip
      refine Ops.wanted rfl rfl ?_
      refine Ops.fieldAddrH (off := 0) (fo := 0) H 0 rfl rfl rfl rfl rfl nofun rfl ?_
      refine Ops.wanted rfl rfl ?_
      refine Ops.loadH (off := 0) (v := (.v (.int .i8 a.Inf))) H 0 rfl rfl rfl rfl rfl nofun rfl ?_
      refine Ops.wanted rfl rfl ?_
      refine Ops.int (m := a.Inf) (m' := 1) (r := .bool (a.Inf == 1)) rfl rfl rfl rfl rfl ?_
      refine Ops.wanted rfl rfl ?_
      refine Ops.move (v := (.v (.bool (a.Inf == 1)))) rfl rfl ?_
      refine Ops.mid 4 (K1 := fun e σ => EnvHas e [(14, (.v (.bool ((a.Inf == 1) || (a.Inf == (-1)))))), (1, (.ptr (b1 + 0) 2 0)), (6, (.v (.bool false)))] ∧ Has σ (b2 + 12) (b2 + 19) [.blk (b1 + 0) 32 [(.v (.int .i8 a.Inf)), (.v (.int .i64 a.N))]]) rfl ?_ ?_
      · refine Ops.split rfl rfl ?_ ?_ <;> intro hc2
        · skip
          refine Ops.pass rfl rfl rfl ?_
          refine Ops.pass rfl rfl rfl ?_
          refine Ops.pass rfl rfl rfl ?_
          refine Ops.wanted rfl rfl ?_
          refine Ops.pickT (v := (.v (.bool true))) rfl rfl rfl ?_
          apply Ops.nil
          exact ⟨⟨or_T hc2, rfl, rfl, trivial⟩, H.weak (by omega) (Nat.le_refl _)⟩
        · skip
          refine Ops.wanted rfl rfl ?_
          refine Ops.fieldAddrH (off := 0) (fo := 0) H 0 rfl rfl rfl rfl rfl nofun rfl ?_
          refine Ops.wanted rfl rfl ?_
          refine Ops.loadH (off := 0) (v := (.v (.int .i8 a.Inf))) H 0 rfl rfl rfl rfl rfl nofun rfl ?_
          refine Ops.wanted rfl rfl ?_
          refine Ops.int (m := a.Inf) (m' := (-1)) (r := .bool (a.Inf == (-1))) rfl rfl rfl rfl rfl ?_
          refine Ops.wanted rfl rfl ?_
          refine Ops.pickF (v := (.v (.bool (a.Inf == (-1))))) rfl rfl rfl ?_
          apply Ops.nil
          exact ⟨⟨or_F hc2, rfl, rfl, trivial⟩, H.weak (by omega) (Nat.le_refl _)⟩
      · rintro e σ ⟨he, H⟩
        obtain ⟨e, rfl⟩ := he.ex
        refine Ops.wanted rfl rfl ?_
        refine Ops.move (v := (.v (.bool ((a.Inf == 1) || (a.Inf == (-1)))))) rfl rfl ?_
        refine Ops.mid 4 (K1 := fun e σ => EnvHas e [(19, (.v (.bool (((a.Inf == 1) || (a.Inf == (-1))) && (a.N == 0))))), (6, (.v (.bool false)))] ∧ Has σ (b2 + 17) (b2 + 19) []) rfl ?_ ?_
        · refine Ops.split rfl rfl ?_ ?_ <;> intro hc3
          · skip
            refine Ops.wanted rfl rfl ?_
            refine Ops.fieldAddrH (off := 0) (fo := 1) H 0 rfl rfl rfl rfl rfl nofun rfl ?_
            refine Ops.wanted rfl rfl ?_
            refine Ops.loadH (off := 1) (v := (.v (.int .i64 a.N))) H 0 rfl rfl rfl rfl rfl nofun rfl ?_
            refine Ops.wanted rfl rfl ?_
            refine Ops.int (m := a.N) (m' := 0) (r := .bool (a.N == 0)) rfl rfl rfl rfl rfl ?_
            refine Ops.wanted rfl rfl ?_
            refine Ops.pickT (v := (.v (.bool (a.N == 0)))) rfl rfl rfl ?_
            apply Ops.nil
            exact ⟨⟨and_T hc3, rfl, trivial⟩, (H.erase 0).weak (by omega) (Nat.le_refl _)⟩
          · skip
            refine Ops.pass rfl rfl rfl ?_
            refine Ops.pass rfl rfl rfl ?_
            refine Ops.pass rfl rfl rfl ?_
            refine Ops.wanted rfl rfl ?_
            refine Ops.pickF (v := (.v (.bool false))) rfl rfl rfl ?_
            apply Ops.nil
            exact ⟨⟨and_F hc3, rfl, trivial⟩, (H.erase 0).weak (by omega) (Nat.le_refl _)⟩
        · rintro e σ ⟨he, H⟩
          obtain ⟨e, rfl⟩ := he.ex
          refine Ops.pickF (v := (.v (.bool (((a.Inf == 1) || (a.Inf == (-1))) && (a.N == 0))))) rfl rfl rfl ?_
          apply Ops.nil
          exact ⟨⟨or_F hc1, trivial⟩, H.weak (by omega) (Nat.le_refl _)⟩
  · rintro e σ ⟨he, H⟩
    obtain ⟨e, rfl⟩ := he.ex
    refine Ops.assign (v := (.v (.bool ((a.Inf == 0) || (((a.Inf == 1) || (a.Inf == (-1))) && (a.N == 0)))))) rfl rfl ?_
    apply Ops.nil
    replace H := H.all
    apply Runs.ret
    subst h
    exact (Ends.H (xs := [(.v (.bool ((a.Inf == 0) || (((a.Inf == 1) || (a.Inf == (-1))) && (a.N == 0)))))]) (.inr rfl) H (.tmp (v := (.v (.bool ((a.Inf == 0) || (((a.Inf == 1) || (a.Inf == (-1))) && (a.N == 0)))))) rfl .nil) (.one (.c (.v _))))

set_option maxRecDepth 100000 in
set_option maxHeartbeats 4000000 in
theorem safe_Add_fn {a : Int} {b : Int} {r : Int × Int} (h : safe_Add a b = r) : Fn CX 17 [(.v (.int .i64 a)), (.v (.int .i64 b))] (.tup [(.v (.int .i64 r.1)), (.v (.int .i64 r.2))]) := by
  refine Fn.ends Try.func17 rfl rfl rfl rfl rfl rfl ?_
  have H : Hs (⟨0, fun _ => .none⟩ : Heap) [] := Has.nil (Nat.le_refl _)
  generalize (⟨0, fun _ => .none⟩ : Heap) = σ at H ⊢
  unfold safe_Add at h
  apply Runs.then
  refine Runs.regionH 2 rfl H ?_; intro b1 σ H
  refine Ops.assign (v := (.v (.int .i64 0))) rfl rfl ?_
  refine Ops.assign (v := (.v (.int .i64 0))) rfl rfl ?_
  apply Ops.nil
  replace H := H.all
  apply Runs.then
  refine Runs.regionH 4 rfl H ?_; intro b2 σ H
  refine Ops.move (v := (.v (.int .i64 a))) rfl rfl ?_
  refine Ops.move (v := (.v (.int .i64 b))) rfl rfl ?_
  refine Ops.int (m := a) (m' := b) (r := .int .i64 (w64 (a + b))) rfl rfl rfl rfl rfl ?_
  refine Ops.assign (v := (.v (.int .i64 (w64 (a + b))))) rfl rfl ?_
  apply Ops.nil
  replace H := H.all
  apply Runs.then
  apply Runs.then
  refine Runs.regionH 10 rfl H ?_; intro b3 σ H
  refine Ops.move (v := (.v (.int .i64 (w64 (a + b))))) rfl rfl ?_
  refine Ops.move (v := (.v (.int .i64 a))) rfl rfl ?_
  refine Ops.int (m := (w64 (a + b))) (m' := a) (r := .bool (decide ((w64 (a + b)) > a))) rfl rfl rfl rfl rfl ?_
  refine Ops.move (v := (.v (.int .i64 b))) rfl rfl ?_
  refine Ops.int (m := b) (m' := 0) (r := .bool (decide (b > 0))) rfl rfl rfl rfl rfl ?_
  refine Ops.neB (b := (decide ((w64 (a + b)) > a))) (b' := (decide (b > 0))) rfl rfl rfl rfl ?_
  refine Ops.move (v := (.v (.bool ((decide ((w64 (a + b)) > a)) != (decide (b > 0)))))) rfl rfl ?_
  refine Ops.mid 3 (K1 := fun e σ => EnvHas e [(19, (.v (.bool (((decide ((w64 (a + b)) > a)) != (decide (b > 0))) && (b != 0))))), (6, (.v (.int .i64 (w64 (a + b)))))] ∧ Has σ (b3 + 10) (b3 + 10) []) rfl ?_ ?_
  · refine Ops.split rfl rfl ?_ ?_ <;> intro hc1
    · skip
      refine Ops.wanted rfl rfl ?_
      refine Ops.move (v := (.v (.int .i64 b))) rfl rfl ?_
      refine Ops.wanted rfl rfl ?_
      refine Ops.int (m := b) (m' := 0) (r := .bool (b != 0)) rfl rfl rfl rfl rfl ?_
      refine Ops.pickT (v := (.v (.bool (b != 0)))) rfl rfl rfl ?_
      apply Ops.nil
      exact ⟨⟨and_T hc1, rfl, trivial⟩, H.weak (by omega) (Nat.le_refl _)⟩
    · skip
      refine Ops.pass rfl rfl rfl ?_
      refine Ops.pass rfl rfl rfl ?_
      refine Ops.pickF (v := (.v (.bool false))) rfl rfl rfl ?_
      apply Ops.nil
      exact ⟨⟨and_F hc1, rfl, trivial⟩, H.weak (by omega) (Nat.le_refl _)⟩
  · rintro e σ ⟨he, H⟩
    obtain ⟨e, rfl⟩ := he.ex
    apply Ops.nil
    replace H := H.all
    refine Runs.whether (v := (((decide ((w64 (a + b)) > a)) != (decide (b > 0))) && (b != 0))) rfl ?_ ?_ <;> intro hc2
    · replace h := cond_T hc2 h
      apply Runs.then
      refine Runs.regionH 2 rfl H ?_; intro b4 σ H
      refine Ops.assign (v := (.v (.int .i64 0))) rfl rfl ?_
      refine Ops.assign (v := (.v (.int .i64 10))) rfl rfl ?_
      apply Ops.nil
      replace H := H.all
      apply Runs.ret
      subst h
      exact (Ends.H (xs := [(.v (.int .i64 0)), (.v (.int .i64 10))]) (.inr rfl) H (.tmp (v := (.v (.int .i64 0))) rfl (.tmp (v := (.v (.int .i64 10))) rfl .nil)) (.two (.cons (.c (.v _)) (.cons (.c (.v _)) .nil))))
    · replace h := cond_F hc2 h
      apply Runs.skip
      apply Runs.then
      refine Runs.regionH 3 rfl H ?_; intro b5 σ H
      refine Ops.move (v := (.v (.int .i64 (w64 (a + b))))) rfl rfl ?_
      refine Ops.assign (v := (.v (.int .i64 (w64 (a + b))))) rfl rfl ?_
      refine Ops.assign (v := (.v (.int .i64 0))) rfl rfl ?_
      apply Ops.nil
      replace H := H.all
      apply Runs.ret
      subst h
      exact (Ends.H (xs := [(.v (.int .i64 (w64 (a + b)))), (.v (.int .i64 0))]) (.inr rfl) H (.tmp (v := (.v (.int .i64 (w64 (a + b))))) rfl (.tmp (v := (.v (.int .i64 0))) rfl .nil)) (.two (.cons (.c (.v _)) (.cons (.c (.v _)) .nil))))

set_option maxRecDepth 100000 in
set_option maxHeartbeats 4000000 in
theorem safe_Sum_fn {a : Bound} {b : Bound} {r : Bound × Int} (h : safe_Sum a b = r) : Fn CX 27 [(.agg (vs (Bound.cs a))), (.agg (vs (Bound.cs b)))] (.tup [(.agg (vs (Bound.cs r.1))), (.v (.int .i64 r.2))]) := by
  refine Fn.ends Try.func27 rfl rfl rfl rfl rfl rfl ?_
  have H : Hs (⟨0, fun _ => .none⟩ : Heap) [] := Has.nil (Nat.le_refl _)
  generalize (⟨0, fun _ => .none⟩ : Heap) = σ at H ⊢
  unfold safe_Sum at h
  apply Runs.then
  refine Runs.regionH 4 rfl H ?_; intro b1 σ H
  refine Ops.boxH (v := (.agg [(.v (.int .i8 a.Inf)), (.v (.int .i64 a.N))])) (cs := [(.v (.int .i8 a.Inf)), (.v (.int .i64 a.N))]) H (by omega) (by omega) rfl rfl rfl ?_; intro σ H
  refine Ops.boxH (v := (.agg [(.v (.int .i8 b.Inf)), (.v (.int .i64 b.N))])) (cs := [(.v (.int .i8 b.Inf)), (.v (.int .i64 b.N))]) H (by omega) (by omega) rfl rfl rfl ?_; intro σ H
  refine Ops.allocH (cs := [(.v (.int .i8 0)), (.v (.int .i64 0))]) H (by omega) (by omega) rfl rfl ?_; intro σ H
  refine Ops.assign (v := (.v (.int .i64 0))) rfl rfl ?_
  apply Ops.nil
  replace H := H.all
  apply Runs.then
  apply Runs.inBlock
  apply Runs.then
  refine Runs.regionH 9 rfl H ?_; intro b2 σ H
  refine Ops.loadHA (off := 0) (cs := [(.v (.int .i8 a.Inf)), (.v (.int .i64 a.N))]) H 2 rfl rfl rfl rfl rfl rfl rfl nofun rfl ?_
  refine Ops.call (ys := [(.agg [(.v (.int .i8 a.Inf)), (.v (.int .i64 a.N))])]) (r := (.v (.bool (safe_Right a)))) rfl (safe_Right_fn rfl) rfl ?_
  refine Ops.not (b := (safe_Right a)) rfl rfl ?_
  refine Ops.move (v := (.v (.bool (!(safe_Right a))))) rfl rfl ?_
  refine Ops.mid 4 (K1 := fun e σ => EnvHas e [(16, (.v (.bool ((!(safe_Right a)) || (!(safe_Right b)))))), (2, (.ptr (b1 + 0) 2 0)), (3, (.ptr (b1 + 1) 2 0)), (4, (.ptr (b1 + 2) 2 0))] ∧ Has σ (b2 + 8) (b2 + 9) [.blk (b1 + 2) 32 [(.v (.int .i8 0)), (.v (.int .i64 0))], .blk (b1 + 1) 32 [(.v (.int .i8 b.Inf)), (.v (.int .i64 b.N))], .blk (b1 + 0) 32 [(.v (.int .i8 a.Inf)), (.v (.int .i64 a.N))]]) rfl ?_ ?_
  · refine Ops.split rfl rfl ?_ ?_ <;> intro hc1
    · skip
      refine Ops.pass rfl rfl rfl ?_
      refine Ops.pass rfl rfl rfl ?_
      refine Ops.pass rfl rfl rfl ?_
      refine Ops.pickT (v := (.v (.bool true))) rfl rfl rfl ?_
      apply Ops.nil
      exact ⟨⟨or_T hc1, rfl, rfl, rfl, trivial⟩, H.weak (by omega) (Nat.le_refl _)⟩
    · skip
      refine Ops.wanted rfl rfl ?_
      refine Ops.loadHA (off := 0) (cs := [(.v (.int .i8 b.Inf)), (.v (.int .i64 b.N))]) H 1 rfl rfl rfl rfl rfl rfl rfl nofun rfl ?_
      refine Ops.wanted rfl rfl ?_
      refine Ops.call (ys := [(.agg [(.v (.int .i8 b.Inf)), (.v (.int .i64 b.N))])]) (r := (.v (.bool (safe_Right b)))) rfl (safe_Right_fn rfl) rfl ?_
      refine Ops.wanted rfl rfl ?_
      refine Ops.not (b := (safe_Right b)) rfl rfl ?_
      refine Ops.pickF (v := (.v (.bool (!(safe_Right b))))) rfl rfl rfl ?_
      apply Ops.nil
      exact ⟨⟨or_F hc1, rfl, rfl, rfl, trivial⟩, H.weak (by omega) (Nat.le_refl _)⟩
  · rintro e σ ⟨he, H⟩
    obtain ⟨e, rfl⟩ := he.ex
    refine Ops.assign (v := (.v (.bool ((!(safe_Right a)) || (!(safe_Right b)))))) rfl rfl ?_
    apply Ops.nil
    replace H := H.all
    refine Runs.whether (v := ((!(safe_Right a)) || (!(safe_Right b)))) rfl ?_ ?_ <;> intro hc2
    · replace h := cond_T hc2 h
      apply Runs.then
      refine Runs.regionH 3 rfl H ?_; intro b3 σ H
      refine Ops.buildA (cs := [(.v (.int .i8 0)), (.v (.int .i64 0))]) rfl rfl ?_
      refine Ops.storeH (off := 0) (v := (.agg [(.v (.int .i8 0)), (.v (.int .i64 0))])) (ys := [(.v (.int .i8 0)), (.v (.int .i64 0))]) (cells' := [(.v (.int .i8 0)), (.v (.int .i64 0))]) H 0 rfl rfl rfl rfl rfl rfl rfl rfl rfl nofun ?_; intro σ H
      refine Ops.assign (v := (.v (.int .i64 2))) rfl rfl ?_
      apply Ops.nil
      replace H := H.all
      apply Runs.ret
      subst h
      exact (Ends.H (xs := [(.agg [(.v (.int .i8 0)), (.v (.int .i64 0))]), (.v (.int .i64 2))]) (.inr rfl) H (.agg (cs := [(.v (.int .i8 0)), (.v (.int .i64 0))]) (off := 0) 0 rfl rfl rfl rfl rfl rfl rfl (.tmp (v := (.v (.int .i64 2))) rfl .nil)) (.two (.cons (.p rfl) (.cons (.c (.v _)) .nil))))
    · replace h := cond_F hc2 h
      apply Runs.then
      refine Runs.regionH 16 rfl H ?_; intro b4 σ H
      refine Ops.fieldAddrH (off := 0) (fo := 0) H 2 rfl rfl rfl rfl rfl nofun rfl ?_
      refine Ops.loadH (off := 0) (v := (.v (.int .i8 a.Inf))) H 2 rfl rfl rfl rfl rfl nofun rfl ?_
      refine Ops.int (m := a.Inf) (m' := 0) (r := .bool (a.Inf != 0)) rfl rfl rfl rfl rfl ?_
      refine Ops.move (v := (.v (.bool (a.Inf != 0)))) rfl rfl ?_
      refine Ops.mid 4 (K1 := fun e σ => EnvHas e [(26, (.v (.bool ((a.Inf != 0) && (b.Inf != 0))))), (2, (.ptr (b1 + 0) 2 0)), (3, (.ptr (b1 + 1) 2 0)), (4, (.ptr (b1 + 2) 2 0))] ∧ Has σ (b4 + 8) (b4 + 16) [.blk (b1 + 2) 32 [(.v (.int .i8 0)), (.v (.int .i64 0))], .blk (b1 + 1) 32 [(.v (.int .i8 b.Inf)), (.v (.int .i64 b.N))], .blk (b1 + 0) 32 [(.v (.int .i8 a.Inf)), (.v (.int .i64 a.N))]]) rfl ?_ ?_
      · refine Ops.split rfl rfl ?_ ?_ <;> intro hc3
        · skip
          refine Ops.wanted rfl rfl ?_
          refine Ops.fieldAddrH (off := 0) (fo := 0) H 1 rfl rfl rfl rfl rfl nofun rfl ?_
          refine Ops.wanted rfl rfl ?_
          refine Ops.loadH (off := 0) (v := (.v (.int .i8 b.Inf))) H 1 rfl rfl rfl rfl rfl nofun rfl ?_
          refine Ops.wanted rfl rfl ?_
          refine Ops.int (m := b.Inf) (m' := 0) (r := .bool (b.Inf != 0)) rfl rfl rfl rfl rfl ?_
          refine Ops.pickT (v := (.v (.bool (b.Inf != 0)))) rfl rfl rfl ?_
          apply Ops.nil
          exact ⟨⟨and_T hc3, rfl, rfl, rfl, trivial⟩, H.weak (by omega) (Nat.le_refl _)⟩
        · skip
          refine Ops.pass rfl rfl rfl ?_
          refine Ops.pass rfl rfl rfl ?_
          refine Ops.pass rfl rfl rfl ?_
          refine Ops.pickF (v := (.v (.bool false))) rfl rfl rfl ?_
          apply Ops.nil
          exact ⟨⟨and_F hc3, rfl, rfl, rfl, trivial⟩, H.weak (by omega) (Nat.le_refl _)⟩
      · rintro e σ ⟨he, H⟩
        obtain ⟨e, rfl⟩ := he.ex
        refine Ops.move (v := (.v (.bool ((a.Inf != 0) && (b.Inf != 0))))) rfl rfl ?_
        refine Ops.mid 6 (K1 := fun e σ => EnvHas e [(33, (.v (.bool (((a.Inf != 0) && (b.Inf != 0)) && (a.Inf != b.Inf))))), (2, (.ptr (b1 + 0) 2 0)), (3, (.ptr (b1 + 1) 2 0)), (4, (.ptr (b1 + 2) 2 0))] ∧ Has σ (b4 + 15) (b4 + 16) [.blk (b1 + 2) 32 [(.v (.int .i8 0)), (.v (.int .i64 0))], .blk (b1 + 1) 32 [(.v (.int .i8 b.Inf)), (.v (.int .i64 b.N))], .blk (b1 + 0) 32 [(.v (.int .i8 a.Inf)), (.v (.int .i64 a.N))]]) rfl ?_ ?_
        · refine Ops.split rfl rfl ?_ ?_ <;> intro hc4
          · skip
            refine Ops.wanted rfl rfl ?_
            refine Ops.fieldAddrH (off := 0) (fo := 0) H 2 rfl rfl rfl rfl rfl nofun rfl ?_
            refine Ops.wanted rfl rfl ?_
            refine Ops.loadH (off := 0) (v := (.v (.int .i8 a.Inf))) H 2 rfl rfl rfl rfl rfl nofun rfl ?_
            refine Ops.wanted rfl rfl ?_
            refine Ops.fieldAddrH (off := 0) (fo := 0) H 1 rfl rfl rfl rfl rfl nofun rfl ?_
            refine Ops.wanted rfl rfl ?_
            refine Ops.loadH (off := 0) (v := (.v (.int .i8 b.Inf))) H 1 rfl rfl rfl rfl rfl nofun rfl ?_
            refine Ops.wanted rfl rfl ?_
            refine Ops.int (m := a.Inf) (m' := b.Inf) (r := .bool (a.Inf != b.Inf)) rfl rfl rfl rfl rfl ?_
            refine Ops.pickT (v := (.v (.bool (a.Inf != b.Inf)))) rfl rfl rfl ?_
            apply Ops.nil
            exact ⟨⟨and_T hc4, rfl, rfl, rfl, trivial⟩, H.weak (by omega) (Nat.le_refl _)⟩
          · skip
            refine Ops.pass rfl rfl rfl ?_
            refine Ops.pass rfl rfl rfl ?_
            refine Ops.pass rfl rfl rfl ?_
            refine Ops.pass rfl rfl rfl ?_
            refine Ops.pass rfl rfl rfl ?_
            refine Ops.pickF (v := (.v (.bool false))) rfl rfl rfl ?_
            apply Ops.nil
            exact ⟨⟨and_F hc4, rfl, rfl, rfl, trivial⟩, H.weak (by omega) (Nat.le_refl _)⟩
        · rintro e σ ⟨he, H⟩
          obtain ⟨e, rfl⟩ := he.ex
          refine Ops.assign (v := (.v (.bool (((a.Inf != 0) && (b.Inf != 0)) && (a.Inf != b.Inf))))) rfl rfl ?_
          apply Ops.nil
          replace H := H.all
          refine Runs.whether (v := (((a.Inf != 0) && (b.Inf != 0)) && (a.Inf != b.Inf))) rfl ?_ ?_ <;> intro hc5
          · replace h := cond_T hc5 h
            apply Runs.then
            refine Runs.regionH 3 rfl H ?_; intro b5 σ H
            refine Ops.buildA (cs := [(.v (.int .i8 0)), (.v (.int .i64 0))]) rfl rfl ?_
            refine Ops.storeH (off := 0) (v := (.agg [(.v (.int .i8 0)), (.v (.int .i64 0))])) (ys := [(.v (.int .i8 0)), (.v (.int .i64 0))]) (cells' := [(.v (.int .i8 0)), (.v (.int .i64 0))]) H 0 rfl rfl rfl rfl rfl rfl rfl rfl rfl nofun ?_; intro σ H
            refine Ops.assign (v := (.v (.int .i64 10))) rfl rfl ?_
            apply Ops.nil
            replace H := H.all
            apply Runs.ret
            subst h
            exact (Ends.H (xs := [(.agg [(.v (.int .i8 0)), (.v (.int .i64 0))]), (.v (.int .i64 10))]) (.inr rfl) H (.agg (cs := [(.v (.int .i8 0)), (.v (.int .i64 0))]) (off := 0) 0 rfl rfl rfl rfl rfl rfl rfl (.tmp (v := (.v (.int .i64 10))) rfl .nil)) (.two (.cons (.p rfl) (.cons (.c (.v _)) .nil))))
          · replace h := cond_F hc5 h
            apply Runs.then
            refine Runs.regionH 4 rfl H ?_; intro b6 σ H
            refine Ops.fieldAddrH (off := 0) (fo := 0) H 2 rfl rfl rfl rfl rfl nofun rfl ?_
            refine Ops.loadH (off := 0) (v := (.v (.int .i8 a.Inf))) H 2 rfl rfl rfl rfl rfl nofun rfl ?_
            refine Ops.int (m := a.Inf) (m' := 0) (r := .bool (a.Inf != 0)) rfl rfl rfl rfl rfl ?_
            refine Ops.assign (v := (.v (.bool (a.Inf != 0)))) rfl rfl ?_
            apply Ops.nil
            replace H := H.all
            refine Runs.whether (v := (a.Inf != 0)) rfl ?_ ?_ <;> intro hc6
            · replace h := cond_T hc6 h
              apply Runs.then
              refine Runs.regionH 3 rfl H ?_; intro b7 σ H
              refine Ops.loadHA (off := 0) (cs := [(.v (.int .i8 a.Inf)), (.v (.int .i64 a.N))]) H 2 rfl rfl rfl rfl rfl rfl rfl nofun rfl ?_
              refine Ops.storeH (off := 0) (v := (.agg [(.v (.int .i8 a.Inf)), (.v (.int .i64 a.N))])) (ys := [(.v (.int .i8 a.Inf)), (.v (.int .i64 a.N))]) (cells' := [(.v (.int .i8 a.Inf)), (.v (.int .i64 a.N))]) H 0 rfl rfl rfl rfl rfl rfl rfl rfl rfl nofun ?_; intro σ H
              refine Ops.assign (v := (.v (.int .i64 0))) rfl rfl ?_
              apply Ops.nil
              replace H := H.all
              apply Runs.ret
              subst h
              exact (Ends.H (xs := [(.agg [(.v (.int .i8 a.Inf)), (.v (.int .i64 a.N))]), (.v (.int .i64 0))]) (.inr rfl) H (.agg (cs := [(.v (.int .i8 a.Inf)), (.v (.int .i64 a.N))]) (off := 0) 0 rfl rfl rfl rfl rfl rfl rfl (.tmp (v := (.v (.int .i64 0))) rfl .nil)) (.two (.cons (.p rfl) (.cons (.c (.v _)) .nil))))
            · replace h := cond_F hc6 h
              apply Runs.then
              refine Runs.regionH 4 rfl H ?_; intro b8 σ H
              refine Ops.fieldAddrH (off := 0) (fo := 0) H 1 rfl rfl rfl rfl rfl nofun rfl ?_
              refine Ops.loadH (off := 0) (v := (.v (.int .i8 b.Inf))) H 1 rfl rfl rfl rfl rfl nofun rfl ?_
              refine Ops.int (m := b.Inf) (m' := 0) (r := .bool (b.Inf != 0)) rfl rfl rfl rfl rfl ?_
              refine Ops.assign (v := (.v (.bool (b.Inf != 0)))) rfl rfl ?_
              apply Ops.nil
              replace H := H.all
              refine Runs.whether (v := (b.Inf != 0)) rfl ?_ ?_ <;> intro hc7
              · replace h := cond_T hc7 h
                apply Runs.then
                refine Runs.regionH 3 rfl H ?_; intro b9 σ H
                refine Ops.loadHA (off := 0) (cs := [(.v (.int .i8 b.Inf)), (.v (.int .i64 b.N))]) H 1 rfl rfl rfl rfl rfl rfl rfl nofun rfl ?_
                refine Ops.storeH (off := 0) (v := (.agg [(.v (.int .i8 b.Inf)), (.v (.int .i64 b.N))])) (ys := [(.v (.int .i8 b.Inf)), (.v (.int .i64 b.N))]) (cells' := [(.v (.int .i8 b.Inf)), (.v (.int .i64 b.N))]) H 0 rfl rfl rfl rfl rfl rfl rfl rfl rfl nofun ?_; intro σ H
                refine Ops.assign (v := (.v (.int .i64 0))) rfl rfl ?_
                apply Ops.nil
                replace H := H.all
                apply Runs.ret
                subst h
                exact (Ends.H (xs := [(.agg [(.v (.int .i8 b.Inf)), (.v (.int .i64 b.N))]), (.v (.int .i64 0))]) (.inr rfl) H (.agg (cs := [(.v (.int .i8 b.Inf)), (.v (.int .i64 b.N))]) (off := 0) 0 rfl rfl rfl rfl rfl rfl rfl (.tmp (v := (.v (.int .i64 0))) rfl .nil)) (.two (.cons (.p rfl) (.cons (.c (.v _)) .nil))))
              · replace h := cond_F hc7 h
                apply Runs.skip
                apply Runs.then
                refine Runs.regionH 10 rfl H ?_; intro b10 σ H
                refine Ops.fieldAddrH (off := 0) (fo := 1) H 2 rfl rfl rfl rfl rfl nofun rfl ?_
                refine Ops.loadH (off := 1) (v := (.v (.int .i64 a.N))) H 2 rfl rfl rfl rfl rfl nofun rfl ?_
                refine Ops.fieldAddrH (off := 0) (fo := 1) H 1 rfl rfl rfl rfl rfl nofun rfl ?_
                refine Ops.loadH (off := 1) (v := (.v (.int .i64 b.N))) H 1 rfl rfl rfl rfl rfl nofun rfl ?_
                refine Ops.call (ys := [(.v (.int .i64 a.N)), (.v (.int .i64 b.N))]) (r := (.tup [(.v (.int .i64 (safe_Add a.N b.N).1)), (.v (.int .i64 (safe_Add a.N b.N).2))])) rfl (safe_Add_fn rfl) rfl ?_
                refine Ops.move (v := (.tup [(.v (.int .i64 (safe_Add a.N b.N).1)), (.v (.int .i64 (safe_Add a.N b.N).2))])) rfl rfl ?_
                refine Ops.extract (v := (.v (.int .i64 (safe_Add a.N b.N).1))) rfl rfl rfl ?_
                refine Ops.extract (v := (.v (.int .i64 (safe_Add a.N b.N).2))) rfl rfl rfl ?_
                refine Ops.assign (v := (.v (.int .i64 (safe_Add a.N b.N).1))) rfl rfl ?_
                refine Ops.assign (v := (.v (.int .i64 (safe_Add a.N b.N).2))) rfl rfl ?_
                apply Ops.nil
                replace H := H.all
                apply Runs.then
                refine Runs.regionH 5 rfl H ?_; intro b11 σ H
                refine Ops.move (v := (.v (.int .i64 (safe_Add a.N b.N).1))) rfl rfl ?_
                refine Ops.buildA (cs := [(.v (.int .i8 0)), (.v (.int .i64 (safe_Add a.N b.N).1))]) rfl rfl ?_
                refine Ops.move (v := (.v (.int .i64 (safe_Add a.N b.N).2))) rfl rfl ?_
                refine Ops.storeH (off := 0) (v := (.agg [(.v (.int .i8 0)), (.v (.int .i64 (safe_Add a.N b.N).1))])) (ys := [(.v (.int .i8 0)), (.v (.int .i64 (safe_Add a.N b.N).1))]) (cells' := [(.v (.int .i8 0)), (.v (.int .i64 (safe_Add a.N b.N).1))]) H 0 rfl rfl rfl rfl rfl rfl rfl rfl rfl nofun ?_; intro σ H
                refine Ops.assign (v := (.v (.int .i64 (safe_Add a.N b.N).2))) rfl rfl ?_
                apply Ops.nil
                replace H := H.all
                apply Runs.ret
                subst h
                exact (Ends.H (xs := [(.agg [(.v (.int .i8 0)), (.v (.int .i64 (safe_Add a.N b.N).1))]), (.v (.int .i64 (safe_Add a.N b.N).2))]) (.inr rfl) H (.agg (cs := [(.v (.int .i8 0)), (.v (.int .i64 (safe_Add a.N b.N).1))]) (off := 0) 0 rfl rfl rfl rfl rfl rfl rfl (.tmp (v := (.v (.int .i64 (safe_Add a.N b.N).2))) rfl .nil)) (.two (.cons (.p rfl) (.cons (.c (.v _)) .nil))))

set_option maxRecDepth 100000 in
set_option maxHeartbeats 4000000 in
theorem safe_Less_fn {a : Bound} {b : Bound} {r : Bool} (h : safe_Less a b = r) : Fn CX 33 [(.agg (vs (Bound.cs a))), (.agg (vs (Bound.cs b)))] (.v (.bool r)) := by
  refine Fn.ends Try.func33 rfl rfl rfl rfl rfl rfl ?_
  have H : Hs (⟨0, fun _ => .none⟩ : Heap) [] := Has.nil (Nat.le_refl _)
  generalize (⟨0, fun _ => .none⟩ : Heap) = σ at H ⊢
  unfold safe_Less at h
  apply Runs.then
  refine Runs.regionH 3 rfl H ?_; intro b1 σ H
  refine Ops.boxH (v := (.agg [(.v (.int .i8 a.Inf)), (.v (.int .i64 a.N))])) (cs := [(.v (.int .i8 a.Inf)), (.v (.int .i64 a.N))]) H (by omega) (by omega) rfl rfl rfl ?_; intro σ H
  refine Ops.boxH (v := (.agg [(.v (.int .i8 b.Inf)), (.v (.int .i64 b.N))])) (cs := [(.v (.int .i8 b.Inf)), (.v (.int .i64 b.N))]) H (by omega) (by omega) rfl rfl rfl ?_; intro σ H
  refine Ops.assign (v := (.v (.bool false))) rfl rfl ?_
  apply Ops.nil
  replace H := H.all
  apply Runs.then
  apply Runs.inBlock
  apply Runs.then
  refine Runs.regionH 9 rfl H ?_; intro b2 σ H
  refine Ops.loadHA (off := 0) (cs := [(.v (.int .i8 a.Inf)), (.v (.int .i64 a.N))]) H 1 rfl rfl rfl rfl rfl rfl rfl nofun rfl ?_
  refine Ops.call (ys := [(.agg [(.v (.int .i8 a.Inf)), (.v (.int .i64 a.N))])]) (r := (.v (.bool (safe_Right a)))) rfl (safe_Right_fn rfl) rfl ?_
  refine Ops.not (b := (safe_Right a)) rfl rfl ?_
  refine Ops.move (v := (.v (.bool (!(safe_Right a))))) rfl rfl ?_
  refine Ops.mid 4 (K1 := fun e σ => EnvHas e [(13, (.v (.bool ((!(safe_Right a)) || (!(safe_Right b)))))), (2, (.ptr (b1 + 0) 2 0)), (3, (.ptr (b1 + 1) 2 0))] ∧ Has σ (b2 + 8) (b2 + 9) [.blk (b1 + 1) 32 [(.v (.int .i8 b.Inf)), (.v (.int .i64 b.N))], .blk (b1 + 0) 32 [(.v (.int .i8 a.Inf)), (.v (.int .i64 a.N))]]) rfl ?_ ?_
  · refine Ops.split rfl rfl ?_ ?_ <;> intro hc1
    · skip
      refine Ops.pass rfl rfl rfl ?_
      refine Ops.pass rfl rfl rfl ?_
      refine Ops.pass rfl rfl rfl ?_
      refine Ops.pickT (v := (.v (.bool true))) rfl rfl rfl ?_
      apply Ops.nil
      exact ⟨⟨or_T hc1, rfl, rfl, trivial⟩, H.weak (by omega) (Nat.le_refl _)⟩
    · skip
      refine Ops.wanted rfl rfl ?_
      refine Ops.loadHA (off := 0) (cs := [(.v (.int .i8 b.Inf)), (.v (.int .i64 b.N))]) H 0 rfl rfl rfl rfl rfl rfl rfl nofun rfl ?_
      refine Ops.wanted rfl rfl ?_
      refine Ops.call (ys := [(.agg [(.v (.int .i8 b.Inf)), (.v (.int .i64 b.N))])]) (r := (.v (.bool (safe_Right b)))) rfl (safe_Right_fn rfl) rfl ?_
      refine Ops.wanted rfl rfl ?_
      refine Ops.not (b := (safe_Right b)) rfl rfl ?_
      refine Ops.pickF (v := (.v (.bool (!(safe_Right b))))) rfl rfl rfl ?_
      apply Ops.nil
      exact ⟨⟨or_F hc1, rfl, rfl, trivial⟩, H.weak (by omega) (Nat.le_refl _)⟩
  · rintro e σ ⟨he, H⟩
    obtain ⟨e, rfl⟩ := he.ex
    refine Ops.assign (v := (.v (.bool ((!(safe_Right a)) || (!(safe_Right b)))))) rfl rfl ?_
    apply Ops.nil
    replace H := H.all
    refine Runs.whether (v := ((!(safe_Right a)) || (!(safe_Right b)))) rfl ?_ ?_ <;> intro hc2
    · replace h := cond_T hc2 h
      apply Runs.then
      refine Runs.regionH 1 rfl H ?_; intro b3 σ H
      refine Ops.assign (v := (.v (.bool false))) rfl rfl ?_
      apply Ops.nil
      replace H := H.all
      apply Runs.ret
      subst h
      exact (Ends.H (xs := [(.v (.bool false))]) (.inr rfl) H (.tmp (v := (.v (.bool false))) rfl .nil) (.one (.c (.v _))))
    · replace h := cond_F hc2 h
      apply Runs.then
      refine Runs.regionH 6 rfl H ?_; intro b4 σ H
      refine Ops.fieldAddrH (off := 0) (fo := 0) H 1 rfl rfl rfl rfl rfl nofun rfl ?_
      refine Ops.loadH (off := 0) (v := (.v (.int .i8 a.Inf))) H 1 rfl rfl rfl rfl rfl nofun rfl ?_
      refine Ops.fieldAddrH (off := 0) (fo := 0) H 0 rfl rfl rfl rfl rfl nofun rfl ?_
      refine Ops.loadH (off := 0) (v := (.v (.int .i8 b.Inf))) H 0 rfl rfl rfl rfl rfl nofun rfl ?_
      refine Ops.int (m := a.Inf) (m' := b.Inf) (r := .bool (a.Inf != b.Inf)) rfl rfl rfl rfl rfl ?_
      refine Ops.assign (v := (.v (.bool (a.Inf != b.Inf)))) rfl rfl ?_
      apply Ops.nil
      replace H := H.all
      refine Runs.whether (v := (a.Inf != b.Inf)) rfl ?_ ?_ <;> intro hc3
      · replace h := cond_T hc3 h
        apply Runs.then
        refine Runs.regionH 6 rfl H ?_; intro b5 σ H
        refine Ops.fieldAddrH (off := 0) (fo := 0) H 1 rfl rfl rfl rfl rfl nofun rfl ?_
        refine Ops.loadH (off := 0) (v := (.v (.int .i8 a.Inf))) H 1 rfl rfl rfl rfl rfl nofun rfl ?_
        refine Ops.fieldAddrH (off := 0) (fo := 0) H 0 rfl rfl rfl rfl rfl nofun rfl ?_
        refine Ops.loadH (off := 0) (v := (.v (.int .i8 b.Inf))) H 0 rfl rfl rfl rfl rfl nofun rfl ?_
        refine Ops.int (m := a.Inf) (m' := b.Inf) (r := .bool (decide (a.Inf < b.Inf))) rfl rfl rfl rfl rfl ?_
        refine Ops.assign (v := (.v (.bool (decide (a.Inf < b.Inf))))) rfl rfl ?_
        apply Ops.nil
        replace H := H.all
        apply Runs.ret
        subst h
        exact (Ends.H (xs := [(.v (.bool (decide (a.Inf < b.Inf))))]) (.inr rfl) H (.tmp (v := (.v (.bool (decide (a.Inf < b.Inf))))) rfl .nil) (.one (.c (.v _))))
      · replace h := cond_F hc3 h
        apply Runs.skip
        apply Runs.then
        refine Runs.regionH 6 rfl H ?_; intro b6 σ H
        refine Ops.fieldAddrH (off := 0) (fo := 1) H 1 rfl rfl rfl rfl rfl nofun rfl ?_
        refine Ops.loadH (off := 1) (v := (.v (.int .i64 a.N))) H 1 rfl rfl rfl rfl rfl nofun rfl ?_
        refine Ops.fieldAddrH (off := 0) (fo := 1) H 0 rfl rfl rfl rfl rfl nofun rfl ?_
        refine Ops.loadH (off := 1) (v := (.v (.int .i64 b.N))) H 0 rfl rfl rfl rfl rfl nofun rfl ?_
        refine Ops.int (m := a.N) (m' := b.N) (r := .bool (decide (a.N < b.N))) rfl rfl rfl rfl rfl ?_
        refine Ops.assign (v := (.v (.bool (decide (a.N < b.N))))) rfl rfl ?_
        apply Ops.nil
        replace H := H.all
        apply Runs.ret
        subst h
        exact (Ends.H (xs := [(.v (.bool (decide (a.N < b.N))))]) (.inr rfl) H (.tmp (v := (.v (.bool (decide (a.N < b.N))))) rfl .nil) (.one (.c (.v _))))

set_option maxRecDepth 100000 in
theorem epactlaw01_awake_fn {r : Bool} (h : epactlaw01_awake = r) : Fn CX 15 [] (.v (.bool r)) := by
  subst h
  exact Fn.run 60 (fun σ => by kernel_rfl) rfl rfl rfl

set_option maxRecDepth 100000 in
set_option maxHeartbeats 4000000 in
theorem safe_Sub_fn {a : Int} {b : Int} {r : Int × Int} (h : safe_Sub a b = r) : Fn CX 21 [(.v (.int .i64 a)), (.v (.int .i64 b))] (.tup [(.v (.int .i64 r.1)), (.v (.int .i64 r.2))]) := by
  refine Fn.ends Try.func21 rfl rfl rfl rfl rfl rfl ?_
  have H : Hs (⟨0, fun _ => .none⟩ : Heap) [] := Has.nil (Nat.le_refl _)
  generalize (⟨0, fun _ => .none⟩ : Heap) = σ at H ⊢
  unfold safe_Sub at h
  apply Runs.then
  refine Runs.regionH 2 rfl H ?_; intro b1 σ H
  refine Ops.assign (v := (.v (.int .i64 0))) rfl rfl ?_
  refine Ops.assign (v := (.v (.int .i64 0))) rfl rfl ?_
  apply Ops.nil
  replace H := H.all
  apply Runs.then
  refine Runs.regionH 4 rfl H ?_; intro b2 σ H
  refine Ops.move (v := (.v (.int .i64 a))) rfl rfl ?_
  refine Ops.move (v := (.v (.int .i64 b))) rfl rfl ?_
  refine Ops.int (m := a) (m' := b) (r := .int .i64 (w64 (a - b))) rfl rfl rfl rfl rfl ?_
  refine Ops.assign (v := (.v (.int .i64 (w64 (a - b))))) rfl rfl ?_
  apply Ops.nil
  replace H := H.all
  apply Runs.then
  apply Runs.then
  refine Runs.regionH 10 rfl H ?_; intro b3 σ H
  refine Ops.move (v := (.v (.int .i64 (w64 (a - b))))) rfl rfl ?_
  refine Ops.move (v := (.v (.int .i64 a))) rfl rfl ?_
  refine Ops.int (m := (w64 (a - b))) (m' := a) (r := .bool (decide ((w64 (a - b)) < a))) rfl rfl rfl rfl rfl ?_
  refine Ops.move (v := (.v (.int .i64 b))) rfl rfl ?_
  refine Ops.int (m := b) (m' := 0) (r := .bool (decide (b > 0))) rfl rfl rfl rfl rfl ?_
  refine Ops.neB (b := (decide ((w64 (a - b)) < a))) (b' := (decide (b > 0))) rfl rfl rfl rfl ?_
  refine Ops.move (v := (.v (.bool ((decide ((w64 (a - b)) < a)) != (decide (b > 0)))))) rfl rfl ?_
  refine Ops.mid 3 (K1 := fun e σ => EnvHas e [(19, (.v (.bool (((decide ((w64 (a - b)) < a)) != (decide (b > 0))) && (b != 0))))), (6, (.v (.int .i64 (w64 (a - b)))))] ∧ Has σ (b3 + 10) (b3 + 10) []) rfl ?_ ?_
  · refine Ops.split rfl rfl ?_ ?_ <;> intro hc1
    · skip
      refine Ops.wanted rfl rfl ?_
      refine Ops.move (v := (.v (.int .i64 b))) rfl rfl ?_
      refine Ops.wanted rfl rfl ?_
      refine Ops.int (m := b) (m' := 0) (r := .bool (b != 0)) rfl rfl rfl rfl rfl ?_
      refine Ops.pickT (v := (.v (.bool (b != 0)))) rfl rfl rfl ?_
      apply Ops.nil
      exact ⟨⟨and_T hc1, rfl, trivial⟩, H.weak (by omega) (Nat.le_refl _)⟩
    · skip
      refine Ops.pass rfl rfl rfl ?_
      refine Ops.pass rfl rfl rfl ?_
      refine Ops.pickF (v := (.v (.bool false))) rfl rfl rfl ?_
      apply Ops.nil
      exact ⟨⟨and_F hc1, rfl, trivial⟩, H.weak (by omega) (Nat.le_refl _)⟩
  · rintro e σ ⟨he, H⟩
    obtain ⟨e, rfl⟩ := he.ex
    apply Ops.nil
    replace H := H.all
    refine Runs.whether (v := (((decide ((w64 (a - b)) < a)) != (decide (b > 0))) && (b != 0))) rfl ?_ ?_ <;> intro hc2
    · replace h := cond_T hc2 h
      apply Runs.then
      refine Runs.regionH 2 rfl H ?_; intro b4 σ H
      refine Ops.assign (v := (.v (.int .i64 0))) rfl rfl ?_
      refine Ops.assign (v := (.v (.int .i64 10))) rfl rfl ?_
      apply Ops.nil
      replace H := H.all
      apply Runs.ret
      subst h
      exact (Ends.H (xs := [(.v (.int .i64 0)), (.v (.int .i64 10))]) (.inr rfl) H (.tmp (v := (.v (.int .i64 0))) rfl (.tmp (v := (.v (.int .i64 10))) rfl .nil)) (.two (.cons (.c (.v _)) (.cons (.c (.v _)) .nil))))
    · replace h := cond_F hc2 h
      apply Runs.skip
      apply Runs.then
      refine Runs.regionH 3 rfl H ?_; intro b5 σ H
      refine Ops.move (v := (.v (.int .i64 (w64 (a - b))))) rfl rfl ?_
      refine Ops.assign (v := (.v (.int .i64 (w64 (a - b))))) rfl rfl ?_
      refine Ops.assign (v := (.v (.int .i64 0))) rfl rfl ?_
      apply Ops.nil
      replace H := H.all
      apply Runs.ret
      subst h
      exact (Ends.H (xs := [(.v (.int .i64 (w64 (a - b)))), (.v (.int .i64 0))]) (.inr rfl) H (.tmp (v := (.v (.int .i64 (w64 (a - b))))) rfl (.tmp (v := (.v (.int .i64 0))) rfl .nil)) (.two (.cons (.c (.v _)) (.cons (.c (.v _)) .nil))))

set_option maxRecDepth 100000 in
set_option maxHeartbeats 4000000 in
theorem safe_Minus_fn {a : Bound} {r : Bound × Int} (h : safe_Minus a = r) : Fn CX 29 [(.agg (vs (Bound.cs a)))] (.tup [(.agg (vs (Bound.cs r.1))), (.v (.int .i64 r.2))]) := by
  refine Fn.ends Try.func29 rfl rfl rfl rfl rfl rfl ?_
  have H : Hs (⟨0, fun _ => .none⟩ : Heap) [] := Has.nil (Nat.le_refl _)
  generalize (⟨0, fun _ => .none⟩ : Heap) = σ at H ⊢
  unfold safe_Minus at h
  apply Runs.then
  refine Runs.regionH 3 rfl H ?_; intro b1 σ H
  refine Ops.boxH (v := (.agg [(.v (.int .i8 a.Inf)), (.v (.int .i64 a.N))])) (cs := [(.v (.int .i8 a.Inf)), (.v (.int .i64 a.N))]) H (by omega) (by omega) rfl rfl rfl ?_; intro σ H
  refine Ops.allocH (cs := [(.v (.int .i8 0)), (.v (.int .i64 0))]) H (by omega) (by omega) rfl rfl ?_; intro σ H
  refine Ops.assign (v := (.v (.int .i64 0))) rfl rfl ?_
  apply Ops.nil
  replace H := H.all
  apply Runs.then
  apply Runs.then
  refine Runs.regionH 3 rfl H ?_; intro b2 σ H
  refine Ops.loadHA (off := 0) (cs := [(.v (.int .i8 a.Inf)), (.v (.int .i64 a.N))]) H 1 rfl rfl rfl rfl rfl rfl rfl nofun rfl ?_
  refine Ops.call (ys := [(.agg [(.v (.int .i8 a.Inf)), (.v (.int .i64 a.N))])]) (r := (.v (.bool (safe_Right a)))) rfl (safe_Right_fn rfl) rfl ?_
  refine Ops.not (b := (safe_Right a)) rfl rfl ?_
  apply Ops.nil
  replace H := H.all
  refine Runs.whether (v := (!(safe_Right a))) rfl ?_ ?_ <;> intro hc1
  · replace h := cond_T hc1 h
    apply Runs.then
    refine Runs.regionH 3 rfl H ?_; intro b3 σ H
    refine Ops.buildA (cs := [(.v (.int .i8 0)), (.v (.int .i64 0))]) rfl rfl ?_
    refine Ops.storeH (off := 0) (v := (.agg [(.v (.int .i8 0)), (.v (.int .i64 0))])) (ys := [(.v (.int .i8 0)), (.v (.int .i64 0))]) (cells' := [(.v (.int .i8 0)), (.v (.int .i64 0))]) H 0 rfl rfl rfl rfl rfl rfl rfl rfl rfl nofun ?_; intro σ H
    refine Ops.assign (v := (.v (.int .i64 2))) rfl rfl ?_
    apply Ops.nil
    replace H := H.all
    apply Runs.ret
    subst h
    exact (Ends.H (xs := [(.agg [(.v (.int .i8 0)), (.v (.int .i64 0))]), (.v (.int .i64 2))]) (.inr rfl) H (.agg (cs := [(.v (.int .i8 0)), (.v (.int .i64 0))]) (off := 0) 0 rfl rfl rfl rfl rfl rfl rfl (.tmp (v := (.v (.int .i64 2))) rfl .nil)) (.two (.cons (.p rfl) (.cons (.c (.v _)) .nil))))
  · replace h := cond_F hc1 h
    apply Runs.skip
    apply Runs.then
    refine Runs.regionH 8 rfl H ?_; intro b4 σ H
    refine Ops.fieldAddrH (off := 0) (fo := 1) H 1 rfl rfl rfl rfl rfl nofun rfl ?_
    refine Ops.loadH (off := 1) (v := (.v (.int .i64 a.N))) H 1 rfl rfl rfl rfl rfl nofun rfl ?_
    refine Ops.call (ys := [(.v (.int .i64 0)), (.v (.int .i64 a.N))]) (r := (.tup [(.v (.int .i64 (safe_Sub 0 a.N).1)), (.v (.int .i64 (safe_Sub 0 a.N).2))])) rfl (safe_Sub_fn rfl) rfl ?_
    refine Ops.move (v := (.tup [(.v (.int .i64 (safe_Sub 0 a.N).1)), (.v (.int .i64 (safe_Sub 0 a.N).2))])) rfl rfl ?_
    refine Ops.extract (v := (.v (.int .i64 (safe_Sub 0 a.N).1))) rfl rfl rfl ?_
    refine Ops.extract (v := (.v (.int .i64 (safe_Sub 0 a.N).2))) rfl rfl rfl ?_
    refine Ops.assign (v := (.v (.int .i64 (safe_Sub 0 a.N).1))) rfl rfl ?_
    refine Ops.assign (v := (.v (.int .i64 (safe_Sub 0 a.N).2))) rfl rfl ?_
    apply Ops.nil
    replace H := H.all
    apply Runs.then
    apply Runs.then
    refine Runs.regionH 2 rfl H ?_; intro b5 σ H
    refine Ops.move (v := (.v (.int .i64 (safe_Sub 0 a.N).2))) rfl rfl ?_
    refine Ops.int (m := (safe_Sub 0 a.N).2) (m' := 0) (r := .bool (((safe_Sub 0 a.N).2) != 0)) rfl rfl rfl rfl rfl ?_
    apply Ops.nil
    replace H := H.all
    refine Runs.whether (v := (((safe_Sub 0 a.N).2) != 0)) rfl ?_ ?_ <;> intro hc2
    · replace h := cond_T hc2 h
      apply Runs.then
      refine Runs.regionH 4 rfl H ?_; intro b6 σ H
      refine Ops.buildA (cs := [(.v (.int .i8 0)), (.v (.int .i64 0))]) rfl rfl ?_
      refine Ops.move (v := (.v (.int .i64 (safe_Sub 0 a.N).2))) rfl rfl ?_
      refine Ops.storeH (off := 0) (v := (.agg [(.v (.int .i8 0)), (.v (.int .i64 0))])) (ys := [(.v (.int .i8 0)), (.v (.int .i64 0))]) (cells' := [(.v (.int .i8 0)), (.v (.int .i64 0))]) H 0 rfl rfl rfl rfl rfl rfl rfl rfl rfl nofun ?_; intro σ H
      refine Ops.assign (v := (.v (.int .i64 (safe_Sub 0 a.N).2))) rfl rfl ?_
      apply Ops.nil
      replace H := H.all
      apply Runs.ret
      subst h
      exact (Ends.H (xs := [(.agg [(.v (.int .i8 0)), (.v (.int .i64 0))]), (.v (.int .i64 (safe_Sub 0 a.N).2))]) (.inr rfl) H (.agg (cs := [(.v (.int .i8 0)), (.v (.int .i64 0))]) (off := 0) 0 rfl rfl rfl rfl rfl rfl rfl (.tmp (v := (.v (.int .i64 (safe_Sub 0 a.N).2))) rfl .nil)) (.two (.cons (.p rfl) (.cons (.c (.v _)) .nil))))
    · replace h := cond_F hc2 h
      apply Runs.skip
      apply Runs.then
      refine Runs.regionH 7 rfl H ?_; intro b7 σ H
      refine Ops.fieldAddrH (off := 0) (fo := 0) H 1 rfl rfl rfl rfl rfl nofun rfl ?_
      refine Ops.loadH (off := 0) (v := (.v (.int .i8 a.Inf))) H 1 rfl rfl rfl rfl rfl nofun rfl ?_
      refine Ops.neg (m := a.Inf) rfl rfl ?_
      refine Ops.move (v := (.v (.int .i64 (safe_Sub 0 a.N).1))) rfl rfl ?_
      refine Ops.buildA (cs := [(.v (.int .i8 (IntKind.i8.wrap (0 - a.Inf)))), (.v (.int .i64 (safe_Sub 0 a.N).1))]) rfl rfl ?_
      refine Ops.storeH (off := 0) (v := (.agg [(.v (.int .i8 (IntKind.i8.wrap (0 - a.Inf)))), (.v (.int .i64 (safe_Sub 0 a.N).1))])) (ys := [(.v (.int .i8 (IntKind.i8.wrap (0 - a.Inf)))), (.v (.int .i64 (safe_Sub 0 a.N).1))]) (cells' := [(.v (.int .i8 (IntKind.i8.wrap (0 - a.Inf)))), (.v (.int .i64 (safe_Sub 0 a.N).1))]) H 0 rfl rfl rfl rfl rfl rfl rfl rfl rfl nofun ?_; intro σ H
      refine Ops.assign (v := (.v (.int .i64 0))) rfl rfl ?_
      apply Ops.nil
      replace H := H.all
      apply Runs.ret
      subst h
      exact (Ends.H (xs := [(.agg [(.v (.int .i8 (IntKind.i8.wrap (0 - a.Inf)))), (.v (.int .i64 (safe_Sub 0 a.N).1))]), (.v (.int .i64 0))]) (.inr rfl) H (.agg (cs := [(.v (.int .i8 (IntKind.i8.wrap (0 - a.Inf)))), (.v (.int .i64 (safe_Sub 0 a.N).1))]) (off := 0) 0 rfl rfl rfl rfl rfl rfl rfl (.tmp (v := (.v (.int .i64 0))) rfl .nil)) (.two (.cons (.p rfl) (.cons (.c (.v _)) .nil))))

set_option maxRecDepth 100000 in
set_option maxHeartbeats 4000000 in
theorem epactlaw01_SafeOrder_fn {a : Bound} {b : Bound} {c : Bound} {r : Bool} (h : epactlaw01_SafeOrder a b c = r) : Fn CX 8 [(.agg (vs (Bound.cs a))), (.agg (vs (Bound.cs b))), (.agg (vs (Bound.cs c)))] (.v (.bool r)) := by
  refine Fn.ends Try.func8 rfl rfl rfl rfl rfl rfl ?_
  have H : Hs (⟨0, fun _ => .none⟩ : Heap) [] := Has.nil (Nat.le_refl _)
  generalize (⟨0, fun _ => .none⟩ : Heap) = σ at H ⊢
  unfold epactlaw01_SafeOrder at h
  apply Runs.then
  refine Runs.regionH 4 rfl H ?_; intro b1 σ H
  refine Ops.boxH (v := (.agg [(.v (.int .i8 a.Inf)), (.v (.int .i64 a.N))])) (cs := [(.v (.int .i8 a.Inf)), (.v (.int .i64 a.N))]) H (by omega) (by omega) rfl rfl rfl ?_; intro σ H
  refine Ops.boxH (v := (.agg [(.v (.int .i8 b.Inf)), (.v (.int .i64 b.N))])) (cs := [(.v (.int .i8 b.Inf)), (.v (.int .i64 b.N))]) H (by omega) (by omega) rfl rfl rfl ?_; intro σ H
  refine Ops.boxH (v := (.agg [(.v (.int .i8 c.Inf)), (.v (.int .i64 c.N))])) (cs := [(.v (.int .i8 c.Inf)), (.v (.int .i64 c.N))]) H (by omega) (by omega) rfl rfl rfl ?_; intro σ H
  refine Ops.assign (v := (.v (.bool false))) rfl rfl ?_
  apply Ops.nil
  replace H := H.all
  apply Runs.then
  apply Runs.then
  refine Runs.regionH 13 rfl H ?_; intro b2 σ H
  refine Ops.loadHA (off := 0) (cs := [(.v (.int .i8 a.Inf)), (.v (.int .i64 a.N))]) H 2 rfl rfl rfl rfl rfl rfl rfl nofun rfl ?_
  refine Ops.call (ys := [(.agg [(.v (.int .i8 a.Inf)), (.v (.int .i64 a.N))])]) (r := (.v (.bool (safe_Right a)))) rfl (safe_Right_fn rfl) rfl ?_
  refine Ops.not (b := (safe_Right a)) rfl rfl ?_
  refine Ops.move (v := (.v (.bool (!(safe_Right a))))) rfl rfl ?_
  refine Ops.mid 4 (K1 := fun e σ => EnvHas e [(24, (.v (.bool ((!(safe_Right a)) || (!(safe_Right b)))))), (3, (.ptr (b1 + 0) 2 0)), (4, (.ptr (b1 + 1) 2 0)), (5, (.ptr (b1 + 2) 2 0))] ∧ Has σ (b2 + 8) (b2 + 13) [.blk (b1 + 2) 32 [(.v (.int .i8 c.Inf)), (.v (.int .i64 c.N))], .blk (b1 + 1) 32 [(.v (.int .i8 b.Inf)), (.v (.int .i64 b.N))], .blk (b1 + 0) 32 [(.v (.int .i8 a.Inf)), (.v (.int .i64 a.N))]]) rfl ?_ ?_
  · refine Ops.split rfl rfl ?_ ?_ <;> intro hc1
    · skip
      refine Ops.pass rfl rfl rfl ?_
      refine Ops.pass rfl rfl rfl ?_
      refine Ops.pass rfl rfl rfl ?_
      refine Ops.pickT (v := (.v (.bool true))) rfl rfl rfl ?_
      apply Ops.nil
      exact ⟨⟨or_T hc1, rfl, rfl, rfl, trivial⟩, H.weak (by omega) (Nat.le_refl _)⟩
    · skip
      refine Ops.wanted rfl rfl ?_
      refine Ops.loadHA (off := 0) (cs := [(.v (.int .i8 b.Inf)), (.v (.int .i64 b.N))]) H 1 rfl rfl rfl rfl rfl rfl rfl nofun rfl ?_
      refine Ops.wanted rfl rfl ?_
      refine Ops.call (ys := [(.agg [(.v (.int .i8 b.Inf)), (.v (.int .i64 b.N))])]) (r := (.v (.bool (safe_Right b)))) rfl (safe_Right_fn rfl) rfl ?_
      refine Ops.wanted rfl rfl ?_
      refine Ops.not (b := (safe_Right b)) rfl rfl ?_
      refine Ops.pickF (v := (.v (.bool (!(safe_Right b))))) rfl rfl rfl ?_
      apply Ops.nil
      exact ⟨⟨or_F hc1, rfl, rfl, rfl, trivial⟩, H.weak (by omega) (Nat.le_refl _)⟩
  · rintro e σ ⟨he, H⟩
    obtain ⟨e, rfl⟩ := he.ex
    refine Ops.move (v := (.v (.bool ((!(safe_Right a)) || (!(safe_Right b)))))) rfl rfl ?_
    refine Ops.mid 4 (K1 := fun e σ => EnvHas e [(29, (.v (.bool (((!(safe_Right a)) || (!(safe_Right b))) || (!(safe_Right c)))))), (3, (.ptr (b1 + 0) 2 0)), (4, (.ptr (b1 + 1) 2 0)), (5, (.ptr (b1 + 2) 2 0))] ∧ Has σ (b2 + 13) (b2 + 13) [.blk (b1 + 2) 32 [(.v (.int .i8 c.Inf)), (.v (.int .i64 c.N))], .blk (b1 + 1) 32 [(.v (.int .i8 b.Inf)), (.v (.int .i64 b.N))], .blk (b1 + 0) 32 [(.v (.int .i8 a.Inf)), (.v (.int .i64 a.N))]]) rfl ?_ ?_
    · refine Ops.split rfl rfl ?_ ?_ <;> intro hc2
      · skip
        refine Ops.pass rfl rfl rfl ?_
        refine Ops.pass rfl rfl rfl ?_
        refine Ops.pass rfl rfl rfl ?_
        refine Ops.pickT (v := (.v (.bool true))) rfl rfl rfl ?_
        apply Ops.nil
        exact ⟨⟨or_T hc2, rfl, rfl, rfl, trivial⟩, H.weak (by omega) (Nat.le_refl _)⟩
      · skip
        refine Ops.wanted rfl rfl ?_
        refine Ops.loadHA (off := 0) (cs := [(.v (.int .i8 c.Inf)), (.v (.int .i64 c.N))]) H 0 rfl rfl rfl rfl rfl rfl rfl nofun rfl ?_
        refine Ops.wanted rfl rfl ?_
        refine Ops.call (ys := [(.agg [(.v (.int .i8 c.Inf)), (.v (.int .i64 c.N))])]) (r := (.v (.bool (safe_Right c)))) rfl (safe_Right_fn rfl) rfl ?_
        refine Ops.wanted rfl rfl ?_
        refine Ops.not (b := (safe_Right c)) rfl rfl ?_
        refine Ops.pickF (v := (.v (.bool (!(safe_Right c))))) rfl rfl rfl ?_
        apply Ops.nil
        exact ⟨⟨or_F hc2, rfl, rfl, rfl, trivial⟩, H.weak (by omega) (Nat.le_refl _)⟩
    · rintro e σ ⟨he, H⟩
      obtain ⟨e, rfl⟩ := he.ex
      apply Ops.nil
      replace H := H.all
      refine Runs.whether (v := (((!(safe_Right a)) || (!(safe_Right b))) || (!(safe_Right c)))) rfl ?_ ?_ <;> intro hc3
      · replace h := cond_T hc3 h
        apply Runs.then
        refine Runs.regionH 9 rfl H ?_; intro b3 σ H
        refine Ops.loadHA (off := 0) (cs := [(.v (.int .i8 a.Inf)), (.v (.int .i64 a.N))]) H 2 rfl rfl rfl rfl rfl rfl rfl nofun rfl ?_
        refine Ops.loadHA (off := 0) (cs := [(.v (.int .i8 a.Inf)), (.v (.int .i64 a.N))]) H 2 rfl rfl rfl rfl rfl rfl rfl nofun rfl ?_
        refine Ops.call (ys := [(.agg [(.v (.int .i8 a.Inf)), (.v (.int .i64 a.N))]), (.agg [(.v (.int .i8 a.Inf)), (.v (.int .i64 a.N))])]) (r := (.tup [(.agg [(.v (.int .i8 (safe_Sum a a).1.Inf)), (.v (.int .i64 (safe_Sum a a).1.N))]), (.v (.int .i64 (safe_Sum a a).2))])) rfl (safe_Sum_fn rfl) rfl ?_
        refine Ops.move (v := (.tup [(.agg [(.v (.int .i8 (safe_Sum a a).1.Inf)), (.v (.int .i64 (safe_Sum a a).1.N))]), (.v (.int .i64 (safe_Sum a a).2))])) rfl rfl ?_
        refine Ops.extract (v := (.agg [(.v (.int .i8 (safe_Sum a a).1.Inf)), (.v (.int .i64 (safe_Sum a a).1.N))])) rfl rfl rfl ?_
        refine Ops.extract (v := (.v (.int .i64 (safe_Sum a a).2))) rfl rfl rfl ?_
        refine Ops.allocH (cs := [(.v (.int .i8 0)), (.v (.int .i64 0))]) H (by omega) (by omega) rfl rfl ?_; intro σ H
        refine Ops.storeH (off := 0) (v := (.agg [(.v (.int .i8 (safe_Sum a a).1.Inf)), (.v (.int .i64 (safe_Sum a a).1.N))])) (ys := [(.v (.int .i8 (safe_Sum a a).1.Inf)), (.v (.int .i64 (safe_Sum a a).1.N))]) (cells' := [(.v (.int .i8 (safe_Sum a a).1.Inf)), (.v (.int .i64 (safe_Sum a a).1.N))]) H 0 rfl rfl rfl rfl rfl rfl rfl rfl rfl nofun ?_; intro σ H
        refine Ops.assign (v := (.v (.int .i64 (safe_Sum a a).2))) rfl rfl ?_
        apply Ops.nil
        replace H := H.all
        apply Runs.then
        refine Runs.regionH 22 rfl H ?_; intro b4 σ H
        refine Ops.loadHA (off := 0) (cs := [(.v (.int .i8 a.Inf)), (.v (.int .i64 a.N))]) H 3 rfl rfl rfl rfl rfl rfl rfl nofun rfl ?_
        refine Ops.call (ys := [(.agg [(.v (.int .i8 a.Inf)), (.v (.int .i64 a.N))])]) (r := (.v (.bool (safe_Right a)))) rfl (safe_Right_fn rfl) rfl ?_
        refine Ops.move (v := (.v (.bool (safe_Right a)))) rfl rfl ?_
        refine Ops.mid 15 (K1 := fun e σ => EnvHas e [(53, (.v (.bool ((safe_Right a) || (((((safe_Sum a a).2) == 2) && (!(safe_Less a b))) && (!(safe_Less b a)))))))] ∧ Has σ (b4 + 18) (b4 + 22) []) rfl ?_ ?_
        · refine Ops.split rfl rfl ?_ ?_ <;> intro hc4
          · skip
            refine Ops.pass rfl rfl rfl ?_
            refine Ops.pass rfl rfl rfl ?_
            refine Ops.pass rfl rfl rfl ?_
            refine Ops.passU rfl rfl rfl ?_
            refine Ops.passU rfl rfl rfl ?_
            refine Ops.passU rfl rfl rfl ?_
            refine Ops.passU rfl rfl rfl ?_
            refine Ops.pass rfl rfl rfl ?_
            refine Ops.pass rfl rfl rfl ?_
            refine Ops.passU rfl rfl rfl ?_
            refine Ops.passU rfl rfl rfl ?_
            refine Ops.passU rfl rfl rfl ?_
            refine Ops.passU rfl rfl rfl ?_
            refine Ops.pass rfl rfl rfl ?_
            refine Ops.pickT (v := (.v (.bool true))) rfl rfl rfl ?_
            apply Ops.nil
            exact ⟨⟨or_T hc4, trivial⟩, ((((H.erase 3).erase 2).erase 1).erase 0).weak (by omega) (Nat.le_refl _)⟩
          · skip
            refine Ops.wanted rfl rfl ?_
            refine Ops.move (v := (.v (.int .i64 (safe_Sum a a).2))) rfl rfl ?_
            refine Ops.wanted rfl rfl ?_
            refine Ops.int (m := (safe_Sum a a).2) (m' := 2) (r := .bool (((safe_Sum a a).2) == 2)) rfl rfl rfl rfl rfl ?_
            refine Ops.wanted rfl rfl ?_
            refine Ops.move (v := (.v (.bool (((safe_Sum a a).2) == 2)))) rfl rfl ?_
            refine Ops.mid 5 (K1 := fun e σ => EnvHas e [(46, (.v (.bool ((((safe_Sum a a).2) == 2) && (!(safe_Less a b)))))), (3, (.ptr (b1 + 0) 2 0)), (4, (.ptr (b1 + 1) 2 0)), (38, (.v (.bool false)))] ∧ Has σ (b4 + 11) (b4 + 22) [.blk (b1 + 1) 32 [(.v (.int .i8 b.Inf)), (.v (.int .i64 b.N))], .blk (b1 + 0) 32 [(.v (.int .i8 a.Inf)), (.v (.int .i64 a.N))]]) rfl ?_ ?_
            · refine Ops.split rfl rfl ?_ ?_ <;> intro hc5
              · skip
                refine Ops.wanted rfl rfl ?_
                refine Ops.loadHA (off := 0) (cs := [(.v (.int .i8 a.Inf)), (.v (.int .i64 a.N))]) H 3 rfl rfl rfl rfl rfl rfl rfl nofun rfl ?_
                refine Ops.wanted rfl rfl ?_
                refine Ops.loadHA (off := 0) (cs := [(.v (.int .i8 b.Inf)), (.v (.int .i64 b.N))]) H 2 rfl rfl rfl rfl rfl rfl rfl nofun rfl ?_
                refine Ops.wanted rfl rfl ?_
                refine Ops.call (ys := [(.agg [(.v (.int .i8 a.Inf)), (.v (.int .i64 a.N))]), (.agg [(.v (.int .i8 b.Inf)), (.v (.int .i64 b.N))])]) (r := (.v (.bool (safe_Less a b)))) rfl (safe_Less_fn rfl) rfl ?_
                refine Ops.wanted rfl rfl ?_
                refine Ops.not (b := (safe_Less a b)) rfl rfl ?_
                refine Ops.wanted rfl rfl ?_
                refine Ops.pickT (v := (.v (.bool (!(safe_Less a b))))) rfl rfl rfl ?_
                apply Ops.nil
                exact ⟨⟨and_T hc5, rfl, rfl, rfl, trivial⟩, ((H.erase 1).erase 0).weak (by omega) (Nat.le_refl _)⟩
              · skip
                refine Ops.pass rfl rfl rfl ?_
                refine Ops.pass rfl rfl rfl ?_
                refine Ops.pass rfl rfl rfl ?_
                refine Ops.pass rfl rfl rfl ?_
                refine Ops.wanted rfl rfl ?_
                refine Ops.pickF (v := (.v (.bool false))) rfl rfl rfl ?_
                apply Ops.nil
                exact ⟨⟨and_F hc5, rfl, rfl, rfl, trivial⟩, ((H.erase 1).erase 0).weak (by omega) (Nat.le_refl _)⟩
            · rintro e σ ⟨he, H⟩
              obtain ⟨e, rfl⟩ := he.ex
              refine Ops.wanted rfl rfl ?_
              refine Ops.move (v := (.v (.bool ((((safe_Sum a a).2) == 2) && (!(safe_Less a b)))))) rfl rfl ?_
              refine Ops.mid 5 (K1 := fun e σ => EnvHas e [(52, (.v (.bool (((((safe_Sum a a).2) == 2) && (!(safe_Less a b))) && (!(safe_Less b a)))))), (38, (.v (.bool false)))] ∧ Has σ (b4 + 17) (b4 + 22) []) rfl ?_ ?_
              · refine Ops.split rfl rfl ?_ ?_ <;> intro hc6
                · skip
                  refine Ops.wanted rfl rfl ?_
                  refine Ops.loadHA (off := 0) (cs := [(.v (.int .i8 b.Inf)), (.v (.int .i64 b.N))]) H 0 rfl rfl rfl rfl rfl rfl rfl nofun rfl ?_
                  refine Ops.wanted rfl rfl ?_
                  refine Ops.loadHA (off := 0) (cs := [(.v (.int .i8 a.Inf)), (.v (.int .i64 a.N))]) H 1 rfl rfl rfl rfl rfl rfl rfl nofun rfl ?_
                  refine Ops.wanted rfl rfl ?_
                  refine Ops.call (ys := [(.agg [(.v (.int .i8 b.Inf)), (.v (.int .i64 b.N))]), (.agg [(.v (.int .i8 a.Inf)), (.v (.int .i64 a.N))])]) (r := (.v (.bool (safe_Less b a)))) rfl (safe_Less_fn rfl) rfl ?_
                  refine Ops.wanted rfl rfl ?_
                  refine Ops.not (b := (safe_Less b a)) rfl rfl ?_
                  refine Ops.wanted rfl rfl ?_
                  refine Ops.pickT (v := (.v (.bool (!(safe_Less b a))))) rfl rfl rfl ?_
                  apply Ops.nil
                  exact ⟨⟨and_T hc6, rfl, trivial⟩, ((H.erase 1).erase 0).weak (by omega) (Nat.le_refl _)⟩
                · skip
                  refine Ops.pass rfl rfl rfl ?_
                  refine Ops.pass rfl rfl rfl ?_
                  refine Ops.pass rfl rfl rfl ?_
                  refine Ops.pass rfl rfl rfl ?_
                  refine Ops.wanted rfl rfl ?_
                  refine Ops.pickF (v := (.v (.bool false))) rfl rfl rfl ?_
                  apply Ops.nil
                  exact ⟨⟨and_F hc6, rfl, trivial⟩, ((H.erase 1).erase 0).weak (by omega) (Nat.le_refl _)⟩
              · rintro e σ ⟨he, H⟩
                obtain ⟨e, rfl⟩ := he.ex
                refine Ops.pickF (v := (.v (.bool (((((safe_Sum a a).2) == 2) && (!(safe_Less a b))) && (!(safe_Less b a)))))) rfl rfl rfl ?_
                apply Ops.nil
                exact ⟨⟨or_F hc4, trivial⟩, H.weak (by omega) (Nat.le_refl _)⟩
        · rintro e σ ⟨he, H⟩
          obtain ⟨e, rfl⟩ := he.ex
          refine Ops.move (v := (.v (.bool ((safe_Right a) || (((((safe_Sum a a).2) == 2) && (!(safe_Less a b))) && (!(safe_Less b a))))))) rfl rfl ?_
          refine Ops.mid 2 (K1 := fun e σ => EnvHas e [(56, (.v (.bool (((safe_Right a) || (((((safe_Sum a a).2) == 2) && (!(safe_Less a b))) && (!(safe_Less b a)))) && epactlaw01_awake))))] ∧ Has σ (b4 + 21) (b4 + 22) []) rfl ?_ ?_
          · refine Ops.split rfl rfl ?_ ?_ <;> intro hc7
            · skip
              refine Ops.wanted rfl rfl ?_
              refine Ops.call (ys := []) (r := (.v (.bool epactlaw01_awake))) rfl (epactlaw01_awake_fn rfl) rfl ?_
              refine Ops.pickT (v := (.v (.bool epactlaw01_awake))) rfl rfl rfl ?_
              apply Ops.nil
              exact ⟨⟨and_T hc7, trivial⟩, H.weak (by omega) (Nat.le_refl _)⟩
            · skip
              refine Ops.pass rfl rfl rfl ?_
              refine Ops.pickF (v := (.v (.bool false))) rfl rfl rfl ?_
              apply Ops.nil
              exact ⟨⟨and_F hc7, trivial⟩, H.weak (by omega) (Nat.le_refl _)⟩
          · rintro e σ ⟨he, H⟩
            obtain ⟨e, rfl⟩ := he.ex
            refine Ops.assign (v := (.v (.bool (((safe_Right a) || (((((safe_Sum a a).2) == 2) && (!(safe_Less a b))) && (!(safe_Less b a)))) && epactlaw01_awake)))) rfl rfl ?_
            apply Ops.nil
            replace H := H.all
            apply Runs.ret
            subst h
            exact (Ends.H (xs := [(.v (.bool (((safe_Right a) || (((((safe_Sum a a).2) == 2) && (!(safe_Less a b))) && (!(safe_Less b a)))) && epactlaw01_awake)))]) (.inr rfl) H (.tmp (v := (.v (.bool (((safe_Right a) || (((((safe_Sum a a).2) == 2) && (!(safe_Less a b))) && (!(safe_Less b a)))) && epactlaw01_awake)))) rfl .nil) (.one (.c (.v _))))
      · replace h := cond_F hc3 h
        apply Runs.skip
        apply Runs.then
        apply Runs.then
        refine Runs.drawnH 40 rfl (by kernel_rfl) H ?_; intro b5 σ H B5
        refine Ops.loadHA (off := 0) (cs := [(.v (.int .i8 a.Inf)), (.v (.int .i64 a.N))]) H 2 rfl rfl rfl rfl rfl rfl rfl (fun _ => .inl ⟨B5 2 _ rfl _ rfl, nofun⟩) rfl ?_
        refine Ops.loadHA (off := 0) (cs := [(.v (.int .i8 b.Inf)), (.v (.int .i64 b.N))]) H 1 rfl rfl rfl rfl rfl rfl rfl (fun _ => .inl ⟨B5 1 _ rfl _ rfl, nofun⟩) rfl ?_
        refine Ops.call (ys := [(.agg [(.v (.int .i8 a.Inf)), (.v (.int .i64 a.N))]), (.agg [(.v (.int .i8 b.Inf)), (.v (.int .i64 b.N))])]) (r := (.v (.bool (safe_Less a b)))) rfl (safe_Less_fn rfl) rfl ?_
        refine Ops.move (v := (.v (.bool (safe_Less a b)))) rfl rfl ?_
        refine Ops.mid 4 (K1 := fun e σ => EnvHas e [(64, (.v (.bool ((safe_Less a b) && (safe_Less b a))))), (3, (.ptr (b1 + 0) 2 0)), (4, (.ptr (b1 + 1) 2 0)), (5, (.ptr (b1 + 2) 2 0))] ∧ Has σ (b5 + 8) (b5 + 40) [.blk (b1 + 2) 32 [(.v (.int .i8 c.Inf)), (.v (.int .i64 c.N))], .blk (b1 + 1) 32 [(.v (.int .i8 b.Inf)), (.v (.int .i64 b.N))], .blk (b1 + 0) 32 [(.v (.int .i8 a.Inf)), (.v (.int .i64 a.N))]]) rfl ?_ ?_
        · refine Ops.split rfl rfl ?_ ?_ <;> intro hc8
          · skip
            refine Ops.wanted rfl rfl ?_
            refine Ops.loadHA (off := 0) (cs := [(.v (.int .i8 b.Inf)), (.v (.int .i64 b.N))]) H 1 rfl rfl rfl rfl rfl rfl rfl (fun _ => .inl ⟨B5 1 _ rfl _ rfl, nofun⟩) rfl ?_
            refine Ops.wanted rfl rfl ?_
            refine Ops.loadHA (off := 0) (cs := [(.v (.int .i8 a.Inf)), (.v (.int .i64 a.N))]) H 2 rfl rfl rfl rfl rfl rfl rfl (fun _ => .inl ⟨B5 2 _ rfl _ rfl, nofun⟩) rfl ?_
            refine Ops.wanted rfl rfl ?_
            refine Ops.call (ys := [(.agg [(.v (.int .i8 b.Inf)), (.v (.int .i64 b.N))]), (.agg [(.v (.int .i8 a.Inf)), (.v (.int .i64 a.N))])]) (r := (.v (.bool (safe_Less b a)))) rfl (safe_Less_fn rfl) rfl ?_
            refine Ops.pickT (v := (.v (.bool (safe_Less b a)))) rfl rfl rfl ?_
            apply Ops.nil
            exact ⟨⟨and_T hc8, rfl, rfl, rfl, trivial⟩, H.weak (by omega) (Nat.le_refl _)⟩
          · skip
            refine Ops.pass rfl rfl rfl ?_
            refine Ops.pass rfl rfl rfl ?_
            refine Ops.pass rfl rfl rfl ?_
            refine Ops.pickF (v := (.v (.bool false))) rfl rfl rfl ?_
            apply Ops.nil
            exact ⟨⟨and_F hc8, rfl, rfl, rfl, trivial⟩, H.weak (by omega) (Nat.le_refl _)⟩
        · rintro e σ ⟨he, H⟩
          obtain ⟨e, rfl⟩ := he.ex
          refine Ops.move (v := (.v (.bool ((safe_Less a b) && (safe_Less b a))))) rfl rfl ?_
          refine Ops.mid 15 (K1 := fun e σ => EnvHas e [(80, (.v (.bool (((safe_Less a b) && (safe_Less b a)) || ((!(safe_Less a b)) && ((!(safe_Less b a)) != ((a.Inf == b.Inf) && ((a.N == b.N) && true)))))))), (3, (.ptr (b1 + 0) 2 0)), (4, (.ptr (b1 + 1) 2 0)), (5, (.ptr (b1 + 2) 2 0))] ∧ Has σ (b5 + 24) (b5 + 40) [.blk (b1 + 2) 32 [(.v (.int .i8 c.Inf)), (.v (.int .i64 c.N))], .blk (b1 + 1) 32 [(.v (.int .i8 b.Inf)), (.v (.int .i64 b.N))], .blk (b1 + 0) 32 [(.v (.int .i8 a.Inf)), (.v (.int .i64 a.N))]]) rfl ?_ ?_
          · refine Ops.split rfl rfl ?_ ?_ <;> intro hc9
            · skip
              refine Ops.pass rfl rfl rfl ?_
              refine Ops.pass rfl rfl rfl ?_
              refine Ops.pass rfl rfl rfl ?_
              refine Ops.pass rfl rfl rfl ?_
              refine Ops.pass rfl rfl rfl ?_
              refine Ops.passU rfl rfl rfl ?_
              refine Ops.passU rfl rfl rfl ?_
              refine Ops.passU rfl rfl rfl ?_
              refine Ops.passU rfl rfl rfl ?_
              refine Ops.passU rfl rfl rfl ?_
              refine Ops.passU rfl rfl rfl ?_
              refine Ops.passU rfl rfl rfl ?_
              refine Ops.passU rfl rfl rfl ?_
              refine Ops.pass rfl rfl rfl ?_
              refine Ops.pickT (v := (.v (.bool true))) rfl rfl rfl ?_
              apply Ops.nil
              exact ⟨⟨or_T hc9, rfl, rfl, rfl, trivial⟩, H.weak (by omega) (Nat.le_refl _)⟩
            · skip
              refine Ops.wanted rfl rfl ?_
              refine Ops.loadHA (off := 0) (cs := [(.v (.int .i8 a.Inf)), (.v (.int .i64 a.N))]) H 2 rfl rfl rfl rfl rfl rfl rfl (fun _ => .inl ⟨B5 2 _ rfl _ rfl, nofun⟩) rfl ?_
              refine Ops.wanted rfl rfl ?_
              refine Ops.loadHA (off := 0) (cs := [(.v (.int .i8 b.Inf)), (.v (.int .i64 b.N))]) H 1 rfl rfl rfl rfl rfl rfl rfl (fun _ => .inl ⟨B5 1 _ rfl _ rfl, nofun⟩) rfl ?_
              refine Ops.wanted rfl rfl ?_
              refine Ops.call (ys := [(.agg [(.v (.int .i8 a.Inf)), (.v (.int .i64 a.N))]), (.agg [(.v (.int .i8 b.Inf)), (.v (.int .i64 b.N))])]) (r := (.v (.bool (safe_Less a b)))) rfl (safe_Less_fn rfl) rfl ?_
              refine Ops.wanted rfl rfl ?_
              refine Ops.not (b := (safe_Less a b)) rfl rfl ?_
              refine Ops.wanted rfl rfl ?_
              refine Ops.move (v := (.v (.bool (!(safe_Less a b))))) rfl rfl ?_
              refine Ops.mid 9 (K1 := fun e σ => EnvHas e [(79, (.v (.bool ((!(safe_Less a b)) && ((!(safe_Less b a)) != ((a.Inf == b.Inf) && ((a.N == b.N) && true))))))), (3, (.ptr (b1 + 0) 2 0)), (4, (.ptr (b1 + 1) 2 0)), (5, (.ptr (b1 + 2) 2 0)), (65, (.v (.bool false)))] ∧ Has σ (b5 + 23) (b5 + 40) [.blk (b1 + 2) 32 [(.v (.int .i8 c.Inf)), (.v (.int .i64 c.N))], .blk (b1 + 1) 32 [(.v (.int .i8 b.Inf)), (.v (.int .i64 b.N))], .blk (b1 + 0) 32 [(.v (.int .i8 a.Inf)), (.v (.int .i64 a.N))]]) rfl ?_ ?_
              · refine Ops.split rfl rfl ?_ ?_ <;> intro hc10
                · skip
                  refine Ops.wanted rfl rfl ?_
                  refine Ops.loadHA (off := 0) (cs := [(.v (.int .i8 b.Inf)), (.v (.int .i64 b.N))]) H 1 rfl rfl rfl rfl rfl rfl rfl (fun _ => .inl ⟨B5 1 _ rfl _ rfl, nofun⟩) rfl ?_
                  refine Ops.wanted rfl rfl ?_
                  refine Ops.loadHA (off := 0) (cs := [(.v (.int .i8 a.Inf)), (.v (.int .i64 a.N))]) H 2 rfl rfl rfl rfl rfl rfl rfl (fun _ => .inl ⟨B5 2 _ rfl _ rfl, nofun⟩) rfl ?_
                  refine Ops.wanted rfl rfl ?_
                  refine Ops.call (ys := [(.agg [(.v (.int .i8 b.Inf)), (.v (.int .i64 b.N))]), (.agg [(.v (.int .i8 a.Inf)), (.v (.int .i64 a.N))])]) (r := (.v (.bool (safe_Less b a)))) rfl (safe_Less_fn rfl) rfl ?_
                  refine Ops.wanted rfl rfl ?_
                  refine Ops.not (b := (safe_Less b a)) rfl rfl ?_
                  refine Ops.wanted rfl rfl ?_
                  refine Ops.loadHA (off := 0) (cs := [(.v (.int .i8 a.Inf)), (.v (.int .i64 a.N))]) H 2 rfl rfl rfl rfl rfl rfl rfl (fun _ => .inl ⟨B5 2 _ rfl _ rfl, nofun⟩) rfl ?_
                  refine Ops.wanted rfl rfl ?_
                  refine Ops.loadHA (off := 0) (cs := [(.v (.int .i8 b.Inf)), (.v (.int .i64 b.N))]) H 1 rfl rfl rfl rfl rfl rfl rfl (fun _ => .inl ⟨B5 1 _ rfl _ rfl, nofun⟩) rfl ?_
                  refine Ops.wanted rfl rfl ?_
                  refine Ops.binA (u := (.agg [(.v (.int .i8 a.Inf)), (.v (.int .i64 a.N))])) (w := (.agg [(.v (.int .i8 b.Inf)), (.v (.int .i64 b.N))])) (r := .bool ((a.Inf == b.Inf) && ((a.N == b.N) && true))) rfl rfl (by kernel_rfl) (fun _ => ask_eqA rfl rfl rfl rfl) rfl ?_
                  refine Ops.wanted rfl rfl ?_
                  refine Ops.neB (b := (!(safe_Less b a))) (b' := ((a.Inf == b.Inf) && ((a.N == b.N) && true))) rfl rfl rfl rfl ?_
                  refine Ops.wanted rfl rfl ?_
                  refine Ops.pickT (v := (.v (.bool ((!(safe_Less b a)) != ((a.Inf == b.Inf) && ((a.N == b.N) && true)))))) rfl rfl rfl ?_
                  apply Ops.nil
                  exact ⟨⟨and_T hc10, rfl, rfl, rfl, rfl, trivial⟩, H.weak (by omega) (Nat.le_refl _)⟩
                · skip
                  refine Ops.pass rfl rfl rfl ?_
                  refine Ops.pass rfl rfl rfl ?_
                  refine Ops.pass rfl rfl rfl ?_
                  refine Ops.pass rfl rfl rfl ?_
                  refine Ops.pass rfl rfl rfl ?_
                  refine Ops.pass rfl rfl rfl ?_
                  refine Ops.pass rfl rfl rfl ?_
                  refine Ops.pass rfl rfl rfl ?_
                  refine Ops.wanted rfl rfl ?_
                  refine Ops.pickF (v := (.v (.bool false))) rfl rfl rfl ?_
                  apply Ops.nil
                  exact ⟨⟨and_F hc10, rfl, rfl, rfl, rfl, trivial⟩, H.weak (by omega) (Nat.le_refl _)⟩
              · rintro e σ ⟨he, H⟩
                obtain ⟨e, rfl⟩ := he.ex
                refine Ops.pickF (v := (.v (.bool ((!(safe_Less a b)) && ((!(safe_Less b a)) != ((a.Inf == b.Inf) && ((a.N == b.N) && true))))))) rfl rfl rfl ?_
                apply Ops.nil
                exact ⟨⟨or_F hc9, rfl, rfl, rfl, trivial⟩, H.weak (by omega) (Nat.le_refl _)⟩
          · rintro e σ ⟨he, H⟩
            obtain ⟨e, rfl⟩ := he.ex
            refine Ops.move (v := (.v (.bool (((safe_Less a b) && (safe_Less b a)) || ((!(safe_Less a b)) && ((!(safe_Less b a)) != ((a.Inf == b.Inf) && ((a.N == b.N) && true)))))))) rfl rfl ?_
            refine Ops.mid 15 (K1 := fun e σ => EnvHas e [(96, (.v (.bool ((((safe_Less a b) && (safe_Less b a)) || ((!(safe_Less a b)) && ((!(safe_Less b a)) != ((a.Inf == b.Inf) && ((a.N == b.N) && true))))) || (((safe_Less a b) && (safe_Less b c)) && (!(safe_Less a c))))))), (3, (.ptr (b1 + 0) 2 0)), (4, (.ptr (b1 + 1) 2 0)), (5, (.ptr (b1 + 2) 2 0))] ∧ Has σ (b5 + 40) (b5 + 40) [.blk (b1 + 2) 32 [(.v (.int .i8 c.Inf)), (.v (.int .i64 c.N))], .blk (b1 + 1) 32 [(.v (.int .i8 b.Inf)), (.v (.int .i64 b.N))], .blk (b1 + 0) 32 [(.v (.int .i8 a.Inf)), (.v (.int .i64 a.N))]]) rfl ?_ ?_
            · refine Ops.split rfl rfl ?_ ?_ <;> intro hc11
              · skip
                refine Ops.pass rfl rfl rfl ?_
                refine Ops.pass rfl rfl rfl ?_
                refine Ops.pass rfl rfl rfl ?_
                refine Ops.pass rfl rfl rfl ?_
                refine Ops.passU rfl rfl rfl ?_
                refine Ops.passU rfl rfl rfl ?_
                refine Ops.passU rfl rfl rfl ?_
                refine Ops.pass rfl rfl rfl ?_
                refine Ops.pass rfl rfl rfl ?_
                refine Ops.passU rfl rfl rfl ?_
                refine Ops.passU rfl rfl rfl ?_
                refine Ops.passU rfl rfl rfl ?_
                refine Ops.passU rfl rfl rfl ?_
                refine Ops.pass rfl rfl rfl ?_
                refine Ops.pickT (v := (.v (.bool true))) rfl rfl rfl ?_
                apply Ops.nil
                exact ⟨⟨or_T hc11, rfl, rfl, rfl, trivial⟩, H.weak (by omega) (Nat.le_refl _)⟩
              · skip
                refine Ops.wanted rfl rfl ?_
                refine Ops.loadHA (off := 0) (cs := [(.v (.int .i8 a.Inf)), (.v (.int .i64 a.N))]) H 2 rfl rfl rfl rfl rfl rfl rfl (fun _ => .inl ⟨B5 2 _ rfl _ rfl, nofun⟩) rfl ?_
                refine Ops.wanted rfl rfl ?_
                refine Ops.loadHA (off := 0) (cs := [(.v (.int .i8 b.Inf)), (.v (.int .i64 b.N))]) H 1 rfl rfl rfl rfl rfl rfl rfl (fun _ => .inl ⟨B5 1 _ rfl _ rfl, nofun⟩) rfl ?_
                refine Ops.wanted rfl rfl ?_
                refine Ops.call (ys := [(.agg [(.v (.int .i8 a.Inf)), (.v (.int .i64 a.N))]), (.agg [(.v (.int .i8 b.Inf)), (.v (.int .i64 b.N))])]) (r := (.v (.bool (safe_Less a b)))) rfl (safe_Less_fn rfl) rfl ?_
                refine Ops.wanted rfl rfl ?_
                refine Ops.move (v := (.v (.bool (safe_Less a b)))) rfl rfl ?_
                refine Ops.mid 4 (K1 := fun e σ => EnvHas e [(89, (.v (.bool ((safe_Less a b) && (safe_Less b c))))), (3, (.ptr (b1 + 0) 2 0)), (4, (.ptr (b1 + 1) 2 0)), (5, (.ptr (b1 + 2) 2 0)), (81, (.v (.bool false)))] ∧ Has σ (b5 + 33) (b5 + 40) [.blk (b1 + 2) 32 [(.v (.int .i8 c.Inf)), (.v (.int .i64 c.N))], .blk (b1 + 1) 32 [(.v (.int .i8 b.Inf)), (.v (.int .i64 b.N))], .blk (b1 + 0) 32 [(.v (.int .i8 a.Inf)), (.v (.int .i64 a.N))]]) rfl ?_ ?_
                · refine Ops.split rfl rfl ?_ ?_ <;> intro hc12
                  · skip
                    refine Ops.wanted rfl rfl ?_
                    refine Ops.loadHA (off := 0) (cs := [(.v (.int .i8 b.Inf)), (.v (.int .i64 b.N))]) H 1 rfl rfl rfl rfl rfl rfl rfl (fun _ => .inl ⟨B5 1 _ rfl _ rfl, nofun⟩) rfl ?_
                    refine Ops.wanted rfl rfl ?_
                    refine Ops.loadHA (off := 0) (cs := [(.v (.int .i8 c.Inf)), (.v (.int .i64 c.N))]) H 0 rfl rfl rfl rfl rfl rfl rfl (fun _ => .inl ⟨B5 0 _ rfl _ rfl, nofun⟩) rfl ?_
                    refine Ops.wanted rfl rfl ?_
                    refine Ops.call (ys := [(.agg [(.v (.int .i8 b.Inf)), (.v (.int .i64 b.N))]), (.agg [(.v (.int .i8 c.Inf)), (.v (.int .i64 c.N))])]) (r := (.v (.bool (safe_Less b c)))) rfl (safe_Less_fn rfl) rfl ?_
                    refine Ops.wanted rfl rfl ?_
                    refine Ops.pickT (v := (.v (.bool (safe_Less b c)))) rfl rfl rfl ?_
                    apply Ops.nil
                    exact ⟨⟨and_T hc12, rfl, rfl, rfl, rfl, trivial⟩, H.weak (by omega) (Nat.le_refl _)⟩
                  · skip
                    refine Ops.pass rfl rfl rfl ?_
                    refine Ops.pass rfl rfl rfl ?_
                    refine Ops.pass rfl rfl rfl ?_
                    refine Ops.wanted rfl rfl ?_
                    refine Ops.pickF (v := (.v (.bool false))) rfl rfl rfl ?_
                    apply Ops.nil
                    exact ⟨⟨and_F hc12, rfl, rfl, rfl, rfl, trivial⟩, H.weak (by omega) (Nat.le_refl _)⟩
                · rintro e σ ⟨he, H⟩
                  obtain ⟨e, rfl⟩ := he.ex
                  refine Ops.wanted rfl rfl ?_
                  refine Ops.move (v := (.v (.bool ((safe_Less a b) && (safe_Less b c))))) rfl rfl ?_
                  refine Ops.mid 5 (K1 := fun e σ => EnvHas e [(95, (.v (.bool (((safe_Less a b) && (safe_Less b c)) && (!(safe_Less a c)))))), (3, (.ptr (b1 + 0) 2 0)), (4, (.ptr (b1 + 1) 2 0)), (5, (.ptr (b1 + 2) 2 0)), (81, (.v (.bool false)))] ∧ Has σ (b5 + 39) (b5 + 40) [.blk (b1 + 2) 32 [(.v (.int .i8 c.Inf)), (.v (.int .i64 c.N))], .blk (b1 + 1) 32 [(.v (.int .i8 b.Inf)), (.v (.int .i64 b.N))], .blk (b1 + 0) 32 [(.v (.int .i8 a.Inf)), (.v (.int .i64 a.N))]]) rfl ?_ ?_
                  · refine Ops.split rfl rfl ?_ ?_ <;> intro hc13
                    · skip
                      refine Ops.wanted rfl rfl ?_
                      refine Ops.loadHA (off := 0) (cs := [(.v (.int .i8 a.Inf)), (.v (.int .i64 a.N))]) H 2 rfl rfl rfl rfl rfl rfl rfl (fun _ => .inl ⟨B5 2 _ rfl _ rfl, nofun⟩) rfl ?_
                      refine Ops.wanted rfl rfl ?_
                      refine Ops.loadHA (off := 0) (cs := [(.v (.int .i8 c.Inf)), (.v (.int .i64 c.N))]) H 0 rfl rfl rfl rfl rfl rfl rfl (fun _ => .inl ⟨B5 0 _ rfl _ rfl, nofun⟩) rfl ?_
                      refine Ops.wanted rfl rfl ?_
                      refine Ops.call (ys := [(.agg [(.v (.int .i8 a.Inf)), (.v (.int .i64 a.N))]), (.agg [(.v (.int .i8 c.Inf)), (.v (.int .i64 c.N))])]) (r := (.v (.bool (safe_Less a c)))) rfl (safe_Less_fn rfl) rfl ?_
                      refine Ops.wanted rfl rfl ?_
                      refine Ops.not (b := (safe_Less a c)) rfl rfl ?_
                      refine Ops.wanted rfl rfl ?_
                      refine Ops.pickT (v := (.v (.bool (!(safe_Less a c))))) rfl rfl rfl ?_
                      apply Ops.nil
                      exact ⟨⟨and_T hc13, rfl, rfl, rfl, rfl, trivial⟩, H.weak (by omega) (Nat.le_refl _)⟩
                    · skip
                      refine Ops.pass rfl rfl rfl ?_
                      refine Ops.pass rfl rfl rfl ?_
                      refine Ops.pass rfl rfl rfl ?_
                      refine Ops.pass rfl rfl rfl ?_
                      refine Ops.wanted rfl rfl ?_
                      refine Ops.pickF (v := (.v (.bool false))) rfl rfl rfl ?_
                      apply Ops.nil
                      exact ⟨⟨and_F hc13, rfl, rfl, rfl, rfl, trivial⟩, H.weak (by omega) (Nat.le_refl _)⟩
                  · rintro e σ ⟨he, H⟩
                    obtain ⟨e, rfl⟩ := he.ex
                    refine Ops.pickF (v := (.v (.bool (((safe_Less a b) && (safe_Less b c)) && (!(safe_Less a c)))))) rfl rfl rfl ?_
                    apply Ops.nil
                    exact ⟨⟨or_F hc11, rfl, rfl, rfl, trivial⟩, H.weak (by omega) (Nat.le_refl _)⟩
            · rintro e σ ⟨he, H⟩
              obtain ⟨e, rfl⟩ := he.ex
              apply Ops.nil
              replace H := H.all
              refine Runs.whether (v := ((((safe_Less a b) && (safe_Less b a)) || ((!(safe_Less a b)) && ((!(safe_Less b a)) != ((a.Inf == b.Inf) && ((a.N == b.N) && true))))) || (((safe_Less a b) && (safe_Less b c)) && (!(safe_Less a c))))) rfl ?_ ?_ <;> intro hc14
              · replace h := cond_T hc14 h
                apply Runs.then
                refine Runs.regionH 1 rfl H ?_; intro b6 σ H
                refine Ops.assign (v := (.v (.bool false))) rfl rfl ?_
                apply Ops.nil
                replace H := H.all
                apply Runs.ret
                subst h
                exact (Ends.H (xs := [(.v (.bool false))]) (.inr rfl) H (.tmp (v := (.v (.bool false))) rfl .nil) (.one (.c (.v _))))
              · replace h := cond_F hc14 h
                apply Runs.skip
                apply Runs.then
                refine Runs.regionH 9 rfl H ?_; intro b7 σ H
                refine Ops.loadHA (off := 0) (cs := [(.v (.int .i8 a.Inf)), (.v (.int .i64 a.N))]) H 2 rfl rfl rfl rfl rfl rfl rfl nofun rfl ?_
                refine Ops.loadHA (off := 0) (cs := [(.v (.int .i8 c.Inf)), (.v (.int .i64 c.N))]) H 0 rfl rfl rfl rfl rfl rfl rfl nofun rfl ?_
                refine Ops.call (ys := [(.agg [(.v (.int .i8 a.Inf)), (.v (.int .i64 a.N))]), (.agg [(.v (.int .i8 c.Inf)), (.v (.int .i64 c.N))])]) (r := (.tup [(.agg [(.v (.int .i8 (safe_Sum a c).1.Inf)), (.v (.int .i64 (safe_Sum a c).1.N))]), (.v (.int .i64 (safe_Sum a c).2))])) rfl (safe_Sum_fn rfl) rfl ?_
                refine Ops.move (v := (.tup [(.agg [(.v (.int .i8 (safe_Sum a c).1.Inf)), (.v (.int .i64 (safe_Sum a c).1.N))]), (.v (.int .i64 (safe_Sum a c).2))])) rfl rfl ?_
                refine Ops.extract (v := (.agg [(.v (.int .i8 (safe_Sum a c).1.Inf)), (.v (.int .i64 (safe_Sum a c).1.N))])) rfl rfl rfl ?_
                refine Ops.extract (v := (.v (.int .i64 (safe_Sum a c).2))) rfl rfl rfl ?_
                refine Ops.allocH (cs := [(.v (.int .i8 0)), (.v (.int .i64 0))]) H (by omega) (by omega) rfl rfl ?_; intro σ H
                refine Ops.storeH (off := 0) (v := (.agg [(.v (.int .i8 (safe_Sum a c).1.Inf)), (.v (.int .i64 (safe_Sum a c).1.N))])) (ys := [(.v (.int .i8 (safe_Sum a c).1.Inf)), (.v (.int .i64 (safe_Sum a c).1.N))]) (cells' := [(.v (.int .i8 (safe_Sum a c).1.Inf)), (.v (.int .i64 (safe_Sum a c).1.N))]) H 0 rfl rfl rfl rfl rfl rfl rfl rfl rfl nofun ?_; intro σ H
                refine Ops.assign (v := (.v (.int .i64 (safe_Sum a c).2))) rfl rfl ?_
                apply Ops.nil
                replace H := H.all
                apply Runs.then
                refine Runs.regionH 9 rfl H ?_; intro b8 σ H
                refine Ops.loadHA (off := 0) (cs := [(.v (.int .i8 b.Inf)), (.v (.int .i64 b.N))]) H 2 rfl rfl rfl rfl rfl rfl rfl nofun rfl ?_
                refine Ops.loadHA (off := 0) (cs := [(.v (.int .i8 c.Inf)), (.v (.int .i64 c.N))]) H 1 rfl rfl rfl rfl rfl rfl rfl nofun rfl ?_
                refine Ops.call (ys := [(.agg [(.v (.int .i8 b.Inf)), (.v (.int .i64 b.N))]), (.agg [(.v (.int .i8 c.Inf)), (.v (.int .i64 c.N))])]) (r := (.tup [(.agg [(.v (.int .i8 (safe_Sum b c).1.Inf)), (.v (.int .i64 (safe_Sum b c).1.N))]), (.v (.int .i64 (safe_Sum b c).2))])) rfl (safe_Sum_fn rfl) rfl ?_
                refine Ops.move (v := (.tup [(.agg [(.v (.int .i8 (safe_Sum b c).1.Inf)), (.v (.int .i64 (safe_Sum b c).1.N))]), (.v (.int .i64 (safe_Sum b c).2))])) rfl rfl ?_
                refine Ops.extract (v := (.agg [(.v (.int .i8 (safe_Sum b c).1.Inf)), (.v (.int .i64 (safe_Sum b c).1.N))])) rfl rfl rfl ?_
                refine Ops.extract (v := (.v (.int .i64 (safe_Sum b c).2))) rfl rfl rfl ?_
                refine Ops.allocH (cs := [(.v (.int .i8 0)), (.v (.int .i64 0))]) H (by omega) (by omega) rfl rfl ?_; intro σ H
                refine Ops.storeH (off := 0) (v := (.agg [(.v (.int .i8 (safe_Sum b c).1.Inf)), (.v (.int .i64 (safe_Sum b c).1.N))])) (ys := [(.v (.int .i8 (safe_Sum b c).1.Inf)), (.v (.int .i64 (safe_Sum b c).1.N))]) (cells' := [(.v (.int .i8 (safe_Sum b c).1.Inf)), (.v (.int .i64 (safe_Sum b c).1.N))]) H 0 rfl rfl rfl rfl rfl rfl rfl rfl rfl nofun ?_; intro σ H
                refine Ops.assign (v := (.v (.int .i64 (safe_Sum b c).2))) rfl rfl ?_
                apply Ops.nil
                replace H := H.all
                apply Runs.then
                apply Runs.then
                refine Runs.drawnH 20 rfl (by kernel_rfl) H ?_; intro b9 σ H B9
                refine Ops.move (v := (.v (.int .i64 (safe_Sum a c).2))) rfl rfl ?_
                refine Ops.int (m := (safe_Sum a c).2) (m' := 0) (r := .bool (((safe_Sum a c).2) == 0)) rfl rfl rfl rfl rfl ?_
                refine Ops.move (v := (.v (.bool (((safe_Sum a c).2) == 0)))) rfl rfl ?_
                refine Ops.mid 3 (K1 := fun e σ => EnvHas e [(114, (.v (.bool ((((safe_Sum a c).2) == 0) && (((safe_Sum b c).2) == 0))))), (3, (.ptr (b1 + 0) 2 0)), (4, (.ptr (b1 + 1) 2 0)), (5, (.ptr (b1 + 2) 2 0)), (9, (.ptr (b7 + 6) 2 0)), (11, (.ptr (b8 + 6) 2 0))] ∧ Has σ (b9 + 6) (b9 + 20) [.blk (b8 + 6) 32 [(.v (.int .i8 (safe_Sum b c).1.Inf)), (.v (.int .i64 (safe_Sum b c).1.N))], .blk (b7 + 6) 32 [(.v (.int .i8 (safe_Sum a c).1.Inf)), (.v (.int .i64 (safe_Sum a c).1.N))], .blk (b1 + 2) 32 [(.v (.int .i8 c.Inf)), (.v (.int .i64 c.N))], .blk (b1 + 1) 32 [(.v (.int .i8 b.Inf)), (.v (.int .i64 b.N))], .blk (b1 + 0) 32 [(.v (.int .i8 a.Inf)), (.v (.int .i64 a.N))]]) rfl ?_ ?_
                · refine Ops.split rfl rfl ?_ ?_ <;> intro hc15
                  · skip
                    refine Ops.wanted rfl rfl ?_
                    refine Ops.move (v := (.v (.int .i64 (safe_Sum b c).2))) rfl rfl ?_
                    refine Ops.wanted rfl rfl ?_
                    refine Ops.int (m := (safe_Sum b c).2) (m' := 0) (r := .bool (((safe_Sum b c).2) == 0)) rfl rfl rfl rfl rfl ?_
                    refine Ops.pickT (v := (.v (.bool (((safe_Sum b c).2) == 0)))) rfl rfl rfl ?_
                    apply Ops.nil
                    exact ⟨⟨and_T hc15, rfl, rfl, rfl, rfl, rfl, trivial⟩, H.weak (by omega) (Nat.le_refl _)⟩
                  · skip
                    refine Ops.pass rfl rfl rfl ?_
                    refine Ops.pass rfl rfl rfl ?_
                    refine Ops.pickF (v := (.v (.bool false))) rfl rfl rfl ?_
                    apply Ops.nil
                    exact ⟨⟨and_F hc15, rfl, rfl, rfl, rfl, rfl, trivial⟩, H.weak (by omega) (Nat.le_refl _)⟩
                · rintro e σ ⟨he, H⟩
                  obtain ⟨e, rfl⟩ := he.ex
                  refine Ops.move (v := (.v (.bool ((((safe_Sum a c).2) == 0) && (((safe_Sum b c).2) == 0))))) rfl rfl ?_
                  refine Ops.mid 4 (K1 := fun e σ => EnvHas e [(119, (.v (.bool (((((safe_Sum a c).2) == 0) && (((safe_Sum b c).2) == 0)) && (c.Inf == 0))))), (3, (.ptr (b1 + 0) 2 0)), (4, (.ptr (b1 + 1) 2 0)), (9, (.ptr (b7 + 6) 2 0)), (11, (.ptr (b8 + 6) 2 0))] ∧ Has σ (b9 + 11) (b9 + 20) [.blk (b8 + 6) 32 [(.v (.int .i8 (safe_Sum b c).1.Inf)), (.v (.int .i64 (safe_Sum b c).1.N))], .blk (b7 + 6) 32 [(.v (.int .i8 (safe_Sum a c).1.Inf)), (.v (.int .i64 (safe_Sum a c).1.N))], .blk (b1 + 1) 32 [(.v (.int .i8 b.Inf)), (.v (.int .i64 b.N))], .blk (b1 + 0) 32 [(.v (.int .i8 a.Inf)), (.v (.int .i64 a.N))]]) rfl ?_ ?_
                  · refine Ops.split rfl rfl ?_ ?_ <;> intro hc16
                    · skip
                      refine Ops.wanted rfl rfl ?_
                      refine Ops.fieldAddrH (off := 0) (fo := 0) H 2 rfl rfl rfl rfl rfl (fun _ => .inl ⟨B9 2 _ rfl _ rfl, nofun⟩) rfl ?_
                      refine Ops.wanted rfl rfl ?_
                      refine Ops.loadH (off := 0) (v := (.v (.int .i8 c.Inf))) H 2 rfl rfl rfl rfl rfl (fun _ => .inl ⟨B9 2 _ rfl _ rfl, nofun⟩) rfl ?_
                      refine Ops.wanted rfl rfl ?_
                      refine Ops.int (m := c.Inf) (m' := 0) (r := .bool (c.Inf == 0)) rfl rfl rfl rfl rfl ?_
                      refine Ops.pickT (v := (.v (.bool (c.Inf == 0)))) rfl rfl rfl ?_
                      apply Ops.nil
                      exact ⟨⟨and_T hc16, rfl, rfl, rfl, rfl, trivial⟩, (H.erase 2).weak (by omega) (Nat.le_refl _)⟩
                    · skip
                      refine Ops.pass rfl rfl rfl ?_
                      refine Ops.pass rfl rfl rfl ?_
                      refine Ops.pass rfl rfl rfl ?_
                      refine Ops.pickF (v := (.v (.bool false))) rfl rfl rfl ?_
                      apply Ops.nil
                      exact ⟨⟨and_F hc16, rfl, rfl, rfl, rfl, trivial⟩, (H.erase 2).weak (by omega) (Nat.le_refl _)⟩
                  · rintro e σ ⟨he, H⟩
                    obtain ⟨e, rfl⟩ := he.ex
                    refine Ops.move (v := (.v (.bool (((((safe_Sum a c).2) == 0) && (((safe_Sum b c).2) == 0)) && (c.Inf == 0))))) rfl rfl ?_
                    refine Ops.mid 8 (K1 := fun e σ => EnvHas e [(128, (.v (.bool ((((((safe_Sum a c).2) == 0) && (((safe_Sum b c).2) == 0)) && (c.Inf == 0)) && ((safe_Less a b) != (safe_Less ((safe_Sum a c).1) ((safe_Sum b c).1))))))), (3, (.ptr (b1 + 0) 2 0)), (4, (.ptr (b1 + 1) 2 0))] ∧ Has σ (b9 + 20) (b9 + 20) [.blk (b1 + 1) 32 [(.v (.int .i8 b.Inf)), (.v (.int .i64 b.N))], .blk (b1 + 0) 32 [(.v (.int .i8 a.Inf)), (.v (.int .i64 a.N))]]) rfl ?_ ?_
                    · refine Ops.split rfl rfl ?_ ?_ <;> intro hc17
                      · skip
                        refine Ops.wanted rfl rfl ?_
                        refine Ops.loadHA (off := 0) (cs := [(.v (.int .i8 a.Inf)), (.v (.int .i64 a.N))]) H 3 rfl rfl rfl rfl rfl rfl rfl (fun _ => .inl ⟨B9 4 _ rfl _ rfl, nofun⟩) rfl ?_
                        refine Ops.wanted rfl rfl ?_
                        refine Ops.loadHA (off := 0) (cs := [(.v (.int .i8 b.Inf)), (.v (.int .i64 b.N))]) H 2 rfl rfl rfl rfl rfl rfl rfl (fun _ => .inl ⟨B9 3 _ rfl _ rfl, nofun⟩) rfl ?_
                        refine Ops.wanted rfl rfl ?_
                        refine Ops.call (ys := [(.agg [(.v (.int .i8 a.Inf)), (.v (.int .i64 a.N))]), (.agg [(.v (.int .i8 b.Inf)), (.v (.int .i64 b.N))])]) (r := (.v (.bool (safe_Less a b)))) rfl (safe_Less_fn rfl) rfl ?_
                        refine Ops.wanted rfl rfl ?_
                        refine Ops.loadHA (off := 0) (cs := [(.v (.int .i8 (safe_Sum a c).1.Inf)), (.v (.int .i64 (safe_Sum a c).1.N))]) H 1 rfl rfl rfl rfl rfl rfl rfl (fun _ => .inl ⟨B9 1 _ rfl _ rfl, nofun⟩) rfl ?_
                        refine Ops.wanted rfl rfl ?_
                        refine Ops.loadHA (off := 0) (cs := [(.v (.int .i8 (safe_Sum b c).1.Inf)), (.v (.int .i64 (safe_Sum b c).1.N))]) H 0 rfl rfl rfl rfl rfl rfl rfl (fun _ => .inl ⟨B9 0 _ rfl _ rfl, nofun⟩) rfl ?_
                        refine Ops.wanted rfl rfl ?_
                        refine Ops.call (ys := [(.agg [(.v (.int .i8 (safe_Sum a c).1.Inf)), (.v (.int .i64 (safe_Sum a c).1.N))]), (.agg [(.v (.int .i8 (safe_Sum b c).1.Inf)), (.v (.int .i64 (safe_Sum b c).1.N))])]) (r := (.v (.bool (safe_Less ((safe_Sum a c).1) ((safe_Sum b c).1))))) rfl (safe_Less_fn rfl) rfl ?_
                        refine Ops.wanted rfl rfl ?_
                        refine Ops.neB (b := (safe_Less a b)) (b' := (safe_Less ((safe_Sum a c).1) ((safe_Sum b c).1))) rfl rfl rfl rfl ?_
                        refine Ops.pickT (v := (.v (.bool ((safe_Less a b) != (safe_Less ((safe_Sum a c).1) ((safe_Sum b c).1)))))) rfl rfl rfl ?_
                        apply Ops.nil
                        exact ⟨⟨and_T hc17, rfl, rfl, trivial⟩, ((H.erase 1).erase 0).weak (by omega) (Nat.le_refl _)⟩
                      · skip
                        refine Ops.pass rfl rfl rfl ?_
                        refine Ops.pass rfl rfl rfl ?_
                        refine Ops.pass rfl rfl rfl ?_
                        refine Ops.pass rfl rfl rfl ?_
                        refine Ops.pass rfl rfl rfl ?_
                        refine Ops.pass rfl rfl rfl ?_
                        refine Ops.pass rfl rfl rfl ?_
                        refine Ops.pickF (v := (.v (.bool false))) rfl rfl rfl ?_
                        apply Ops.nil
                        exact ⟨⟨and_F hc17, rfl, rfl, trivial⟩, ((H.erase 1).erase 0).weak (by omega) (Nat.le_refl _)⟩
                    · rintro e σ ⟨he, H⟩
                      obtain ⟨e, rfl⟩ := he.ex
                      apply Ops.nil
                      replace H := H.all
                      refine Runs.whether (v := ((((((safe_Sum a c).2) == 0) && (((safe_Sum b c).2) == 0)) && (c.Inf == 0)) && ((safe_Less a b) != (safe_Less ((safe_Sum a c).1) ((safe_Sum b c).1))))) rfl ?_ ?_ <;> intro hc18
                      · replace h := cond_T hc18 h
                        apply Runs.then
                        refine Runs.regionH 1 rfl H ?_; intro b10 σ H
                        refine Ops.assign (v := (.v (.bool false))) rfl rfl ?_
                        apply Ops.nil
                        replace H := H.all
                        apply Runs.ret
                        subst h
                        exact (Ends.H (xs := [(.v (.bool false))]) (.inr rfl) H (.tmp (v := (.v (.bool false))) rfl .nil) (.one (.c (.v _))))
                      · replace h := cond_F hc18 h
                        apply Runs.skip
                        apply Runs.then
                        refine Runs.regionH 8 rfl H ?_; intro b11 σ H
                        refine Ops.loadHA (off := 0) (cs := [(.v (.int .i8 a.Inf)), (.v (.int .i64 a.N))]) H 1 rfl rfl rfl rfl rfl rfl rfl nofun rfl ?_
                        refine Ops.call (ys := [(.agg [(.v (.int .i8 a.Inf)), (.v (.int .i64 a.N))])]) (r := (.tup [(.agg [(.v (.int .i8 (safe_Minus a).1.Inf)), (.v (.int .i64 (safe_Minus a).1.N))]), (.v (.int .i64 (safe_Minus a).2))])) rfl (safe_Minus_fn rfl) rfl ?_
                        refine Ops.move (v := (.tup [(.agg [(.v (.int .i8 (safe_Minus a).1.Inf)), (.v (.int .i64 (safe_Minus a).1.N))]), (.v (.int .i64 (safe_Minus a).2))])) rfl rfl ?_
                        refine Ops.extract (v := (.agg [(.v (.int .i8 (safe_Minus a).1.Inf)), (.v (.int .i64 (safe_Minus a).1.N))])) rfl rfl rfl ?_
                        refine Ops.extract (v := (.v (.int .i64 (safe_Minus a).2))) rfl rfl rfl ?_
                        refine Ops.allocH (cs := [(.v (.int .i8 0)), (.v (.int .i64 0))]) H (by omega) (by omega) rfl rfl ?_; intro σ H
                        refine Ops.storeH (off := 0) (v := (.agg [(.v (.int .i8 (safe_Minus a).1.Inf)), (.v (.int .i64 (safe_Minus a).1.N))])) (ys := [(.v (.int .i8 (safe_Minus a).1.Inf)), (.v (.int .i64 (safe_Minus a).1.N))]) (cells' := [(.v (.int .i8 (safe_Minus a).1.Inf)), (.v (.int .i64 (safe_Minus a).1.N))]) H 0 rfl rfl rfl rfl rfl rfl rfl rfl rfl nofun ?_; intro σ H
                        refine Ops.assign (v := (.v (.int .i64 (safe_Minus a).2))) rfl rfl ?_
                        apply Ops.nil
                        replace H := H.all
                        apply Runs.then
                        refine Runs.regionH 8 rfl H ?_; intro b12 σ H
                        refine Ops.loadHA (off := 0) (cs := [(.v (.int .i8 b.Inf)), (.v (.int .i64 b.N))]) H 1 rfl rfl rfl rfl rfl rfl rfl nofun rfl ?_
                        refine Ops.call (ys := [(.agg [(.v (.int .i8 b.Inf)), (.v (.int .i64 b.N))])]) (r := (.tup [(.agg [(.v (.int .i8 (safe_Minus b).1.Inf)), (.v (.int .i64 (safe_Minus b).1.N))]), (.v (.int .i64 (safe_Minus b).2))])) rfl (safe_Minus_fn rfl) rfl ?_
                        refine Ops.move (v := (.tup [(.agg [(.v (.int .i8 (safe_Minus b).1.Inf)), (.v (.int .i64 (safe_Minus b).1.N))]), (.v (.int .i64 (safe_Minus b).2))])) rfl rfl ?_
                        refine Ops.extract (v := (.agg [(.v (.int .i8 (safe_Minus b).1.Inf)), (.v (.int .i64 (safe_Minus b).1.N))])) rfl rfl rfl ?_
                        refine Ops.extract (v := (.v (.int .i64 (safe_Minus b).2))) rfl rfl rfl ?_
                        refine Ops.allocH (cs := [(.v (.int .i8 0)), (.v (.int .i64 0))]) H (by omega) (by omega) rfl rfl ?_; intro σ H
                        refine Ops.storeH (off := 0) (v := (.agg [(.v (.int .i8 (safe_Minus b).1.Inf)), (.v (.int .i64 (safe_Minus b).1.N))])) (ys := [(.v (.int .i8 (safe_Minus b).1.Inf)), (.v (.int .i64 (safe_Minus b).1.N))]) (cells' := [(.v (.int .i8 (safe_Minus b).1.Inf)), (.v (.int .i64 (safe_Minus b).1.N))]) H 0 rfl rfl rfl rfl rfl rfl rfl rfl rfl nofun ?_; intro σ H
                        refine Ops.assign (v := (.v (.int .i64 (safe_Minus b).2))) rfl rfl ?_
                        apply Ops.nil
                        replace H := H.all
                        apply Runs.then
                        refine Runs.drawnH 19 rfl (by kernel_rfl) H ?_; intro b13 σ H B13
                        refine Ops.move (v := (.v (.int .i64 (safe_Minus a).2))) rfl rfl ?_
                        refine Ops.int (m := (safe_Minus a).2) (m' := 0) (r := .bool (((safe_Minus a).2) != 0)) rfl rfl rfl rfl rfl ?_
                        refine Ops.move (v := (.v (.bool (((safe_Minus a).2) != 0)))) rfl rfl ?_
                        refine Ops.mid 3 (K1 := fun e σ => EnvHas e [(144, (.v (.bool ((((safe_Minus a).2) != 0) || (((safe_Minus b).2) != 0))))), (3, (.ptr (b1 + 0) 2 0)), (4, (.ptr (b1 + 1) 2 0)), (13, (.ptr (b11 + 5) 2 0)), (15, (.ptr (b12 + 5) 2 0))] ∧ Has σ (b13 + 6) (b13 + 19) [.blk (b12 + 5) 32 [(.v (.int .i8 (safe_Minus b).1.Inf)), (.v (.int .i64 (safe_Minus b).1.N))], .blk (b11 + 5) 32 [(.v (.int .i8 (safe_Minus a).1.Inf)), (.v (.int .i64 (safe_Minus a).1.N))], .blk (b1 + 1) 32 [(.v (.int .i8 b.Inf)), (.v (.int .i64 b.N))], .blk (b1 + 0) 32 [(.v (.int .i8 a.Inf)), (.v (.int .i64 a.N))]]) rfl ?_ ?_
                        · refine Ops.split rfl rfl ?_ ?_ <;> intro hc19
                          · skip
                            refine Ops.pass rfl rfl rfl ?_
                            refine Ops.pass rfl rfl rfl ?_
                            refine Ops.pickT (v := (.v (.bool true))) rfl rfl rfl ?_
                            apply Ops.nil
                            exact ⟨⟨or_T hc19, rfl, rfl, rfl, rfl, trivial⟩, H.weak (by omega) (Nat.le_refl _)⟩
                          · skip
                            refine Ops.wanted rfl rfl ?_
                            refine Ops.move (v := (.v (.int .i64 (safe_Minus b).2))) rfl rfl ?_
                            refine Ops.wanted rfl rfl ?_
                            refine Ops.int (m := (safe_Minus b).2) (m' := 0) (r := .bool (((safe_Minus b).2) != 0)) rfl rfl rfl rfl rfl ?_
                            refine Ops.pickF (v := (.v (.bool (((safe_Minus b).2) != 0)))) rfl rfl rfl ?_
                            apply Ops.nil
                            exact ⟨⟨or_F hc19, rfl, rfl, rfl, rfl, trivial⟩, H.weak (by omega) (Nat.le_refl _)⟩
                        · rintro e σ ⟨he, H⟩
                          obtain ⟨e, rfl⟩ := he.ex
                          refine Ops.move (v := (.v (.bool ((((safe_Minus a).2) != 0) || (((safe_Minus b).2) != 0))))) rfl rfl ?_
                          refine Ops.mid 8 (K1 := fun e σ => EnvHas e [(153, (.v (.bool (((((safe_Minus a).2) != 0) || (((safe_Minus b).2) != 0)) || ((safe_Less ((safe_Minus b).1) ((safe_Minus a).1)) == (safe_Less a b))))))] ∧ Has σ (b13 + 15) (b13 + 19) []) rfl ?_ ?_
                          · refine Ops.split rfl rfl ?_ ?_ <;> intro hc20
                            · skip
                              refine Ops.pass rfl rfl rfl ?_
                              refine Ops.pass rfl rfl rfl ?_
                              refine Ops.pass rfl rfl rfl ?_
                              refine Ops.pass rfl rfl rfl ?_
                              refine Ops.pass rfl rfl rfl ?_
                              refine Ops.pass rfl rfl rfl ?_
                              refine Ops.pass rfl rfl rfl ?_
                              refine Ops.pickT (v := (.v (.bool true))) rfl rfl rfl ?_
                              apply Ops.nil
                              exact ⟨⟨or_T hc20, trivial⟩, ((((H.erase 3).erase 2).erase 1).erase 0).weak (by omega) (Nat.le_refl _)⟩
                            · skip
                              refine Ops.wanted rfl rfl ?_
                              refine Ops.loadHA (off := 0) (cs := [(.v (.int .i8 (safe_Minus b).1.Inf)), (.v (.int .i64 (safe_Minus b).1.N))]) H 0 rfl rfl rfl rfl rfl rfl rfl (fun _ => .inl ⟨B13 0 _ rfl _ rfl, nofun⟩) rfl ?_
                              refine Ops.wanted rfl rfl ?_
                              refine Ops.loadHA (off := 0) (cs := [(.v (.int .i8 (safe_Minus a).1.Inf)), (.v (.int .i64 (safe_Minus a).1.N))]) H 1 rfl rfl rfl rfl rfl rfl rfl (fun _ => .inl ⟨B13 1 _ rfl _ rfl, nofun⟩) rfl ?_
                              refine Ops.wanted rfl rfl ?_
                              refine Ops.call (ys := [(.agg [(.v (.int .i8 (safe_Minus b).1.Inf)), (.v (.int .i64 (safe_Minus b).1.N))]), (.agg [(.v (.int .i8 (safe_Minus a).1.Inf)), (.v (.int .i64 (safe_Minus a).1.N))])]) (r := (.v (.bool (safe_Less ((safe_Minus b).1) ((safe_Minus a).1))))) rfl (safe_Less_fn rfl) rfl ?_
                              refine Ops.wanted rfl rfl ?_
                              refine Ops.loadHA (off := 0) (cs := [(.v (.int .i8 a.Inf)), (.v (.int .i64 a.N))]) H 3 rfl rfl rfl rfl rfl rfl rfl (fun _ => .inl ⟨B13 3 _ rfl _ rfl, nofun⟩) rfl ?_
                              refine Ops.wanted rfl rfl ?_
                              refine Ops.loadHA (off := 0) (cs := [(.v (.int .i8 b.Inf)), (.v (.int .i64 b.N))]) H 2 rfl rfl rfl rfl rfl rfl rfl (fun _ => .inl ⟨B13 2 _ rfl _ rfl, nofun⟩) rfl ?_
                              refine Ops.wanted rfl rfl ?_
                              refine Ops.call (ys := [(.agg [(.v (.int .i8 a.Inf)), (.v (.int .i64 a.N))]), (.agg [(.v (.int .i8 b.Inf)), (.v (.int .i64 b.N))])]) (r := (.v (.bool (safe_Less a b)))) rfl (safe_Less_fn rfl) rfl ?_
                              refine Ops.wanted rfl rfl ?_
                              refine Ops.eqB (b := (safe_Less ((safe_Minus b).1) ((safe_Minus a).1))) (b' := (safe_Less a b)) rfl rfl rfl rfl ?_
                              refine Ops.pickF (v := (.v (.bool ((safe_Less ((safe_Minus b).1) ((safe_Minus a).1)) == (safe_Less a b))))) rfl rfl rfl ?_
                              apply Ops.nil
                              exact ⟨⟨or_F hc20, trivial⟩, ((((H.erase 3).erase 2).erase 1).erase 0).weak (by omega) (Nat.le_refl _)⟩
                          · rintro e σ ⟨he, H⟩
                            obtain ⟨e, rfl⟩ := he.ex
                            refine Ops.move (v := (.v (.bool (((((safe_Minus a).2) != 0) || (((safe_Minus b).2) != 0)) || ((safe_Less ((safe_Minus b).1) ((safe_Minus a).1)) == (safe_Less a b)))))) rfl rfl ?_
                            refine Ops.mid 2 (K1 := fun e σ => EnvHas e [(156, (.v (.bool ((((((safe_Minus a).2) != 0) || (((safe_Minus b).2) != 0)) || ((safe_Less ((safe_Minus b).1) ((safe_Minus a).1)) == (safe_Less a b))) && epactlaw01_awake))))] ∧ Has σ (b13 + 18) (b13 + 19) []) rfl ?_ ?_
                            · refine Ops.split rfl rfl ?_ ?_ <;> intro hc21
                              · skip
                                refine Ops.wanted rfl rfl ?_
                                refine Ops.call (ys := []) (r := (.v (.bool epactlaw01_awake))) rfl (epactlaw01_awake_fn rfl) rfl ?_
                                refine Ops.pickT (v := (.v (.bool epactlaw01_awake))) rfl rfl rfl ?_
                                apply Ops.nil
                                exact ⟨⟨and_T hc21, trivial⟩, H.weak (by omega) (Nat.le_refl _)⟩
                              · skip
                                refine Ops.pass rfl rfl rfl ?_
                                refine Ops.pickF (v := (.v (.bool false))) rfl rfl rfl ?_
                                apply Ops.nil
                                exact ⟨⟨and_F hc21, trivial⟩, H.weak (by omega) (Nat.le_refl _)⟩
                            · rintro e σ ⟨he, H⟩
                              obtain ⟨e, rfl⟩ := he.ex
                              refine Ops.assign (v := (.v (.bool ((((((safe_Minus a).2) != 0) || (((safe_Minus b).2) != 0)) || ((safe_Less ((safe_Minus b).1) ((safe_Minus a).1)) == (safe_Less a b))) && epactlaw01_awake)))) rfl rfl ?_
                              apply Ops.nil
                              replace H := H.all
                              apply Runs.ret
                              subst h
                              exact (Ends.H (xs := [(.v (.bool ((((((safe_Minus a).2) != 0) || (((safe_Minus b).2) != 0)) || ((safe_Less ((safe_Minus b).1) ((safe_Minus a).1)) == (safe_Less a b))) && epactlaw01_awake)))]) (.inr rfl) H (.tmp (v := (.v (.bool ((((((safe_Minus a).2) != 0) || (((safe_Minus b).2) != 0)) || ((safe_Less ((safe_Minus b).1) ((safe_Minus a).1)) == (safe_Less a b))) && epactlaw01_awake)))) rfl .nil) (.one (.c (.v _))))

end Go.Dn
