/- Part 5 of what the row stands on. -/
import Derived.Test.YtliohipholncpaaM4
set_option linter.unusedVariables false
set_option linter.unusedSimpArgs false
namespace Go.Dn
open Go Go.Proofs

set_option maxRecDepth 100000 in
set_option maxHeartbeats 4000000 in
theorem carry_Range_fn {f : Form} {low : Bound} {high : Bound} {r : Range × Bool × Int} (h : carry_Range f low high = some r) : Fn CX 22 [(.agg (vs (Form.cs f))), (.agg (vs (Bound.cs low))), (.agg (vs (Bound.cs high)))] (.tup [(.agg (vs (Range.cs r.1))), (vb r.2.1), (vi r.2.2)]) := by
 refine Fn.ends Try.func22 rfl rfl rfl rfl rfl rfl ?_
 have H : Hs (⟨0, fun _ => .none⟩ : Heap) [] := Has.nil (Nat.le_refl _)
 generalize (⟨0, fun _ => .none⟩ : Heap) = σ at H ⊢
 unfold carry_Range at h
 apply Runs.then
 refine Runs.regionH 6 rfl H ?_; intro b1 σ H
 refine Ops.boxH (v := (.agg [(vi f.Period), (vi f.Count), (vl (cL Span.cs) f.Core), (vl Granule.cs f.Odd)])) (cs := [(vi f.Period), (vi f.Count), (vl (cL Span.cs) f.Core), (vl Granule.cs f.Odd)]) H (by omega) (by omega) rfl rfl rfl ?_; intro σ H
 refine Ops.boxH (v := (.agg [(.v (.int .i8 low.Inf)), (vi low.N)])) (cs := [(.v (.int .i8 low.Inf)), (vi low.N)]) H (by omega) (by omega) rfl rfl rfl ?_; intro σ H
 refine Ops.boxH (v := (.agg [(.v (.int .i8 high.Inf)), (vi high.N)])) (cs := [(.v (.int .i8 high.Inf)), (vi high.N)]) H (by omega) (by omega) rfl rfl rfl ?_; intro σ H
 refine Ops.allocH (cs := [(vi 0), (vi 0), (vb false), (vb false)]) H (by omega) (by omega) rfl rfl ?_; intro σ H
 refine Ops.assign (v := (vb false)) rfl rfl ?_
 refine Ops.assign (v := (vi 0)) rfl rfl ?_
 apply Ops.nil
 replace H := H.all
 apply Runs.then
 apply Runs.then
 refine Runs.regionH 18 rfl H ?_; intro b2 σ H
 refine Ops.loadHA (off := 0) (cs := [(.v (.int .i8 low.Inf)), (vi low.N)]) H 2 rfl rfl rfl rfl rfl rfl rfl nofun rfl ?_
 refine Ops.call (ys := [(.agg [(.v (.int .i8 low.Inf)), (vi low.N)])]) (r := (vb (safe_Right low))) rfl (safe_Right_fn rfl) rfl ?_
 refine Ops.not (b := (safe_Right low)) rfl rfl ?_
 refine Ops.move (v := (vb (!(safe_Right low)))) rfl rfl ?_
 refine Ops.mid 4 (K1 := fun e σ => EnvHas e [(23, (vb ((!(safe_Right low)) || (!(safe_Right high))))), (3, (.ptr (b1 + 0) 4 0)), (4, (.ptr (b1 + 1) 2 0)), (5, (.ptr (b1 + 2) 2 0)), (6, (.ptr (b1 + 3) 4 0))] ∧ Has σ (b2 + 8) (b2 + 18) [.blk (b1 + 3) 27 [(vi 0), (vi 0), (vb false), (vb false)], .blk (b1 + 2) 32 [(.v (.int .i8 high.Inf)), (vi high.N)], .blk (b1 + 1) 32 [(.v (.int .i8 low.Inf)), (vi low.N)], .blk (b1 + 0) 25 [(vi f.Period), (vi f.Count), (vl (cL Span.cs) f.Core), (vl Granule.cs f.Odd)]]) rfl ?_ ?_
 ·refine Ops.split rfl rfl ?_ ?_ <;> intro hc1
  ·skip
   refine Ops.pass rfl rfl rfl ?_
   refine Ops.pass rfl rfl rfl ?_
   refine Ops.pass rfl rfl rfl ?_
   refine Ops.pickT (v := (vb true)) rfl rfl rfl ?_
   apply Ops.nil
   exact ⟨⟨or_T hc1, rfl, rfl, rfl, rfl, trivial⟩, H.weak (by omega) (Nat.le_refl _)⟩
  ·skip
   refine Ops.wanted rfl rfl ?_
   refine Ops.loadHA (off := 0) (cs := [(.v (.int .i8 high.Inf)), (vi high.N)]) H 1 rfl rfl rfl rfl rfl rfl rfl nofun rfl ?_
   refine Ops.wanted rfl rfl ?_
   refine Ops.call (ys := [(.agg [(.v (.int .i8 high.Inf)), (vi high.N)])]) (r := (vb (safe_Right high))) rfl (safe_Right_fn rfl) rfl ?_
   refine Ops.wanted rfl rfl ?_
   refine Ops.not (b := (safe_Right high)) rfl rfl ?_
   refine Ops.pickF (v := (vb (!(safe_Right high)))) rfl rfl rfl ?_
   apply Ops.nil
   exact ⟨⟨or_F hc1, rfl, rfl, rfl, rfl, trivial⟩, H.weak (by omega) (Nat.le_refl _)⟩
 ·rintro e σ ⟨he, H⟩
  obtain ⟨e, rfl⟩ := he.ex
  refine Ops.move (v := (vb ((!(safe_Right low)) || (!(safe_Right high))))) rfl rfl ?_
  refine Ops.mid 4 (K1 := fun e σ => EnvHas e [(28, (vb (((!(safe_Right low)) || (!(safe_Right high))) || (low.Inf == 1)))), (3, (.ptr (b1 + 0) 4 0)), (4, (.ptr (b1 + 1) 2 0)), (5, (.ptr (b1 + 2) 2 0)), (6, (.ptr (b1 + 3) 4 0))] ∧ Has σ (b2 + 13) (b2 + 18) [.blk (b1 + 3) 27 [(vi 0), (vi 0), (vb false), (vb false)], .blk (b1 + 2) 32 [(.v (.int .i8 high.Inf)), (vi high.N)], .blk (b1 + 1) 32 [(.v (.int .i8 low.Inf)), (vi low.N)], .blk (b1 + 0) 25 [(vi f.Period), (vi f.Count), (vl (cL Span.cs) f.Core), (vl Granule.cs f.Odd)]]) rfl ?_ ?_
  ·refine Ops.split rfl rfl ?_ ?_ <;> intro hc2
   ·skip
    refine Ops.pass rfl rfl rfl ?_
    refine Ops.pass rfl rfl rfl ?_
    refine Ops.pass rfl rfl rfl ?_
    refine Ops.pickT (v := (vb true)) rfl rfl rfl ?_
    apply Ops.nil
    exact ⟨⟨or_T hc2, rfl, rfl, rfl, rfl, trivial⟩, H.weak (by omega) (Nat.le_refl _)⟩
   ·skip
    refine Ops.wanted rfl rfl ?_
    refine Ops.fieldAddrH (off := 0) (fo := 0) H 2 rfl rfl rfl rfl rfl nofun rfl ?_
    refine Ops.wanted rfl rfl ?_
    refine Ops.loadH (off := 0) (v := (.v (.int .i8 low.Inf))) H 2 rfl rfl rfl rfl rfl nofun rfl ?_
    refine Ops.wanted rfl rfl ?_
    refine Ops.int (m := low.Inf) (m' := 1) (r := .bool (low.Inf == 1)) rfl rfl rfl rfl rfl ?_
    refine Ops.pickF (v := (vb (low.Inf == 1))) rfl rfl rfl ?_
    apply Ops.nil
    exact ⟨⟨or_F hc2, rfl, rfl, rfl, rfl, trivial⟩, H.weak (by omega) (Nat.le_refl _)⟩
  ·rintro e σ ⟨he, H⟩
   obtain ⟨e, rfl⟩ := he.ex
   refine Ops.move (v := (vb (((!(safe_Right low)) || (!(safe_Right high))) || (low.Inf == 1)))) rfl rfl ?_
   refine Ops.mid 4 (K1 := fun e σ => EnvHas e [(33, (vb ((((!(safe_Right low)) || (!(safe_Right high))) || (low.Inf == 1)) || (high.Inf == (-1))))), (3, (.ptr (b1 + 0) 4 0)), (4, (.ptr (b1 + 1) 2 0)), (5, (.ptr (b1 + 2) 2 0)), (6, (.ptr (b1 + 3) 4 0))] ∧ Has σ (b2 + 18) (b2 + 18) [.blk (b1 + 3) 27 [(vi 0), (vi 0), (vb false), (vb false)], .blk (b1 + 2) 32 [(.v (.int .i8 high.Inf)), (vi high.N)], .blk (b1 + 1) 32 [(.v (.int .i8 low.Inf)), (vi low.N)], .blk (b1 + 0) 25 [(vi f.Period), (vi f.Count), (vl (cL Span.cs) f.Core), (vl Granule.cs f.Odd)]]) rfl ?_ ?_
   ·refine Ops.split rfl rfl ?_ ?_ <;> intro hc3
    ·skip
     refine Ops.pass rfl rfl rfl ?_
     refine Ops.pass rfl rfl rfl ?_
     refine Ops.pass rfl rfl rfl ?_
     refine Ops.pickT (v := (vb true)) rfl rfl rfl ?_
     apply Ops.nil
     exact ⟨⟨or_T hc3, rfl, rfl, rfl, rfl, trivial⟩, H.weak (by omega) (Nat.le_refl _)⟩
    ·skip
     refine Ops.wanted rfl rfl ?_
     refine Ops.fieldAddrH (off := 0) (fo := 0) H 1 rfl rfl rfl rfl rfl nofun rfl ?_
     refine Ops.wanted rfl rfl ?_
     refine Ops.loadH (off := 0) (v := (.v (.int .i8 high.Inf))) H 1 rfl rfl rfl rfl rfl nofun rfl ?_
     refine Ops.wanted rfl rfl ?_
     refine Ops.int (m := high.Inf) (m' := (-1)) (r := .bool (high.Inf == (-1))) rfl rfl rfl rfl rfl ?_
     refine Ops.pickF (v := (vb (high.Inf == (-1)))) rfl rfl rfl ?_
     apply Ops.nil
     exact ⟨⟨or_F hc3, rfl, rfl, rfl, rfl, trivial⟩, H.weak (by omega) (Nat.le_refl _)⟩
   ·rintro e σ ⟨he, H⟩
    obtain ⟨e, rfl⟩ := he.ex
    apply Ops.nil
    replace H := H.all
    refine Runs.whether (v := ((((!(safe_Right low)) || (!(safe_Right high))) || (low.Inf == 1)) || (high.Inf == (-1)))) rfl ?_ ?_ <;> intro hc4
    ·replace h := cond_T hc4 h
     apply Runs.then
     refine Runs.regionH 4 rfl H ?_; intro b3 σ H
     refine Ops.buildA (cs := [(vi 0), (vi 0), (vb false), (vb false)]) rfl rfl ?_
     refine Ops.storeH (off := 0) (v := (.agg [(vi 0), (vi 0), (vb false), (vb false)])) (ys := [(vi 0), (vi 0), (vb false), (vb false)]) (cells' := [(vi 0), (vi 0), (vb false), (vb false)]) H 0 rfl rfl rfl rfl rfl rfl rfl rfl rfl nofun ?_; intro σ H
     refine Ops.assign (v := (vb false)) rfl rfl ?_
     refine Ops.assign (v := (vi 2)) rfl rfl ?_
     apply Ops.nil
     replace H := H.all
     apply Runs.ret
     replace h := Option.some.inj h; subst h
     exact (Ends.H (xs := [(.agg [(vi 0), (vi 0), (vb false), (vb false)]), (vb false), (vi 2)]) (.inr rfl) H (.agg (cs := [(vi 0), (vi 0), (vb false), (vb false)]) (off := 0) 0 rfl rfl rfl rfl rfl rfl rfl (.tmp (v := (vb false)) rfl (.tmp (v := (vi 2)) rfl .nil))) (.two (.cons (.p rfl) (.cons (.c (.v _)) (.cons (.c (.v _)) .nil)))))
    ·replace h := cond_F hc4 h
     apply Runs.skip
     apply Runs.then
     refine Runs.regionH 1 rfl H ?_; intro b4 σ H
     refine Ops.allocH (cs := [(vi 0), (vi 0), (vb false), (vb false)]) H (by omega) (by omega) rfl rfl ?_; intro σ H
     apply Ops.nil
     replace H := H.all
     apply Runs.then
     obtain ⟨y1, hj1, h⟩ := bind_some h
     refine Runs.mono (Q := fun x e σ => (∃ a1, y1 = (.go a1) ∧ x = .normal ∧ EnvHas e [(3, (.ptr (b1 + 0) 4 0)), (4, (.ptr (b1 + 1) 2 0)), (6, (.ptr (b1 + 3) 4 0)), (9, (.ptr (b4 + 0) 4 0))] ∧ Hs σ [.blk (b4 + 0) 27 [(vi 0), (vi a1.1), (vb false), (vb a1.2)], .blk (b1 + 3) 27 [(vi 0), (vi 0), (vb false), (vb false)], .blk (b1 + 1) 32 [(.v (.int .i8 low.Inf)), (vi low.N)], .blk (b1 + 0) 25 [(vi f.Period), (vi f.Count), (vl (cL Span.cs) f.Core), (vl Granule.cs f.Odd)]]) ∨ (∃ r', y1 = (.ret r') ∧ x = .ret ∧ Ends CX Try.f22.results.toList (.tup [(.agg (vs (Range.cs r'.1))), (vb r'.2.1), (vi r'.2.2)]) x e σ)) ?_ ?_
     ·replace h := hj1
      apply Runs.then
      refine Runs.regionH 8 rfl H ?_; intro b5 σ H
      refine Ops.fieldAddrH (off := 0) (fo := 0) H 2 rfl rfl rfl rfl rfl nofun rfl ?_
      refine Ops.loadH (off := 0) (v := (.v (.int .i8 high.Inf))) H 2 rfl rfl rfl rfl rfl nofun rfl ?_
      refine Ops.int (m := high.Inf) (m' := 0) (r := .bool (high.Inf == 0)) rfl rfl rfl rfl rfl ?_
      refine Ops.move (v := (vb (high.Inf == 0))) rfl rfl ?_
      refine Ops.mid 4 (K1 := fun e σ => EnvHas e [(42, (vb ((high.Inf == 0) && (decide (high.N ≤ 1099511627776))))), (3, (.ptr (b1 + 0) 4 0)), (4, (.ptr (b1 + 1) 2 0)), (5, (.ptr (b1 + 2) 2 0)), (6, (.ptr (b1 + 3) 4 0)), (9, (.ptr (b4 + 0) 4 0))] ∧ Has σ (b5 + 8) (b5 + 8) [.blk (b4 + 0) 27 [(vi 0), (vi 0), (vb false), (vb false)], .blk (b1 + 3) 27 [(vi 0), (vi 0), (vb false), (vb false)], .blk (b1 + 2) 32 [(.v (.int .i8 high.Inf)), (vi high.N)], .blk (b1 + 1) 32 [(.v (.int .i8 low.Inf)), (vi low.N)], .blk (b1 + 0) 25 [(vi f.Period), (vi f.Count), (vl (cL Span.cs) f.Core), (vl Granule.cs f.Odd)]]) rfl ?_ ?_
      ·refine Ops.split rfl rfl ?_ ?_ <;> intro hc5
       ·skip
        refine Ops.wanted rfl rfl ?_
        refine Ops.fieldAddrH (off := 0) (fo := 1) H 2 rfl rfl rfl rfl rfl nofun rfl ?_
        refine Ops.wanted rfl rfl ?_
        refine Ops.loadH (off := 1) (v := (vi high.N)) H 2 rfl rfl rfl rfl rfl nofun rfl ?_
        refine Ops.wanted rfl rfl ?_
        refine Ops.int (m := high.N) (m' := 1099511627776) (r := .bool (decide (high.N ≤ 1099511627776))) rfl rfl rfl rfl rfl ?_
        refine Ops.pickT (v := (vb (decide (high.N ≤ 1099511627776)))) rfl rfl rfl ?_
        apply Ops.nil
        exact ⟨⟨and_T hc5, rfl, rfl, rfl, rfl, rfl, trivial⟩, H.weak (by omega) (Nat.le_refl _)⟩
       ·skip
        refine Ops.pass rfl rfl rfl ?_
        refine Ops.pass rfl rfl rfl ?_
        refine Ops.pass rfl rfl rfl ?_
        refine Ops.pickF (v := (vb false)) rfl rfl rfl ?_
        apply Ops.nil
        exact ⟨⟨and_F hc5, rfl, rfl, rfl, rfl, rfl, trivial⟩, H.weak (by omega) (Nat.le_refl _)⟩
      ·rintro e σ ⟨he, H⟩
       obtain ⟨e, rfl⟩ := he.ex
       apply Ops.nil
       replace H := H.all
       refine Runs.whether (v := ((high.Inf == 0) && (decide (high.N ≤ 1099511627776)))) rfl ?_ ?_ <;> intro hc6
       ·replace h := cond_T hc6 h
        apply Runs.then
        refine Runs.regionH 12 rfl H ?_; intro b6 σ H
        refine Ops.loadHA (off := 0) (cs := [(vi f.Period), (vi f.Count), (vl (cL Span.cs) f.Core), (vl Granule.cs f.Odd)]) H 4 rfl rfl rfl rfl rfl rfl rfl nofun rfl ?_
        refine Ops.fieldAddrH (off := 0) (fo := 1) H 2 rfl rfl rfl rfl rfl nofun rfl ?_
        refine Ops.loadH (off := 1) (v := (vi high.N)) H 2 rfl rfl rfl rfl rfl nofun rfl ?_
        refine Ops.max2 rfl rfl rfl ?_
        obtain ⟨x1, q1, h⟩ := bind_some h
        refine Ops.call (ys := [(.agg [(vi f.Period), (vi f.Count), (vl (cL Span.cs) f.Core), (vl Granule.cs f.Odd)]), (vi (iMax high.N (-1099511627776)))]) (r := (.tup [(vi x1.1), (vb x1.2.1), (vi x1.2.2)])) rfl (size_Down_fn q1) rfl ?_
        refine Ops.move (v := (.tup [(vi x1.1), (vb x1.2.1), (vi x1.2.2)])) rfl rfl ?_
        refine Ops.extract (v := (vi x1.1)) rfl rfl rfl ?_
        refine Ops.extract (v := (vb x1.2.1)) rfl rfl rfl ?_
        refine Ops.extract (v := (vi x1.2.2)) rfl rfl rfl ?_
        refine Ops.assign (v := (vi x1.1)) rfl rfl ?_
        refine Ops.assign (v := (vb x1.2.1)) rfl rfl ?_
        refine Ops.assign (v := (vi x1.2.2)) rfl rfl ?_
        apply Ops.nil
        replace H := H.all
        apply Runs.then
        apply Runs.then
        refine Runs.regionH 2 rfl H ?_; intro b7 σ H
        refine Ops.move (v := (vb x1.2.1)) rfl rfl ?_
        refine Ops.not (b := x1.2.1) rfl rfl ?_
        apply Ops.nil
        replace H := H.all
        refine Runs.whether (v := (!x1.2.1)) rfl ?_ ?_ <;> intro hc7
        ·replace h := cond_T hc7 h
         apply Runs.then
         refine Runs.regionH 4 rfl H ?_; intro b8 σ H
         refine Ops.buildA (cs := [(vi 0), (vi 0), (vb false), (vb false)]) rfl rfl ?_
         refine Ops.storeH (off := 0) (v := (.agg [(vi 0), (vi 0), (vb false), (vb false)])) (ys := [(vi 0), (vi 0), (vb false), (vb false)]) (cells' := [(vi 0), (vi 0), (vb false), (vb false)]) H 1 rfl rfl rfl rfl rfl rfl rfl rfl rfl nofun ?_; intro σ H
         refine Ops.assign (v := (vb false)) rfl rfl ?_
         refine Ops.assign (v := (vi 0)) rfl rfl ?_
         apply Ops.nil
         replace H := H.all
         apply Runs.ret
         replace h := Option.some.inj h; subst h
         exact (.inr ⟨_, rfl, rfl, (Ends.H (xs := [(.agg [(vi 0), (vi 0), (vb false), (vb false)]), (vb false), (vi 0)]) (.inr rfl) H (.agg (cs := [(vi 0), (vi 0), (vb false), (vb false)]) (off := 0) 1 rfl rfl rfl rfl rfl rfl rfl (.tmp (v := (vb false)) rfl (.tmp (v := (vi 0)) rfl .nil))) (.two (.cons (.p rfl) (.cons (.c (.v _)) (.cons (.c (.v _)) .nil)))))⟩)
        ·replace h := cond_F hc7 h
         apply Runs.skip
         refine Runs.regionH 5 rfl H ?_; intro b9 σ H
         refine Ops.move (v := (vi x1.1)) rfl rfl ?_
         refine Ops.fieldAddrH (off := 0) (fo := 1) H 0 rfl rfl rfl rfl rfl nofun rfl ?_
         refine Ops.storeH (off := 1) (v := (vi x1.1)) (ys := [(vi x1.1)]) (cells' := [(vi 0), (vi x1.1), (vb false), (vb false)]) H 0 rfl rfl rfl rfl rfl rfl rfl rfl rfl nofun ?_; intro σ H
         refine Ops.fieldAddrH (off := 0) (fo := 3) H 0 rfl rfl rfl rfl rfl nofun rfl ?_
         refine Ops.storeH (off := 3) (v := (vb true)) (ys := [(vb true)]) (cells' := [(vi 0), (vi x1.1), (vb false), (vb true)]) H 0 rfl rfl rfl rfl rfl rfl rfl rfl rfl nofun ?_; intro σ H
         apply Ops.nil
         replace H := H.all
         replace h := Option.some.inj h; subst h
         exact (.inl ⟨_, rfl, rfl, ⟨rfl, rfl, rfl, rfl, trivial⟩, (H.erase 2)⟩)
       ·replace h := cond_F hc6 h
        apply Runs.skip
        replace h := Option.some.inj h; subst h
        exact (.inl ⟨_, rfl, rfl, ⟨rfl, rfl, rfl, rfl, trivial⟩, (H.erase 2)⟩)
     ·rintro x e σ (⟨a2, rfl, rfl, he, H⟩ | ⟨r', rfl, rfl, hE⟩)
      ·skip
       replace h := jgo h
       obtain ⟨e, rfl⟩ := he.ex
       apply Runs.then
       obtain ⟨y2, hj2, h⟩ := bind_some h
       refine Runs.mono (Q := fun x e σ => (∃ a3, y2 = (.go a3) ∧ x = .normal ∧ EnvHas e [(6, (.ptr (b1 + 3) 4 0)), (9, (.ptr (b4 + 0) 4 0))] ∧ Hs σ [.blk (b4 + 0) 27 [(vi a3.1), (vi a2.1), (vb a3.2), (vb a2.2)], .blk (b1 + 3) 27 [(vi 0), (vi 0), (vb false), (vb false)]]) ∨ (∃ r', y2 = (.ret r') ∧ x = .ret ∧ Ends CX Try.f22.results.toList (.tup [(.agg (vs (Range.cs r'.1))), (vb r'.2.1), (vi r'.2.2)]) x e σ)) ?_ ?_
       ·replace h := hj2
        apply Runs.then
        refine Runs.regionH 8 rfl H ?_; intro b10 σ H
        refine Ops.fieldAddrH (off := 0) (fo := 0) H 2 rfl rfl rfl rfl rfl nofun rfl ?_
        refine Ops.loadH (off := 0) (v := (.v (.int .i8 low.Inf))) H 2 rfl rfl rfl rfl rfl nofun rfl ?_
        refine Ops.int (m := low.Inf) (m' := 0) (r := .bool (low.Inf == 0)) rfl rfl rfl rfl rfl ?_
        refine Ops.move (v := (vb (low.Inf == 0))) rfl rfl ?_
        refine Ops.mid 4 (K1 := fun e σ => EnvHas e [(65, (vb ((low.Inf == 0) && (decide (low.N ≥ (-1099511627776)))))), (3, (.ptr (b1 + 0) 4 0)), (4, (.ptr (b1 + 1) 2 0)), (6, (.ptr (b1 + 3) 4 0)), (9, (.ptr (b4 + 0) 4 0))] ∧ Has σ (b10 + 8) (b10 + 8) [.blk (b4 + 0) 27 [(vi 0), (vi a2.1), (vb false), (vb a2.2)], .blk (b1 + 3) 27 [(vi 0), (vi 0), (vb false), (vb false)], .blk (b1 + 1) 32 [(.v (.int .i8 low.Inf)), (vi low.N)], .blk (b1 + 0) 25 [(vi f.Period), (vi f.Count), (vl (cL Span.cs) f.Core), (vl Granule.cs f.Odd)]]) rfl ?_ ?_
        ·refine Ops.split rfl rfl ?_ ?_ <;> intro hc8
         ·skip
          refine Ops.wanted rfl rfl ?_
          refine Ops.fieldAddrH (off := 0) (fo := 1) H 2 rfl rfl rfl rfl rfl nofun rfl ?_
          refine Ops.wanted rfl rfl ?_
          refine Ops.loadH (off := 1) (v := (vi low.N)) H 2 rfl rfl rfl rfl rfl nofun rfl ?_
          refine Ops.wanted rfl rfl ?_
          refine Ops.int (m := low.N) (m' := (-1099511627776)) (r := .bool (decide (low.N ≥ (-1099511627776)))) rfl rfl rfl rfl rfl ?_
          refine Ops.pickT (v := (vb (decide (low.N ≥ (-1099511627776))))) rfl rfl rfl ?_
          apply Ops.nil
          exact ⟨⟨and_T hc8, rfl, rfl, rfl, rfl, trivial⟩, H.weak (by omega) (Nat.le_refl _)⟩
         ·skip
          refine Ops.pass rfl rfl rfl ?_
          refine Ops.pass rfl rfl rfl ?_
          refine Ops.pass rfl rfl rfl ?_
          refine Ops.pickF (v := (vb false)) rfl rfl rfl ?_
          apply Ops.nil
          exact ⟨⟨and_F hc8, rfl, rfl, rfl, rfl, trivial⟩, H.weak (by omega) (Nat.le_refl _)⟩
        ·rintro e σ ⟨he, H⟩
         obtain ⟨e, rfl⟩ := he.ex
         apply Ops.nil
         replace H := H.all
         refine Runs.whether (v := ((low.Inf == 0) && (decide (low.N ≥ (-1099511627776))))) rfl ?_ ?_ <;> intro hc9
         ·replace h := cond_T hc9 h
          apply Runs.then
          refine Runs.regionH 12 rfl H ?_; intro b11 σ H
          refine Ops.loadHA (off := 0) (cs := [(vi f.Period), (vi f.Count), (vl (cL Span.cs) f.Core), (vl Granule.cs f.Odd)]) H 3 rfl rfl rfl rfl rfl rfl rfl nofun rfl ?_
          refine Ops.fieldAddrH (off := 0) (fo := 1) H 2 rfl rfl rfl rfl rfl nofun rfl ?_
          refine Ops.loadH (off := 1) (v := (vi low.N)) H 2 rfl rfl rfl rfl rfl nofun rfl ?_
          refine Ops.min2 rfl rfl rfl ?_
          obtain ⟨x2, q2, h⟩ := bind_some h
          refine Ops.call (ys := [(.agg [(vi f.Period), (vi f.Count), (vl (cL Span.cs) f.Core), (vl Granule.cs f.Odd)]), (vi (iMin low.N 1099511627776))]) (r := (.tup [(vi x2.1), (vb x2.2.1), (vi x2.2.2)])) rfl (size_Up_fn q2) rfl ?_
          refine Ops.move (v := (.tup [(vi x2.1), (vb x2.2.1), (vi x2.2.2)])) rfl rfl ?_
          refine Ops.extract (v := (vi x2.1)) rfl rfl rfl ?_
          refine Ops.extract (v := (vb x2.2.1)) rfl rfl rfl ?_
          refine Ops.extract (v := (vi x2.2.2)) rfl rfl rfl ?_
          refine Ops.assign (v := (vi x2.1)) rfl rfl ?_
          refine Ops.assign (v := (vb x2.2.1)) rfl rfl ?_
          refine Ops.assign (v := (vi x2.2.2)) rfl rfl ?_
          apply Ops.nil
          replace H := H.all
          apply Runs.then
          apply Runs.then
          refine Runs.regionH 2 rfl H ?_; intro b12 σ H
          refine Ops.move (v := (vb x2.2.1)) rfl rfl ?_
          refine Ops.not (b := x2.2.1) rfl rfl ?_
          apply Ops.nil
          replace H := H.all
          refine Runs.whether (v := (!x2.2.1)) rfl ?_ ?_ <;> intro hc10
          ·replace h := cond_T hc10 h
           apply Runs.then
           refine Runs.regionH 4 rfl H ?_; intro b13 σ H
           refine Ops.buildA (cs := [(vi 0), (vi 0), (vb false), (vb false)]) rfl rfl ?_
           refine Ops.storeH (off := 0) (v := (.agg [(vi 0), (vi 0), (vb false), (vb false)])) (ys := [(vi 0), (vi 0), (vb false), (vb false)]) (cells' := [(vi 0), (vi 0), (vb false), (vb false)]) H 1 rfl rfl rfl rfl rfl rfl rfl rfl rfl nofun ?_; intro σ H
           refine Ops.assign (v := (vb false)) rfl rfl ?_
           refine Ops.assign (v := (vi 0)) rfl rfl ?_
           apply Ops.nil
           replace H := H.all
           apply Runs.ret
           replace h := Option.some.inj h; subst h
           exact (.inr ⟨_, rfl, rfl, (Ends.H (xs := [(.agg [(vi 0), (vi 0), (vb false), (vb false)]), (vb false), (vi 0)]) (.inr rfl) H (.agg (cs := [(vi 0), (vi 0), (vb false), (vb false)]) (off := 0) 1 rfl rfl rfl rfl rfl rfl rfl (.tmp (v := (vb false)) rfl (.tmp (v := (vi 0)) rfl .nil))) (.two (.cons (.p rfl) (.cons (.c (.v _)) (.cons (.c (.v _)) .nil)))))⟩)
          ·replace h := cond_F hc10 h
           apply Runs.skip
           refine Runs.regionH 5 rfl H ?_; intro b14 σ H
           refine Ops.move (v := (vi x2.1)) rfl rfl ?_
           refine Ops.fieldAddrH (off := 0) (fo := 0) H 0 rfl rfl rfl rfl rfl nofun rfl ?_
           refine Ops.storeH (off := 0) (v := (vi x2.1)) (ys := [(vi x2.1)]) (cells' := [(vi x2.1), (vi a2.1), (vb false), (vb a2.2)]) H 0 rfl rfl rfl rfl rfl rfl rfl rfl rfl nofun ?_; intro σ H
           refine Ops.fieldAddrH (off := 0) (fo := 2) H 0 rfl rfl rfl rfl rfl nofun rfl ?_
           refine Ops.storeH (off := 2) (v := (vb true)) (ys := [(vb true)]) (cells' := [(vi x2.1), (vi a2.1), (vb true), (vb a2.2)]) H 0 rfl rfl rfl rfl rfl rfl rfl rfl rfl nofun ?_; intro σ H
           apply Ops.nil
           replace H := H.all
           replace h := Option.some.inj h; subst h
           exact (.inl ⟨_, rfl, rfl, ⟨rfl, rfl, trivial⟩, ((H.erase 3).erase 2)⟩)
         ·replace h := cond_F hc9 h
          apply Runs.skip
          replace h := Option.some.inj h; subst h
          exact (.inl ⟨_, rfl, rfl, ⟨rfl, rfl, trivial⟩, ((H.erase 3).erase 2)⟩)
       ·rintro x e σ (⟨a4, rfl, rfl, he, H⟩ | ⟨r', rfl, rfl, hE⟩)
        ·skip
         replace h := jgo h
         obtain ⟨e, rfl⟩ := he.ex
         apply Runs.then
         refine Runs.regionH 4 rfl H ?_; intro b15 σ H
         refine Ops.loadHA (off := 0) (cs := [(vi a4.1), (vi a2.1), (vb a4.2), (vb a2.2)]) H 0 rfl rfl rfl rfl rfl rfl rfl nofun rfl ?_
         refine Ops.storeH (off := 0) (v := (.agg [(vi a4.1), (vi a2.1), (vb a4.2), (vb a2.2)])) (ys := [(vi a4.1), (vi a2.1), (vb a4.2), (vb a2.2)]) (cells' := [(vi a4.1), (vi a2.1), (vb a4.2), (vb a2.2)]) H 1 rfl rfl rfl rfl rfl rfl rfl rfl rfl nofun ?_; intro σ H
         refine Ops.assign (v := (vb true)) rfl rfl ?_
         refine Ops.assign (v := (vi 0)) rfl rfl ?_
         apply Ops.nil
         replace H := H.all
         apply Runs.ret
         replace h := Option.some.inj h; subst h
         exact (Ends.H (xs := [(.agg [(vi a4.1), (vi a2.1), (vb a4.2), (vb a2.2)]), (vb true), (vi 0)]) (.inr rfl) H (.agg (cs := [(vi a4.1), (vi a2.1), (vb a4.2), (vb a2.2)]) (off := 0) 1 rfl rfl rfl rfl rfl rfl rfl (.tmp (v := (vb true)) rfl (.tmp (v := (vi 0)) rfl .nil))) (.two (.cons (.p rfl) (.cons (.c (.v _)) (.cons (.c (.v _)) .nil)))))
        ·skip
         replace h := jret h
         replace h := Option.some.inj h; subst h
         exact hE
      ·skip
       replace h := jret h
       replace h := Option.some.inj h; subst h
       exact hE

set_option maxRecDepth 100000 in
set_option maxHeartbeats 4000000 in
theorem epactlaw25_ranged_fn {f : Form} {low : Int} {high : Int} {want : Range} {r : Bool} (h : epactlaw25_ranged f low high want = some r) : Fn CX 43 [(.agg (vs (Form.cs f))), (vi low), (vi high), (.agg (vs (Range.cs want)))] (vb r) := by
 refine Fn.ends Try.func43 rfl rfl rfl rfl rfl rfl ?_
 have H : Hs (⟨0, fun _ => .none⟩ : Heap) [] := Has.nil (Nat.le_refl _)
 generalize (⟨0, fun _ => .none⟩ : Heap) = σ at H ⊢
 unfold epactlaw25_ranged at h
 apply Runs.then
 refine Runs.regionH 3 rfl H ?_; intro b1 σ H
 refine Ops.boxH (v := (.agg [(vi f.Period), (vi f.Count), (vl (cL Span.cs) f.Core), (vl Granule.cs f.Odd)])) (cs := [(vi f.Period), (vi f.Count), (vl (cL Span.cs) f.Core), (vl Granule.cs f.Odd)]) H (by omega) (by omega) rfl rfl rfl ?_; intro σ H
 refine Ops.boxH (v := (.agg [(vi want.Low), (vi want.High), (vb want.HasLow), (vb want.HasHigh)])) (cs := [(vi want.Low), (vi want.High), (vb want.HasLow), (vb want.HasHigh)]) H (by omega) (by omega) rfl rfl rfl ?_; intro σ H
 refine Ops.assign (v := (vb false)) rfl rfl ?_
 apply Ops.nil
 replace H := H.all
 apply Runs.then
 refine Runs.drawnH 14 rfl (by kernel_rfl) H ?_; intro b2 σ H B2
 refine Ops.loadHA (off := 0) (cs := [(vi f.Period), (vi f.Count), (vl (cL Span.cs) f.Core), (vl Granule.cs f.Odd)]) H 1 rfl rfl rfl rfl rfl rfl rfl (fun _ => .inl ⟨B2 1 _ rfl _ rfl, nofun⟩) rfl ?_
 refine Ops.move (v := (vi low)) rfl rfl ?_
 refine Ops.call (ys := [(vi low)]) (r := (.agg [(.v (.int .i8 (epactlaw25_number low).Inf)), (vi (epactlaw25_number low).N)])) rfl (epactlaw25_number_fn rfl) rfl ?_
 refine Ops.move (v := (vi high)) rfl rfl ?_
 refine Ops.call (ys := [(vi high)]) (r := (.agg [(.v (.int .i8 (epactlaw25_number high).Inf)), (vi (epactlaw25_number high).N)])) rfl (epactlaw25_number_fn rfl) rfl ?_
 obtain ⟨x1, q1, h⟩ := bind_some h
 refine Ops.call (ys := [(.agg [(vi f.Period), (vi f.Count), (vl (cL Span.cs) f.Core), (vl Granule.cs f.Odd)]), (.agg [(.v (.int .i8 (epactlaw25_number low).Inf)), (vi (epactlaw25_number low).N)]), (.agg [(.v (.int .i8 (epactlaw25_number high).Inf)), (vi (epactlaw25_number high).N)])]) (r := (.tup [(.agg [(vi x1.1.Low), (vi x1.1.High), (vb x1.1.HasLow), (vb x1.1.HasHigh)]), (vb x1.2.1), (vi x1.2.2)])) rfl (carry_Range_fn q1) rfl ?_
 refine Ops.move (v := (.tup [(.agg [(vi x1.1.Low), (vi x1.1.High), (vb x1.1.HasLow), (vb x1.1.HasHigh)]), (vb x1.2.1), (vi x1.2.2)])) rfl rfl ?_
 refine Ops.extract (v := (.agg [(vi x1.1.Low), (vi x1.1.High), (vb x1.1.HasLow), (vb x1.1.HasHigh)])) rfl rfl rfl ?_
 refine Ops.extract (v := (vb x1.2.1)) rfl rfl rfl ?_
 refine Ops.extract (v := (vi x1.2.2)) rfl rfl rfl ?_
 refine Ops.allocH (cs := [(vi 0), (vi 0), (vb false), (vb false)]) H (by omega) (by omega) rfl rfl ?_; intro σ H
 refine Ops.storeH (off := 0) (v := (.agg [(vi x1.1.Low), (vi x1.1.High), (vb x1.1.HasLow), (vb x1.1.HasHigh)])) (ys := [(vi x1.1.Low), (vi x1.1.High), (vb x1.1.HasLow), (vb x1.1.HasHigh)]) (cells' := [(vi x1.1.Low), (vi x1.1.High), (vb x1.1.HasLow), (vb x1.1.HasHigh)]) H 0 rfl rfl rfl rfl rfl rfl rfl rfl rfl (fun _ => .inr ⟨10, rfl, by kernel_rfl, by decide⟩) ?_; intro σ H
 refine Ops.assign (v := (vb x1.2.1)) rfl rfl ?_
 refine Ops.assign (v := (vi x1.2.2)) rfl rfl ?_
 apply Ops.nil
 replace H := H.all
 apply Runs.then
 refine Runs.regionH 11 rfl H ?_; intro b3 σ H
 refine Ops.move (v := (vi x1.2.2)) rfl rfl ?_
 refine Ops.int (m := x1.2.2) (m' := 0) (r := .bool (x1.2.2 == 0)) rfl rfl rfl rfl rfl ?_
 refine Ops.move (v := (vb (x1.2.2 == 0))) rfl rfl ?_
 refine Ops.mid 2 (K1 := fun e σ => EnvHas e [(26, (vb ((x1.2.2 == 0) && x1.2.1))), (7, (.ptr (b1 + 1) 4 0)), (9, (.ptr (b2 + 10) 4 0))] ∧ Has σ (b3 + 5) (b3 + 11) [.blk (b2 + 10) 27 [(vi x1.1.Low), (vi x1.1.High), (vb x1.1.HasLow), (vb x1.1.HasHigh)], .blk (b1 + 1) 27 [(vi want.Low), (vi want.High), (vb want.HasLow), (vb want.HasHigh)]]) rfl ?_ ?_
 ·refine Ops.split rfl rfl ?_ ?_ <;> intro hc1
  ·skip
   refine Ops.wanted rfl rfl ?_
   refine Ops.move (v := (vb x1.2.1)) rfl rfl ?_
   refine Ops.pickT (v := (vb x1.2.1)) rfl rfl rfl ?_
   apply Ops.nil
   exact ⟨⟨and_T hc1, rfl, rfl, trivial⟩, (H.erase 2).weak (by omega) (Nat.le_refl _)⟩
  ·skip
   refine Ops.pass rfl rfl rfl ?_
   refine Ops.pickF (v := (vb false)) rfl rfl rfl ?_
   apply Ops.nil
   exact ⟨⟨and_F hc1, rfl, rfl, trivial⟩, (H.erase 2).weak (by omega) (Nat.le_refl _)⟩
 ·rintro e σ ⟨he, H⟩
  obtain ⟨e, rfl⟩ := he.ex
  refine Ops.move (v := (vb ((x1.2.2 == 0) && x1.2.1))) rfl rfl ?_
  refine Ops.mid 4 (K1 := fun e σ => EnvHas e [(31, (vb (((x1.2.2 == 0) && x1.2.1) && ((x1.1.Low == want.Low) && ((x1.1.High == want.High) && ((x1.1.HasLow == want.HasLow) && ((x1.1.HasHigh == want.HasHigh) && true)))))))] ∧ Has σ (b3 + 10) (b3 + 11) []) rfl ?_ ?_
  ·refine Ops.split rfl rfl ?_ ?_ <;> intro hc2
   ·skip
    refine Ops.wanted rfl rfl ?_
    refine Ops.loadHA (off := 0) (cs := [(vi x1.1.Low), (vi x1.1.High), (vb x1.1.HasLow), (vb x1.1.HasHigh)]) H 0 rfl rfl rfl rfl rfl rfl rfl nofun rfl ?_
    refine Ops.wanted rfl rfl ?_
    refine Ops.loadHA (off := 0) (cs := [(vi want.Low), (vi want.High), (vb want.HasLow), (vb want.HasHigh)]) H 1 rfl rfl rfl rfl rfl rfl rfl nofun rfl ?_
    refine Ops.wanted rfl rfl ?_
    refine Ops.binA (u := (.agg [(vi x1.1.Low), (vi x1.1.High), (vb x1.1.HasLow), (vb x1.1.HasHigh)])) (w := (.agg [(vi want.Low), (vi want.High), (vb want.HasLow), (vb want.HasHigh)])) (r := .bool ((x1.1.Low == want.Low) && ((x1.1.High == want.High) && ((x1.1.HasLow == want.HasLow) && ((x1.1.HasHigh == want.HasHigh) && true))))) rfl rfl (by kernel_rfl) (fun _ => ask_eqA rfl rfl rfl rfl) rfl ?_
    refine Ops.pickT (v := (vb ((x1.1.Low == want.Low) && ((x1.1.High == want.High) && ((x1.1.HasLow == want.HasLow) && ((x1.1.HasHigh == want.HasHigh) && true)))))) rfl rfl rfl ?_
    apply Ops.nil
    exact ⟨⟨and_T hc2, trivial⟩, ((H.erase 1).erase 0).weak (by omega) (Nat.le_refl _)⟩
   ·skip
    refine Ops.pass rfl rfl rfl ?_
    refine Ops.pass rfl rfl rfl ?_
    refine Ops.pass rfl rfl rfl ?_
    refine Ops.pickF (v := (vb false)) rfl rfl rfl ?_
    apply Ops.nil
    exact ⟨⟨and_F hc2, trivial⟩, ((H.erase 1).erase 0).weak (by omega) (Nat.le_refl _)⟩
  ·rintro e σ ⟨he, H⟩
   obtain ⟨e, rfl⟩ := he.ex
   refine Ops.assign (v := (vb (((x1.2.2 == 0) && x1.2.1) && ((x1.1.Low == want.Low) && ((x1.1.High == want.High) && ((x1.1.HasLow == want.HasLow) && ((x1.1.HasHigh == want.HasHigh) && true))))))) rfl rfl ?_
   apply Ops.nil
   replace H := H.all
   apply Runs.ret
   replace h := Option.some.inj h; subst h
   exact (Ends.H (xs := [(vb (((x1.2.2 == 0) && x1.2.1) && ((x1.1.Low == want.Low) && ((x1.1.High == want.High) && ((x1.1.HasLow == want.HasLow) && ((x1.1.HasHigh == want.HasHigh) && true))))))]) (.inr rfl) H (.tmp (v := (vb (((x1.2.2 == 0) && x1.2.1) && ((x1.1.Low == want.Low) && ((x1.1.High == want.High) && ((x1.1.HasLow == want.HasLow) && ((x1.1.HasHigh == want.HasHigh) && true))))))) rfl .nil) (.one (.c (.v _))))

set_option maxRecDepth 100000 in
set_option maxHeartbeats 4000000 in
theorem epactlaw25_awakeO_fn {r : Bool} (h : epactlaw25_awakeO = some r) : Fn CX 13 [] (vb r) := by
 refine Fn.ends Try.func13 rfl rfl rfl rfl rfl rfl ?_
 have H : Hs (⟨0, fun _ => .none⟩ : Heap) [] := Has.nil (Nat.le_refl _)
 generalize (⟨0, fun _ => .none⟩ : Heap) = σ at H ⊢
 unfold epactlaw25_awakeO at h
 apply Runs.then
 refine Runs.regionH 1 rfl H ?_; intro b1 σ H
 refine Ops.assign (v := (vb false)) rfl rfl ?_
 apply Ops.nil
 replace H := H.all
 apply Runs.then
 refine Runs.regionH 6 rfl H ?_; intro b2 σ H
 refine Ops.buildA (cs := [(vi 0), (vi 6)]) rfl rfl ?_
 refine Ops.buildS (sz := 2) ([(Span.mk 0 6)].map Span.cs) H (by omega) (by omega) rfl rfl rfl rfl rfl rfl rfl rfl rfl ?_; intro σ H
 refine Ops.buildSF (sz := 1) ([[(Span.mk 0 6)]].map (cL Span.cs)) H (by omega) (by omega) rfl rfl (.exp (.c (.s 0 rfl)) .nil) rfl rfl rfl rfl rfl rfl rfl nofun ?_; intro σ H
 refine Ops.buildA (cs := [(vi 7), (vi 1), (.buf (b2 + 2) 1 1), .nils]) rfl rfl ?_
 refine Ops.allocH (cs := [(vi 0), (vi 0), .nils, .nils]) H (by omega) (by omega) rfl rfl ?_; intro σ H
 refine Ops.storeH (off := 0) (v := (.agg [(vi 7), (vi 1), (.buf (b2 + 2) 1 1), .nils])) (ys := [(vi 7), (vi 1), (.buf (b2 + 2) 1 1), .nils]) (cells' := [(vi 7), (vi 1), (.buf (b2 + 2) 1 1), .nils]) H 0 rfl rfl rfl rfl rfl rfl rfl rfl rfl nofun ?_; intro σ H
 apply Ops.nil
 replace H := H.all
 apply Runs.then
 refine Runs.regionH 3 rfl H ?_; intro b3 σ H
 refine Ops.call (ys := []) (r := (.agg [(vi epactlaw05_Weeks.Period), (vi epactlaw05_Weeks.Count), (vl (cL Span.cs) epactlaw05_Weeks.Core), (vl Granule.cs epactlaw05_Weeks.Odd)])) rfl (epactlaw05_Weeks_fn rfl) rfl ?_
 refine Ops.allocH (cs := [(vi 0), (vi 0), .nils, .nils]) H (by omega) (by omega) rfl rfl ?_; intro σ H
 refine Ops.storeH (off := 0) (v := (.agg [(vi epactlaw05_Weeks.Period), (vi epactlaw05_Weeks.Count), (vl (cL Span.cs) epactlaw05_Weeks.Core), (vl Granule.cs epactlaw05_Weeks.Odd)])) (ys := [(vi epactlaw05_Weeks.Period), (vi epactlaw05_Weeks.Count), (vl (cL Span.cs) epactlaw05_Weeks.Core), (vl Granule.cs epactlaw05_Weeks.Odd)]) (cells' := [(vi epactlaw05_Weeks.Period), (vi epactlaw05_Weeks.Count), (vl (cL Span.cs) epactlaw05_Weeks.Core), (vl Granule.cs epactlaw05_Weeks.Odd)]) H 0 rfl rfl rfl rfl rfl rfl rfl rfl rfl nofun ?_; intro σ H
 apply Ops.nil
 replace H := H.all
 apply Runs.then
 refine Runs.regionH 7 rfl H ?_; intro b4 σ H
 refine Ops.buildA (cs := [(vi 5), (vi 6)]) rfl rfl ?_
 refine Ops.buildS (sz := 2) ([(Span.mk 5 6)].map Span.cs) H (by omega) (by omega) rfl rfl rfl rfl rfl rfl rfl rfl rfl ?_; intro σ H
 refine Ops.buildA (cs := [(vi 3), (.buf (b4 + 1) 1 2)]) rfl rfl ?_
 refine Ops.buildSF (sz := 2) ([(Granule.mk 3 [(Span.mk 5 6)])].map Granule.cs) H (by omega) (by omega) rfl rfl (.exp (.a (.cons (.v _) (.cons (.s 0 rfl) .nil))) .nil) rfl rfl rfl rfl rfl rfl rfl nofun ?_; intro σ H
 refine Ops.buildA (cs := [(vi 0), (vi 0), .nils, (.buf (b4 + 3) 1 2)]) rfl rfl ?_
 refine Ops.allocH (cs := [(vi 0), (vi 0), .nils, .nils]) H (by omega) (by omega) rfl rfl ?_; intro σ H
 refine Ops.storeH (off := 0) (v := (.agg [(vi 0), (vi 0), .nils, (.buf (b4 + 3) 1 2)])) (ys := [(vi 0), (vi 0), .nils, (.buf (b4 + 3) 1 2)]) (cells' := [(vi 0), (vi 0), .nils, (.buf (b4 + 3) 1 2)]) H 0 rfl rfl rfl rfl rfl rfl rfl rfl rfl nofun ?_; intro σ H
 apply Ops.nil
 replace H := H.all
 apply Runs.then
 refine Runs.regionH 10 rfl H ?_; intro b5 σ H
 refine Ops.loadHA (off := 0) (cs := [(vi 7), (vi 1), (.buf (b2 + 2) 1 1), .nils]) H 4 rfl rfl rfl rfl rfl rfl rfl nofun rfl ?_
 refine Ops.buildA (cs := [(vi 1), (vi 0), (vb true), (vb false)]) rfl rfl ?_
 obtain ⟨x1, q1, h⟩ := bind_some h
 refine Ops.callX (xs := [(.agg [(vi 7), (vi 1), (.buf (b2 + 2) 1 1), .nils]), (.agg [(vi 1), (vi 0), (vb true), (vb false)])]) (ys := [(.agg (vs (Form.cs (Form.mk 7 1 [[(Span.mk 0 6)]] [])))), (.agg (vs (Range.cs (Range.mk 1 0 true false))))]) H rfl (.cons (.a (.cons (.v _) (.cons (.v _) (.cons (.s 5 rfl) (.cons (.n) .nil))))) (.cons (.p rfl) .nil)) (carry_Ticks_fn q1) rfl rfl nofun rfl ?_; intro σ H
 refine Ops.move (v := (.tup [(.agg [(.v (.int .i8 x1.1.Inf)), (vi x1.1.N)]), (.agg [(.v (.int .i8 x1.2.Inf)), (vi x1.2.N)])])) rfl rfl ?_
 refine Ops.extract (v := (.agg [(.v (.int .i8 x1.1.Inf)), (vi x1.1.N)])) rfl rfl rfl ?_
 refine Ops.extract (v := (.agg [(.v (.int .i8 x1.2.Inf)), (vi x1.2.N)])) rfl rfl rfl ?_
 refine Ops.allocH (cs := [(.v (.int .i8 0)), (vi 0)]) H (by omega) (by omega) rfl rfl ?_; intro σ H
 refine Ops.allocH (cs := [(.v (.int .i8 0)), (vi 0)]) H (by omega) (by omega) rfl rfl ?_; intro σ H
 refine Ops.storeH (off := 0) (v := (.agg [(.v (.int .i8 x1.1.Inf)), (vi x1.1.N)])) (ys := [(.v (.int .i8 x1.1.Inf)), (vi x1.1.N)]) (cells' := [(.v (.int .i8 x1.1.Inf)), (vi x1.1.N)]) H 1 rfl rfl rfl rfl rfl rfl rfl rfl rfl nofun ?_; intro σ H
 refine Ops.storeH (off := 0) (v := (.agg [(.v (.int .i8 x1.2.Inf)), (vi x1.2.N)])) (ys := [(.v (.int .i8 x1.2.Inf)), (vi x1.2.N)]) (cells' := [(.v (.int .i8 x1.2.Inf)), (vi x1.2.N)]) H 0 rfl rfl rfl rfl rfl rfl rfl rfl rfl nofun ?_; intro σ H
 apply Ops.nil
 replace H := H.all
 apply Runs.then
 apply Runs.then
 refine Runs.drawnH 32 rfl (by kernel_rfl) H ?_; intro b6 σ H B6
 refine Ops.loadHA (off := 0) (cs := [(vi 7), (vi 1), (.buf (b2 + 2) 1 1), .nils]) H 6 rfl rfl rfl rfl rfl rfl rfl (fun _ => .inl ⟨B6 6 _ rfl _ rfl, nofun⟩) rfl ?_
 obtain ⟨x2, q2, h⟩ := bind_some h
 refine Ops.callX (xs := [(.agg [(vi 7), (vi 1), (.buf (b2 + 2) 1 1), .nils]), (vi 1)]) (ys := [(.agg (vs (Form.cs (Form.mk 7 1 [[(Span.mk 0 6)]] [])))), (vi 1)]) H rfl (.cons (.a (.cons (.v _) (.cons (.v _) (.cons (.s 7 rfl) (.cons (.n) .nil))))) (.cons (.c (.v _)) .nil)) (carry_Low_fn q2) rfl rfl (fun _ => by kernel_rfl) rfl ?_; intro σ H
 refine Ops.call (ys := [(vi 1)]) (r := (.agg [(.v (.int .i8 (epactlaw25_number 1).Inf)), (vi (epactlaw25_number 1).N)])) rfl (epactlaw25_number_fn rfl) rfl ?_
 refine Ops.binA (u := (.agg [(.v (.int .i8 x2.Inf)), (vi x2.N)])) (w := (.agg [(.v (.int .i8 (epactlaw25_number 1).Inf)), (vi (epactlaw25_number 1).N)])) (r := .bool (!((x2.Inf == ((epactlaw25_number 1).Inf)) && ((x2.N == ((epactlaw25_number 1).N)) && true)))) rfl rfl (by kernel_rfl) (fun _ => ask_eqA rfl rfl rfl rfl) rfl ?_
 refine Ops.move (v := (vb (!((x2.Inf == ((epactlaw25_number 1).Inf)) && ((x2.N == ((epactlaw25_number 1).N)) && true))))) rfl rfl ?_
 obtain ⟨y1, hj1, h⟩ := bind_some h
 refine Ops.mid 5 (K1 := fun e σ => EnvHas e [(31, (vb y1)), (1, (.ptr (b2 + 4) 4 0)), (2, (.ptr (b3 + 1) 4 0)), (3, (.ptr (b4 + 5) 4 0)), (4, (.ptr (b5 + 6) 2 0)), (5, (.ptr (b5 + 7) 2 0))] ∧ Has σ (b6 + 10) (b6 + 32) [.blk (b5 + 7) 32 [(.v (.int .i8 x1.2.Inf)), (vi x1.2.N)], .blk (b5 + 6) 32 [(.v (.int .i8 x1.1.Inf)), (vi x1.1.N)], .blk (b4 + 5) 25 [(vi 0), (vi 0), .nils, (.buf (b4 + 3) 1 2)], .sl (.buf (b4 + 3) 1 2) 76 2 ([(Granule.mk 3 [(Span.mk 5 6)])].map Granule.cs) true, .blk (b3 + 1) 25 [(vi epactlaw05_Weeks.Period), (vi epactlaw05_Weeks.Count), (vl (cL Span.cs) epactlaw05_Weeks.Core), (vl Granule.cs epactlaw05_Weeks.Odd)], .blk (b2 + 4) 25 [(vi 7), (vi 1), (.buf (b2 + 2) 1 1), .nils], .sl (.buf (b2 + 2) 1 1) 41 1 ([[(Span.mk 0 6)]].map (cL Span.cs)) false]) rfl ?_ ?_
 ·refine Ops.split rfl rfl ?_ ?_ <;> intro hc1
  ·replace h := cond_T hc1 hj1
   refine Ops.pass rfl rfl rfl ?_
   refine Ops.pass rfl rfl rfl ?_
   refine Ops.pass rfl rfl rfl ?_
   refine Ops.pass rfl rfl rfl ?_
   refine Ops.pickT (v := (vb true)) rfl rfl rfl ?_
   apply Ops.nil
   replace h := Option.some.inj h; subst h
   exact ⟨⟨rfl, rfl, rfl, rfl, rfl, rfl, trivial⟩, ((H.erase 8).erase 4).weak (by omega) (Nat.le_refl _)⟩
  ·replace h := cond_F hc1 hj1
   refine Ops.wanted rfl rfl ?_
   refine Ops.loadHA (off := 0) (cs := [(vi 7), (vi 1), (.buf (b2 + 2) 1 1), .nils]) H 6 rfl rfl rfl rfl rfl rfl rfl (fun _ => .inl ⟨B6 6 _ rfl _ rfl, nofun⟩) rfl ?_
   refine Ops.wanted rfl rfl ?_
   obtain ⟨x3, q3, h⟩ := bind_some h
   refine Ops.callX (xs := [(.agg [(vi 7), (vi 1), (.buf (b2 + 2) 1 1), .nils]), (vi 0)]) (ys := [(.agg (vs (Form.cs (Form.mk 7 1 [[(Span.mk 0 6)]] [])))), (vi 0)]) H rfl (.cons (.a (.cons (.v _) (.cons (.v _) (.cons (.s 7 rfl) (.cons (.n) .nil))))) (.cons (.c (.v _)) .nil)) (carry_Low_fn q3) rfl rfl (fun _ => by kernel_rfl) rfl ?_; intro σ H
   refine Ops.wanted rfl rfl ?_
   refine Ops.call (ys := [(vi (-6))]) (r := (.agg [(.v (.int .i8 (epactlaw25_number (-6)).Inf)), (vi (epactlaw25_number (-6)).N)])) rfl (epactlaw25_number_fn rfl) rfl ?_
   refine Ops.wanted rfl rfl ?_
   refine Ops.binA (u := (.agg [(.v (.int .i8 x3.Inf)), (vi x3.N)])) (w := (.agg [(.v (.int .i8 (epactlaw25_number (-6)).Inf)), (vi (epactlaw25_number (-6)).N)])) (r := .bool (!((x3.Inf == ((epactlaw25_number (-6)).Inf)) && ((x3.N == ((epactlaw25_number (-6)).N)) && true)))) rfl rfl (by kernel_rfl) (fun _ => ask_eqA rfl rfl rfl rfl) rfl ?_
   refine Ops.pickF (v := (vb (!((x3.Inf == ((epactlaw25_number (-6)).Inf)) && ((x3.N == ((epactlaw25_number (-6)).N)) && true))))) rfl rfl rfl ?_
   apply Ops.nil
   replace h := Option.some.inj h; subst h
   exact ⟨⟨rfl, rfl, rfl, rfl, rfl, rfl, trivial⟩, ((H.erase 8).erase 4).weak (by omega) (Nat.le_refl _)⟩
 ·rintro e σ ⟨he, H⟩
  obtain ⟨e, rfl⟩ := he.ex
  refine Ops.move (v := (vb y1)) rfl rfl ?_
  obtain ⟨y2, hj2, h⟩ := bind_some h
  refine Ops.mid 5 (K1 := fun e σ => EnvHas e [(37, (vb y2)), (1, (.ptr (b2 + 4) 4 0)), (2, (.ptr (b3 + 1) 4 0)), (3, (.ptr (b4 + 5) 4 0)), (4, (.ptr (b5 + 6) 2 0)), (5, (.ptr (b5 + 7) 2 0))] ∧ Has σ (b6 + 16) (b6 + 32) [.blk (b5 + 7) 32 [(.v (.int .i8 x1.2.Inf)), (vi x1.2.N)], .blk (b5 + 6) 32 [(.v (.int .i8 x1.1.Inf)), (vi x1.1.N)], .blk (b4 + 5) 25 [(vi 0), (vi 0), .nils, (.buf (b4 + 3) 1 2)], .sl (.buf (b4 + 3) 1 2) 76 2 ([(Granule.mk 3 [(Span.mk 5 6)])].map Granule.cs) true, .blk (b3 + 1) 25 [(vi epactlaw05_Weeks.Period), (vi epactlaw05_Weeks.Count), (vl (cL Span.cs) epactlaw05_Weeks.Core), (vl Granule.cs epactlaw05_Weeks.Odd)], .blk (b2 + 4) 25 [(vi 7), (vi 1), (.buf (b2 + 2) 1 1), .nils], .sl (.buf (b2 + 2) 1 1) 41 1 ([[(Span.mk 0 6)]].map (cL Span.cs)) false]) rfl ?_ ?_
  ·refine Ops.split rfl rfl ?_ ?_ <;> intro hc2
   ·replace h := cond_T hc2 hj2
    refine Ops.pass rfl rfl rfl ?_
    refine Ops.pass rfl rfl rfl ?_
    refine Ops.pass rfl rfl rfl ?_
    refine Ops.pass rfl rfl rfl ?_
    refine Ops.pickT (v := (vb true)) rfl rfl rfl ?_
    apply Ops.nil
    replace h := Option.some.inj h; subst h
    exact ⟨⟨rfl, rfl, rfl, rfl, rfl, rfl, trivial⟩, H.weak (by omega) (Nat.le_refl _)⟩
   ·replace h := cond_F hc2 hj2
    refine Ops.wanted rfl rfl ?_
    refine Ops.loadHA (off := 0) (cs := [(vi 7), (vi 1), (.buf (b2 + 2) 1 1), .nils]) H 5 rfl rfl rfl rfl rfl rfl rfl (fun _ => .inl ⟨B6 6 _ rfl _ rfl, nofun⟩) rfl ?_
    refine Ops.wanted rfl rfl ?_
    obtain ⟨x4, q4, h⟩ := bind_some h
    refine Ops.callX (xs := [(.agg [(vi 7), (vi 1), (.buf (b2 + 2) 1 1), .nils]), (vi 1)]) (ys := [(.agg (vs (Form.cs (Form.mk 7 1 [[(Span.mk 0 6)]] [])))), (vi 1)]) H rfl (.cons (.a (.cons (.v _) (.cons (.v _) (.cons (.s 6 rfl) (.cons (.n) .nil))))) (.cons (.c (.v _)) .nil)) (carry_High_fn q4) rfl rfl (fun _ => by kernel_rfl) rfl ?_; intro σ H
    refine Ops.wanted rfl rfl ?_
    refine Ops.call (ys := [(vi 13)]) (r := (.agg [(.v (.int .i8 (epactlaw25_number 13).Inf)), (vi (epactlaw25_number 13).N)])) rfl (epactlaw25_number_fn rfl) rfl ?_
    refine Ops.wanted rfl rfl ?_
    refine Ops.binA (u := (.agg [(.v (.int .i8 x4.Inf)), (vi x4.N)])) (w := (.agg [(.v (.int .i8 (epactlaw25_number 13).Inf)), (vi (epactlaw25_number 13).N)])) (r := .bool (!((x4.Inf == ((epactlaw25_number 13).Inf)) && ((x4.N == ((epactlaw25_number 13).N)) && true)))) rfl rfl (by kernel_rfl) (fun _ => ask_eqA rfl rfl rfl rfl) rfl ?_
    refine Ops.pickF (v := (vb (!((x4.Inf == ((epactlaw25_number 13).Inf)) && ((x4.N == ((epactlaw25_number 13).N)) && true))))) rfl rfl rfl ?_
    apply Ops.nil
    replace h := Option.some.inj h; subst h
    exact ⟨⟨rfl, rfl, rfl, rfl, rfl, rfl, trivial⟩, H.weak (by omega) (Nat.le_refl _)⟩
  ·rintro e σ ⟨he, H⟩
   obtain ⟨e, rfl⟩ := he.ex
   refine Ops.move (v := (vb y2)) rfl rfl ?_
   obtain ⟨y3, hj3, h⟩ := bind_some h
   refine Ops.mid 5 (K1 := fun e σ => EnvHas e [(43, (vb y3)), (1, (.ptr (b2 + 4) 4 0)), (2, (.ptr (b3 + 1) 4 0)), (3, (.ptr (b4 + 5) 4 0)), (4, (.ptr (b5 + 6) 2 0)), (5, (.ptr (b5 + 7) 2 0))] ∧ Has σ (b6 + 22) (b6 + 32) [.blk (b5 + 7) 32 [(.v (.int .i8 x1.2.Inf)), (vi x1.2.N)], .blk (b5 + 6) 32 [(.v (.int .i8 x1.1.Inf)), (vi x1.1.N)], .blk (b4 + 5) 25 [(vi 0), (vi 0), .nils, (.buf (b4 + 3) 1 2)], .sl (.buf (b4 + 3) 1 2) 76 2 ([(Granule.mk 3 [(Span.mk 5 6)])].map Granule.cs) true, .blk (b3 + 1) 25 [(vi epactlaw05_Weeks.Period), (vi epactlaw05_Weeks.Count), (vl (cL Span.cs) epactlaw05_Weeks.Core), (vl Granule.cs epactlaw05_Weeks.Odd)], .blk (b2 + 4) 25 [(vi 7), (vi 1), (.buf (b2 + 2) 1 1), .nils], .sl (.buf (b2 + 2) 1 1) 41 1 ([[(Span.mk 0 6)]].map (cL Span.cs)) false]) rfl ?_ ?_
   ·refine Ops.split rfl rfl ?_ ?_ <;> intro hc3
    ·replace h := cond_T hc3 hj3
     refine Ops.pass rfl rfl rfl ?_
     refine Ops.pass rfl rfl rfl ?_
     refine Ops.pass rfl rfl rfl ?_
     refine Ops.pass rfl rfl rfl ?_
     refine Ops.pickT (v := (vb true)) rfl rfl rfl ?_
     apply Ops.nil
     replace h := Option.some.inj h; subst h
     exact ⟨⟨rfl, rfl, rfl, rfl, rfl, rfl, trivial⟩, H.weak (by omega) (Nat.le_refl _)⟩
    ·replace h := cond_F hc3 hj3
     refine Ops.wanted rfl rfl ?_
     refine Ops.loadHA (off := 0) (cs := [(vi 7), (vi 1), (.buf (b2 + 2) 1 1), .nils]) H 5 rfl rfl rfl rfl rfl rfl rfl (fun _ => .inl ⟨B6 6 _ rfl _ rfl, nofun⟩) rfl ?_
     refine Ops.wanted rfl rfl ?_
     obtain ⟨x5, q5, h⟩ := bind_some h
     refine Ops.callX (xs := [(.agg [(vi 7), (vi 1), (.buf (b2 + 2) 1 1), .nils]), (vi 0)]) (ys := [(.agg (vs (Form.cs (Form.mk 7 1 [[(Span.mk 0 6)]] [])))), (vi 0)]) H rfl (.cons (.a (.cons (.v _) (.cons (.v _) (.cons (.s 6 rfl) (.cons (.n) .nil))))) (.cons (.c (.v _)) .nil)) (carry_High_fn q5) rfl rfl (fun _ => by kernel_rfl) rfl ?_; intro σ H
     refine Ops.wanted rfl rfl ?_
     refine Ops.call (ys := [(vi 6)]) (r := (.agg [(.v (.int .i8 (epactlaw25_number 6).Inf)), (vi (epactlaw25_number 6).N)])) rfl (epactlaw25_number_fn rfl) rfl ?_
     refine Ops.wanted rfl rfl ?_
     refine Ops.binA (u := (.agg [(.v (.int .i8 x5.Inf)), (vi x5.N)])) (w := (.agg [(.v (.int .i8 (epactlaw25_number 6).Inf)), (vi (epactlaw25_number 6).N)])) (r := .bool (!((x5.Inf == ((epactlaw25_number 6).Inf)) && ((x5.N == ((epactlaw25_number 6).N)) && true)))) rfl rfl (by kernel_rfl) (fun _ => ask_eqA rfl rfl rfl rfl) rfl ?_
     refine Ops.pickF (v := (vb (!((x5.Inf == ((epactlaw25_number 6).Inf)) && ((x5.N == ((epactlaw25_number 6).N)) && true))))) rfl rfl rfl ?_
     apply Ops.nil
     replace h := Option.some.inj h; subst h
     exact ⟨⟨rfl, rfl, rfl, rfl, rfl, rfl, trivial⟩, H.weak (by omega) (Nat.le_refl _)⟩
   ·rintro e σ ⟨he, H⟩
    obtain ⟨e, rfl⟩ := he.ex
    refine Ops.move (v := (vb y3)) rfl rfl ?_
    refine Ops.mid 4 (K1 := fun e σ => EnvHas e [(48, (vb (y3 || (!((x1.1.Inf == ((epactlaw25_number 1).Inf)) && ((x1.1.N == ((epactlaw25_number 1).N)) && true)))))), (1, (.ptr (b2 + 4) 4 0)), (2, (.ptr (b3 + 1) 4 0)), (3, (.ptr (b4 + 5) 4 0)), (5, (.ptr (b5 + 7) 2 0))] ∧ Has σ (b6 + 27) (b6 + 32) [.blk (b5 + 7) 32 [(.v (.int .i8 x1.2.Inf)), (vi x1.2.N)], .blk (b4 + 5) 25 [(vi 0), (vi 0), .nils, (.buf (b4 + 3) 1 2)], .sl (.buf (b4 + 3) 1 2) 76 2 ([(Granule.mk 3 [(Span.mk 5 6)])].map Granule.cs) true, .blk (b3 + 1) 25 [(vi epactlaw05_Weeks.Period), (vi epactlaw05_Weeks.Count), (vl (cL Span.cs) epactlaw05_Weeks.Core), (vl Granule.cs epactlaw05_Weeks.Odd)], .blk (b2 + 4) 25 [(vi 7), (vi 1), (.buf (b2 + 2) 1 1), .nils], .sl (.buf (b2 + 2) 1 1) 41 1 ([[(Span.mk 0 6)]].map (cL Span.cs)) false]) rfl ?_ ?_
    ·refine Ops.split rfl rfl ?_ ?_ <;> intro hc4
     ·skip
      refine Ops.pass rfl rfl rfl ?_
      refine Ops.pass rfl rfl rfl ?_
      refine Ops.pass rfl rfl rfl ?_
      refine Ops.pickT (v := (vb true)) rfl rfl rfl ?_
      apply Ops.nil
      exact ⟨⟨or_T hc4, rfl, rfl, rfl, rfl, trivial⟩, (H.erase 1).weak (by omega) (Nat.le_refl _)⟩
     ·skip
      refine Ops.wanted rfl rfl ?_
      refine Ops.loadHA (off := 0) (cs := [(.v (.int .i8 x1.1.Inf)), (vi x1.1.N)]) H 1 rfl rfl rfl rfl rfl rfl rfl (fun _ => .inl ⟨B6 1 _ rfl _ rfl, nofun⟩) rfl ?_
      refine Ops.wanted rfl rfl ?_
      refine Ops.call (ys := [(vi 1)]) (r := (.agg [(.v (.int .i8 (epactlaw25_number 1).Inf)), (vi (epactlaw25_number 1).N)])) rfl (epactlaw25_number_fn rfl) rfl ?_
      refine Ops.wanted rfl rfl ?_
      refine Ops.binA (u := (.agg [(.v (.int .i8 x1.1.Inf)), (vi x1.1.N)])) (w := (.agg [(.v (.int .i8 (epactlaw25_number 1).Inf)), (vi (epactlaw25_number 1).N)])) (r := .bool (!((x1.1.Inf == ((epactlaw25_number 1).Inf)) && ((x1.1.N == ((epactlaw25_number 1).N)) && true)))) rfl rfl (by kernel_rfl) (fun _ => ask_eqA rfl rfl rfl rfl) rfl ?_
      refine Ops.pickF (v := (vb (!((x1.1.Inf == ((epactlaw25_number 1).Inf)) && ((x1.1.N == ((epactlaw25_number 1).N)) && true))))) rfl rfl rfl ?_
      apply Ops.nil
      exact ⟨⟨or_F hc4, rfl, rfl, rfl, rfl, trivial⟩, (H.erase 1).weak (by omega) (Nat.le_refl _)⟩
    ·rintro e σ ⟨he, H⟩
     obtain ⟨e, rfl⟩ := he.ex
     refine Ops.move (v := (vb (y3 || (!((x1.1.Inf == ((epactlaw25_number 1).Inf)) && ((x1.1.N == ((epactlaw25_number 1).N)) && true)))))) rfl rfl ?_
     refine Ops.mid 4 (K1 := fun e σ => EnvHas e [(53, (vb ((y3 || (!((x1.1.Inf == ((epactlaw25_number 1).Inf)) && ((x1.1.N == ((epactlaw25_number 1).N)) && true)))) || (!((x1.2.Inf == 1) && ((x1.2.N == 0) && true)))))), (1, (.ptr (b2 + 4) 4 0)), (2, (.ptr (b3 + 1) 4 0)), (3, (.ptr (b4 + 5) 4 0))] ∧ Has σ (b6 + 32) (b6 + 32) [.blk (b4 + 5) 25 [(vi 0), (vi 0), .nils, (.buf (b4 + 3) 1 2)], .sl (.buf (b4 + 3) 1 2) 76 2 ([(Granule.mk 3 [(Span.mk 5 6)])].map Granule.cs) true, .blk (b3 + 1) 25 [(vi epactlaw05_Weeks.Period), (vi epactlaw05_Weeks.Count), (vl (cL Span.cs) epactlaw05_Weeks.Core), (vl Granule.cs epactlaw05_Weeks.Odd)], .blk (b2 + 4) 25 [(vi 7), (vi 1), (.buf (b2 + 2) 1 1), .nils], .sl (.buf (b2 + 2) 1 1) 41 1 ([[(Span.mk 0 6)]].map (cL Span.cs)) false]) rfl ?_ ?_
     ·refine Ops.split rfl rfl ?_ ?_ <;> intro hc5
      ·skip
       refine Ops.pass rfl rfl rfl ?_
       refine Ops.pass rfl rfl rfl ?_
       refine Ops.pass rfl rfl rfl ?_
       refine Ops.pickT (v := (vb true)) rfl rfl rfl ?_
       apply Ops.nil
       exact ⟨⟨or_T hc5, rfl, rfl, rfl, trivial⟩, (H.erase 0).weak (by omega) (Nat.le_refl _)⟩
      ·skip
       refine Ops.wanted rfl rfl ?_
       refine Ops.loadHA (off := 0) (cs := [(.v (.int .i8 x1.2.Inf)), (vi x1.2.N)]) H 0 rfl rfl rfl rfl rfl rfl rfl (fun _ => .inl ⟨B6 0 _ rfl _ rfl, nofun⟩) rfl ?_
       refine Ops.wanted rfl rfl ?_
       refine Ops.buildA (cs := [(.v (.int .i8 1)), (vi 0)]) rfl rfl ?_
       refine Ops.wanted rfl rfl ?_
       refine Ops.binA (u := (.agg [(.v (.int .i8 x1.2.Inf)), (vi x1.2.N)])) (w := (.agg [(.v (.int .i8 1)), (vi 0)])) (r := .bool (!((x1.2.Inf == 1) && ((x1.2.N == 0) && true)))) rfl rfl (by kernel_rfl) (fun _ => ask_eqA rfl rfl rfl rfl) rfl ?_
       refine Ops.pickF (v := (vb (!((x1.2.Inf == 1) && ((x1.2.N == 0) && true))))) rfl rfl rfl ?_
       apply Ops.nil
       exact ⟨⟨or_F hc5, rfl, rfl, rfl, trivial⟩, (H.erase 0).weak (by omega) (Nat.le_refl _)⟩
     ·rintro e σ ⟨he, H⟩
      obtain ⟨e, rfl⟩ := he.ex
      apply Ops.nil
      replace H := H.all
      refine Runs.whether (v := ((y3 || (!((x1.1.Inf == ((epactlaw25_number 1).Inf)) && ((x1.1.N == ((epactlaw25_number 1).N)) && true)))) || (!((x1.2.Inf == 1) && ((x1.2.N == 0) && true))))) rfl ?_ ?_ <;> intro hc6
      ·replace h := cond_T hc6 h
       apply Runs.then
       refine Runs.regionH 1 rfl H ?_; intro b7 σ H
       refine Ops.assign (v := (vb false)) rfl rfl ?_
       apply Ops.nil
       replace H := H.all
       apply Runs.ret
       replace h := Option.some.inj h; subst h
       exact (Ends.H (xs := [(vb false)]) (.inr rfl) H (.tmp (v := (vb false)) rfl .nil) (.one (.c (.v _))))
      ·replace h := cond_F hc6 h
       apply Runs.skip
       apply Runs.then
       refine Runs.drawnH 37 rfl (by kernel_rfl) H ?_; intro b8 σ H B8
       refine Ops.loadHA (off := 0) (cs := [(vi 7), (vi 1), (.buf (b2 + 2) 1 1), .nils]) H 3 rfl rfl rfl rfl rfl rfl rfl (fun _ => .inl ⟨B8 3 _ rfl _ rfl, nofun⟩) rfl ?_
       refine Ops.call (ys := [(vi 0), (vi 1)]) (r := (.agg [(vi (epactlaw25_scope 0 1).Low), (vi (epactlaw25_scope 0 1).High), (vb (epactlaw25_scope 0 1).HasLow), (vb (epactlaw25_scope 0 1).HasHigh)])) rfl (epactlaw25_scope_fn rfl) rfl ?_
       obtain ⟨x6, q6, h⟩ := bind_some h
       refine Ops.callX (xs := [(.agg [(vi 7), (vi 1), (.buf (b2 + 2) 1 1), .nils]), (vi 1), (vi 6), (.agg [(vi (epactlaw25_scope 0 1).Low), (vi (epactlaw25_scope 0 1).High), (vb (epactlaw25_scope 0 1).HasLow), (vb (epactlaw25_scope 0 1).HasHigh)])]) (ys := [(.agg (vs (Form.cs (Form.mk 7 1 [[(Span.mk 0 6)]] [])))), (vi 1), (vi 6), (.agg (vs (Range.cs (epactlaw25_scope 0 1))))]) H rfl (.cons (.a (.cons (.v _) (.cons (.v _) (.cons (.s 4 rfl) (.cons (.n) .nil))))) (.cons (.c (.v _)) (.cons (.c (.v _)) (.cons (.p rfl) .nil)))) (epactlaw25_ranged_fn q6) rfl rfl (fun _ => by kernel_rfl) rfl ?_; intro σ H
       refine Ops.move (v := (vb x6)) rfl rfl ?_
       obtain ⟨y4, hj4, h⟩ := bind_some h
       refine Ops.mid 4 (K1 := fun e σ => EnvHas e [(61, (vb y4)), (1, (.ptr (b2 + 4) 4 0)), (2, (.ptr (b3 + 1) 4 0)), (3, (.ptr (b4 + 5) 4 0))] ∧ Has σ (b8 + 8) (b8 + 37) [.blk (b4 + 5) 25 [(vi 0), (vi 0), .nils, (.buf (b4 + 3) 1 2)], .sl (.buf (b4 + 3) 1 2) 76 2 ([(Granule.mk 3 [(Span.mk 5 6)])].map Granule.cs) true, .blk (b3 + 1) 25 [(vi epactlaw05_Weeks.Period), (vi epactlaw05_Weeks.Count), (vl (cL Span.cs) epactlaw05_Weeks.Core), (vl Granule.cs epactlaw05_Weeks.Odd)], .blk (b2 + 4) 25 [(vi 7), (vi 1), (.buf (b2 + 2) 1 1), .nils], .sl (.buf (b2 + 2) 1 1) 41 1 ([[(Span.mk 0 6)]].map (cL Span.cs)) false]) rfl ?_ ?_
       ·refine Ops.split rfl rfl ?_ ?_ <;> intro hc7
        ·replace h := cond_T hc7 hj4
         refine Ops.wanted rfl rfl ?_
         refine Ops.loadHA (off := 0) (cs := [(vi 7), (vi 1), (.buf (b2 + 2) 1 1), .nils]) H 3 rfl rfl rfl rfl rfl rfl rfl (fun _ => .inl ⟨B8 3 _ rfl _ rfl, nofun⟩) rfl ?_
         refine Ops.wanted rfl rfl ?_
         refine Ops.call (ys := [(vi 1), (vi 2)]) (r := (.agg [(vi (epactlaw25_scope 1 2).Low), (vi (epactlaw25_scope 1 2).High), (vb (epactlaw25_scope 1 2).HasLow), (vb (epactlaw25_scope 1 2).HasHigh)])) rfl (epactlaw25_scope_fn rfl) rfl ?_
         refine Ops.wanted rfl rfl ?_
         obtain ⟨x7, q7, h⟩ := bind_some h
         refine Ops.callX (xs := [(.agg [(vi 7), (vi 1), (.buf (b2 + 2) 1 1), .nils]), (vi 7), (vi 13), (.agg [(vi (epactlaw25_scope 1 2).Low), (vi (epactlaw25_scope 1 2).High), (vb (epactlaw25_scope 1 2).HasLow), (vb (epactlaw25_scope 1 2).HasHigh)])]) (ys := [(.agg (vs (Form.cs (Form.mk 7 1 [[(Span.mk 0 6)]] [])))), (vi 7), (vi 13), (.agg (vs (Range.cs (epactlaw25_scope 1 2))))]) H rfl (.cons (.a (.cons (.v _) (.cons (.v _) (.cons (.s 4 rfl) (.cons (.n) .nil))))) (.cons (.c (.v _)) (.cons (.c (.v _)) (.cons (.p rfl) .nil)))) (epactlaw25_ranged_fn q7) rfl rfl (fun _ => by kernel_rfl) rfl ?_; intro σ H
         refine Ops.pickT (v := (vb x7)) rfl rfl rfl ?_
         apply Ops.nil
         replace h := Option.some.inj h; subst h
         exact ⟨⟨rfl, rfl, rfl, rfl, trivial⟩, H.weak (by omega) (Nat.le_refl _)⟩
        ·replace h := cond_F hc7 hj4
         refine Ops.pass rfl rfl rfl ?_
         refine Ops.pass rfl rfl rfl ?_
         refine Ops.pass rfl rfl rfl ?_
         refine Ops.pickF (v := (vb false)) rfl rfl rfl ?_
         apply Ops.nil
         replace h := Option.some.inj h; subst h
         exact ⟨⟨rfl, rfl, rfl, rfl, trivial⟩, H.weak (by omega) (Nat.le_refl _)⟩
       ·rintro e σ ⟨he, H⟩
        obtain ⟨e, rfl⟩ := he.ex
        refine Ops.move (v := (vb y4)) rfl rfl ?_
        obtain ⟨y5, hj5, h⟩ := bind_some h
        refine Ops.mid 4 (K1 := fun e σ => EnvHas e [(66, (vb y5)), (2, (.ptr (b3 + 1) 4 0)), (3, (.ptr (b4 + 5) 4 0))] ∧ Has σ (b8 + 13) (b8 + 37) [.blk (b4 + 5) 25 [(vi 0), (vi 0), .nils, (.buf (b4 + 3) 1 2)], .sl (.buf (b4 + 3) 1 2) 76 2 ([(Granule.mk 3 [(Span.mk 5 6)])].map Granule.cs) true, .blk (b3 + 1) 25 [(vi epactlaw05_Weeks.Period), (vi epactlaw05_Weeks.Count), (vl (cL Span.cs) epactlaw05_Weeks.Core), (vl Granule.cs epactlaw05_Weeks.Odd)]]) rfl ?_ ?_
        ·refine Ops.split rfl rfl ?_ ?_ <;> intro hc8
         ·replace h := cond_T hc8 hj5
          refine Ops.wanted rfl rfl ?_
          refine Ops.loadHA (off := 0) (cs := [(vi 7), (vi 1), (.buf (b2 + 2) 1 1), .nils]) H 3 rfl rfl rfl rfl rfl rfl rfl (fun _ => .inl ⟨B8 3 _ rfl _ rfl, nofun⟩) rfl ?_
          refine Ops.wanted rfl rfl ?_
          refine Ops.call (ys := [(vi (-1)), (vi 1)]) (r := (.agg [(vi (epactlaw25_scope (-1) 1).Low), (vi (epactlaw25_scope (-1) 1).High), (vb (epactlaw25_scope (-1) 1).HasLow), (vb (epactlaw25_scope (-1) 1).HasHigh)])) rfl (epactlaw25_scope_fn rfl) rfl ?_
          refine Ops.wanted rfl rfl ?_
          obtain ⟨x8, q8, h⟩ := bind_some h
          refine Ops.callX (xs := [(.agg [(vi 7), (vi 1), (.buf (b2 + 2) 1 1), .nils]), (vi (-6)), (vi 6), (.agg [(vi (epactlaw25_scope (-1) 1).Low), (vi (epactlaw25_scope (-1) 1).High), (vb (epactlaw25_scope (-1) 1).HasLow), (vb (epactlaw25_scope (-1) 1).HasHigh)])]) (ys := [(.agg (vs (Form.cs (Form.mk 7 1 [[(Span.mk 0 6)]] [])))), (vi (-6)), (vi 6), (.agg (vs (Range.cs (epactlaw25_scope (-1) 1))))]) H rfl (.cons (.a (.cons (.v _) (.cons (.v _) (.cons (.s 4 rfl) (.cons (.n) .nil))))) (.cons (.c (.v _)) (.cons (.c (.v _)) (.cons (.p rfl) .nil)))) (epactlaw25_ranged_fn q8) rfl rfl (fun _ => by kernel_rfl) rfl ?_; intro σ H
          refine Ops.pickT (v := (vb x8)) rfl rfl rfl ?_
          apply Ops.nil
          replace h := Option.some.inj h; subst h
          exact ⟨⟨rfl, rfl, rfl, trivial⟩, ((H.erase 4).erase 3).weak (by omega) (Nat.le_refl _)⟩
         ·replace h := cond_F hc8 hj5
          refine Ops.pass rfl rfl rfl ?_
          refine Ops.pass rfl rfl rfl ?_
          refine Ops.pass rfl rfl rfl ?_
          refine Ops.pickF (v := (vb false)) rfl rfl rfl ?_
          apply Ops.nil
          replace h := Option.some.inj h; subst h
          exact ⟨⟨rfl, rfl, rfl, trivial⟩, ((H.erase 4).erase 3).weak (by omega) (Nat.le_refl _)⟩
        ·rintro e σ ⟨he, H⟩
         obtain ⟨e, rfl⟩ := he.ex
         refine Ops.move (v := (vb y5)) rfl rfl ?_
         obtain ⟨y6, hj6, h⟩ := bind_some h
         refine Ops.mid 5 (K1 := fun e σ => EnvHas e [(72, (vb y6)), (2, (.ptr (b3 + 1) 4 0)), (3, (.ptr (b4 + 5) 4 0))] ∧ Has σ (b8 + 19) (b8 + 37) [.blk (b4 + 5) 25 [(vi 0), (vi 0), .nils, (.buf (b4 + 3) 1 2)], .sl (.buf (b4 + 3) 1 2) 76 2 ([(Granule.mk 3 [(Span.mk 5 6)])].map Granule.cs) true, .blk (b3 + 1) 25 [(vi epactlaw05_Weeks.Period), (vi epactlaw05_Weeks.Count), (vl (cL Span.cs) epactlaw05_Weeks.Core), (vl Granule.cs epactlaw05_Weeks.Odd)]]) rfl ?_ ?_
         ·refine Ops.split rfl rfl ?_ ?_ <;> intro hc9
          ·replace h := cond_T hc9 hj6
           refine Ops.wanted rfl rfl ?_
           refine Ops.loadHA (off := 0) (cs := [(vi epactlaw05_Weeks.Period), (vi epactlaw05_Weeks.Count), (vl (cL Span.cs) epactlaw05_Weeks.Core), (vl Granule.cs epactlaw05_Weeks.Odd)]) H 2 rfl rfl rfl rfl rfl rfl rfl (fun _ => .inl ⟨B8 2 _ rfl _ rfl, nofun⟩) rfl ?_
           refine Ops.wanted rfl rfl ?_
           obtain ⟨x9, q9, h⟩ := bind_some h
           refine Ops.call (ys := [(.agg [(vi epactlaw05_Weeks.Period), (vi epactlaw05_Weeks.Count), (vl (cL Span.cs) epactlaw05_Weeks.Core), (vl Granule.cs epactlaw05_Weeks.Odd)]), (vi 1)]) (r := (.agg [(.v (.int .i8 x9.Inf)), (vi x9.N)])) rfl (carry_Low_fn q9) rfl ?_
           refine Ops.wanted rfl rfl ?_
           refine Ops.call (ys := [(vi 3)]) (r := (.agg [(.v (.int .i8 (epactlaw25_number 3).Inf)), (vi (epactlaw25_number 3).N)])) rfl (epactlaw25_number_fn rfl) rfl ?_
           refine Ops.wanted rfl rfl ?_
           refine Ops.binA (u := (.agg [(.v (.int .i8 x9.Inf)), (vi x9.N)])) (w := (.agg [(.v (.int .i8 (epactlaw25_number 3).Inf)), (vi (epactlaw25_number 3).N)])) (r := .bool ((x9.Inf == ((epactlaw25_number 3).Inf)) && ((x9.N == ((epactlaw25_number 3).N)) && true))) rfl rfl (by kernel_rfl) (fun _ => ask_eqA rfl rfl rfl rfl) rfl ?_
           refine Ops.pickT (v := (vb ((x9.Inf == ((epactlaw25_number 3).Inf)) && ((x9.N == ((epactlaw25_number 3).N)) && true)))) rfl rfl rfl ?_
           apply Ops.nil
           replace h := Option.some.inj h; subst h
           exact ⟨⟨rfl, rfl, rfl, trivial⟩, H.weak (by omega) (Nat.le_refl _)⟩
          ·replace h := cond_F hc9 hj6
           refine Ops.pass rfl rfl rfl ?_
           refine Ops.pass rfl rfl rfl ?_
           refine Ops.pass rfl rfl rfl ?_
           refine Ops.pass rfl rfl rfl ?_
           refine Ops.pickF (v := (vb false)) rfl rfl rfl ?_
           apply Ops.nil
           replace h := Option.some.inj h; subst h
           exact ⟨⟨rfl, rfl, rfl, trivial⟩, H.weak (by omega) (Nat.le_refl _)⟩
         ·rintro e σ ⟨he, H⟩
          obtain ⟨e, rfl⟩ := he.ex
          refine Ops.move (v := (vb y6)) rfl rfl ?_
          obtain ⟨y7, hj7, h⟩ := bind_some h
          refine Ops.mid 5 (K1 := fun e σ => EnvHas e [(78, (vb y7)), (2, (.ptr (b3 + 1) 4 0)), (3, (.ptr (b4 + 5) 4 0))] ∧ Has σ (b8 + 25) (b8 + 37) [.blk (b4 + 5) 25 [(vi 0), (vi 0), .nils, (.buf (b4 + 3) 1 2)], .sl (.buf (b4 + 3) 1 2) 76 2 ([(Granule.mk 3 [(Span.mk 5 6)])].map Granule.cs) true, .blk (b3 + 1) 25 [(vi epactlaw05_Weeks.Period), (vi epactlaw05_Weeks.Count), (vl (cL Span.cs) epactlaw05_Weeks.Core), (vl Granule.cs epactlaw05_Weeks.Odd)]]) rfl ?_ ?_
          ·refine Ops.split rfl rfl ?_ ?_ <;> intro hc10
           ·replace h := cond_T hc10 hj7
            refine Ops.wanted rfl rfl ?_
            refine Ops.loadHA (off := 0) (cs := [(vi epactlaw05_Weeks.Period), (vi epactlaw05_Weeks.Count), (vl (cL Span.cs) epactlaw05_Weeks.Core), (vl Granule.cs epactlaw05_Weeks.Odd)]) H 2 rfl rfl rfl rfl rfl rfl rfl (fun _ => .inl ⟨B8 2 _ rfl _ rfl, nofun⟩) rfl ?_
            refine Ops.wanted rfl rfl ?_
            obtain ⟨x10, q10, h⟩ := bind_some h
            refine Ops.call (ys := [(.agg [(vi epactlaw05_Weeks.Period), (vi epactlaw05_Weeks.Count), (vl (cL Span.cs) epactlaw05_Weeks.Core), (vl Granule.cs epactlaw05_Weeks.Odd)]), (vi 1)]) (r := (.agg [(.v (.int .i8 x10.Inf)), (vi x10.N)])) rfl (carry_High_fn q10) rfl ?_
            refine Ops.wanted rfl rfl ?_
            refine Ops.call (ys := [(vi 11)]) (r := (.agg [(.v (.int .i8 (epactlaw25_number 11).Inf)), (vi (epactlaw25_number 11).N)])) rfl (epactlaw25_number_fn rfl) rfl ?_
            refine Ops.wanted rfl rfl ?_
            refine Ops.binA (u := (.agg [(.v (.int .i8 x10.Inf)), (vi x10.N)])) (w := (.agg [(.v (.int .i8 (epactlaw25_number 11).Inf)), (vi (epactlaw25_number 11).N)])) (r := .bool ((x10.Inf == ((epactlaw25_number 11).Inf)) && ((x10.N == ((epactlaw25_number 11).N)) && true))) rfl rfl (by kernel_rfl) (fun _ => ask_eqA rfl rfl rfl rfl) rfl ?_
            refine Ops.pickT (v := (vb ((x10.Inf == ((epactlaw25_number 11).Inf)) && ((x10.N == ((epactlaw25_number 11).N)) && true)))) rfl rfl rfl ?_
            apply Ops.nil
            replace h := Option.some.inj h; subst h
            exact ⟨⟨rfl, rfl, rfl, trivial⟩, H.weak (by omega) (Nat.le_refl _)⟩
           ·replace h := cond_F hc10 hj7
            refine Ops.pass rfl rfl rfl ?_
            refine Ops.pass rfl rfl rfl ?_
            refine Ops.pass rfl rfl rfl ?_
            refine Ops.pass rfl rfl rfl ?_
            refine Ops.pickF (v := (vb false)) rfl rfl rfl ?_
            apply Ops.nil
            replace h := Option.some.inj h; subst h
            exact ⟨⟨rfl, rfl, rfl, trivial⟩, H.weak (by omega) (Nat.le_refl _)⟩
          ·rintro e σ ⟨he, H⟩
           obtain ⟨e, rfl⟩ := he.ex
           refine Ops.move (v := (vb y7)) rfl rfl ?_
           obtain ⟨y8, hj8, h⟩ := bind_some h
           refine Ops.mid 4 (K1 := fun e σ => EnvHas e [(83, (vb y8)), (3, (.ptr (b4 + 5) 4 0))] ∧ Has σ (b8 + 30) (b8 + 37) [.blk (b4 + 5) 25 [(vi 0), (vi 0), .nils, (.buf (b4 + 3) 1 2)], .sl (.buf (b4 + 3) 1 2) 76 2 ([(Granule.mk 3 [(Span.mk 5 6)])].map Granule.cs) true]) rfl ?_ ?_
           ·refine Ops.split rfl rfl ?_ ?_ <;> intro hc11
            ·replace h := cond_T hc11 hj8
             refine Ops.wanted rfl rfl ?_
             refine Ops.loadHA (off := 0) (cs := [(vi epactlaw05_Weeks.Period), (vi epactlaw05_Weeks.Count), (vl (cL Span.cs) epactlaw05_Weeks.Core), (vl Granule.cs epactlaw05_Weeks.Odd)]) H 2 rfl rfl rfl rfl rfl rfl rfl (fun _ => .inl ⟨B8 2 _ rfl _ rfl, nofun⟩) rfl ?_
             refine Ops.wanted rfl rfl ?_
             refine Ops.call (ys := [(vi 0), (vi 0)]) (r := (.agg [(vi (epactlaw25_scope 0 0).Low), (vi (epactlaw25_scope 0 0).High), (vb (epactlaw25_scope 0 0).HasLow), (vb (epactlaw25_scope 0 0).HasHigh)])) rfl (epactlaw25_scope_fn rfl) rfl ?_
             refine Ops.wanted rfl rfl ?_
             obtain ⟨x11, q11, h⟩ := bind_some h
             refine Ops.call (ys := [(.agg [(vi epactlaw05_Weeks.Period), (vi epactlaw05_Weeks.Count), (vl (cL Span.cs) epactlaw05_Weeks.Core), (vl Granule.cs epactlaw05_Weeks.Odd)]), (vi 1), (vi 2), (.agg [(vi (epactlaw25_scope 0 0).Low), (vi (epactlaw25_scope 0 0).High), (vb (epactlaw25_scope 0 0).HasLow), (vb (epactlaw25_scope 0 0).HasHigh)])]) (r := (vb x11)) rfl (epactlaw25_ranged_fn q11) rfl ?_
             refine Ops.pickT (v := (vb x11)) rfl rfl rfl ?_
             apply Ops.nil
             replace h := Option.some.inj h; subst h
             exact ⟨⟨rfl, rfl, trivial⟩, (H.erase 2).weak (by omega) (Nat.le_refl _)⟩
            ·replace h := cond_F hc11 hj8
             refine Ops.pass rfl rfl rfl ?_
             refine Ops.pass rfl rfl rfl ?_
             refine Ops.pass rfl rfl rfl ?_
             refine Ops.pickF (v := (vb false)) rfl rfl rfl ?_
             apply Ops.nil
             replace h := Option.some.inj h; subst h
             exact ⟨⟨rfl, rfl, trivial⟩, (H.erase 2).weak (by omega) (Nat.le_refl _)⟩
           ·rintro e σ ⟨he, H⟩
            obtain ⟨e, rfl⟩ := he.ex
            refine Ops.move (v := (vb y8)) rfl rfl ?_
            obtain ⟨y9, hj9, h⟩ := bind_some h
            refine Ops.mid 5 (K1 := fun e σ => EnvHas e [(89, (vb y9))] ∧ Has σ (b8 + 36) (b8 + 37) []) rfl ?_ ?_
            ·refine Ops.split rfl rfl ?_ ?_ <;> intro hc12
             ·replace h := cond_T hc12 hj9
              refine Ops.wanted rfl rfl ?_
              refine Ops.loadHA (off := 0) (cs := [(vi 0), (vi 0), .nils, (.buf (b4 + 3) 1 2)]) H 0 rfl rfl rfl rfl rfl rfl rfl (fun _ => .inl ⟨B8 0 _ rfl _ rfl, nofun⟩) rfl ?_
              refine Ops.wanted rfl rfl ?_
              obtain ⟨x12, q12, h⟩ := bind_some h
              refine Ops.callX (xs := [(.agg [(vi 0), (vi 0), .nils, (.buf (b4 + 3) 1 2)]), (vi 1)]) (ys := [(.agg (vs (Form.cs (Form.mk 0 0 [] [(Granule.mk 3 [(Span.mk 5 6)])])))), (vi 1)]) H rfl (.cons (.a (.cons (.v _) (.cons (.v _) (.cons (.n) (.cons (.s 1 rfl) .nil))))) (.cons (.c (.v _)) .nil)) (carry_Low_fn q12) rfl rfl (fun _ => by kernel_rfl) rfl ?_; intro σ H
              refine Ops.wanted rfl rfl ?_
              refine Ops.call (ys := [(vi 1099511627776)]) (r := (.agg [(.v (.int .i8 (epactlaw25_number 1099511627776).Inf)), (vi (epactlaw25_number 1099511627776).N)])) rfl (epactlaw25_number_fn rfl) rfl ?_
              refine Ops.wanted rfl rfl ?_
              refine Ops.binA (u := (.agg [(.v (.int .i8 x12.Inf)), (vi x12.N)])) (w := (.agg [(.v (.int .i8 (epactlaw25_number 1099511627776).Inf)), (vi (epactlaw25_number 1099511627776).N)])) (r := .bool ((x12.Inf == ((epactlaw25_number 1099511627776).Inf)) && ((x12.N == ((epactlaw25_number 1099511627776).N)) && true))) rfl rfl (by kernel_rfl) (fun _ => ask_eqA rfl rfl rfl rfl) rfl ?_
              refine Ops.pickT (v := (vb ((x12.Inf == ((epactlaw25_number 1099511627776).Inf)) && ((x12.N == ((epactlaw25_number 1099511627776).N)) && true)))) rfl rfl rfl ?_
              apply Ops.nil
              replace h := Option.some.inj h; subst h
              exact ⟨⟨rfl, trivial⟩, ((H.erase 1).erase 0).weak (by omega) (Nat.le_refl _)⟩
             ·replace h := cond_F hc12 hj9
              refine Ops.pass rfl rfl rfl ?_
              refine Ops.pass rfl rfl rfl ?_
              refine Ops.pass rfl rfl rfl ?_
              refine Ops.pass rfl rfl rfl ?_
              refine Ops.pickF (v := (vb false)) rfl rfl rfl ?_
              apply Ops.nil
              replace h := Option.some.inj h; subst h
              exact ⟨⟨rfl, trivial⟩, ((H.erase 1).erase 0).weak (by omega) (Nat.le_refl _)⟩
            ·rintro e σ ⟨he, H⟩
             obtain ⟨e, rfl⟩ := he.ex
             refine Ops.assign (v := (vb y9)) rfl rfl ?_
             apply Ops.nil
             replace H := H.all
             apply Runs.ret
             replace h := Option.some.inj h; subst h
             exact (Ends.H (xs := [(vb y9)]) (.inr rfl) H (.tmp (v := (vb y9)) rfl .nil) (.one (.c (.v _))))

theorem epactlaw25_awake_fn {r : Bool} (h : epactlaw25_awake = r) : Fn CX 13 [] (vb r) := by
 subst h
 exact epactlaw25_awakeO_fn epactlaw25_awakeO_true

set_option maxRecDepth 100000 in
set_option maxHeartbeats 4000000 in
theorem epactlaw25_CarryArgs_fn {f : Form} {low : Bound} {high : Bound} {r : Bool} (h : epactlaw25_CarryArgs f low high = some r) : Fn CX 5 [(.agg (vs (Form.cs f))), (.agg (vs (Bound.cs low))), (.agg (vs (Bound.cs high)))] (vb r) := by
 refine Fn.ends Try.func5 rfl rfl rfl rfl rfl rfl ?_
 have H : Hs (⟨0, fun _ => .none⟩ : Heap) [] := Has.nil (Nat.le_refl _)
 generalize (⟨0, fun _ => .none⟩ : Heap) = σ at H ⊢
 unfold epactlaw25_CarryArgs at h
 apply Runs.then
 refine Runs.regionH 4 rfl H ?_; intro b1 σ H
 refine Ops.boxH (v := (.agg [(vi f.Period), (vi f.Count), (vl (cL Span.cs) f.Core), (vl Granule.cs f.Odd)])) (cs := [(vi f.Period), (vi f.Count), (vl (cL Span.cs) f.Core), (vl Granule.cs f.Odd)]) H (by omega) (by omega) rfl rfl rfl ?_; intro σ H
 refine Ops.boxH (v := (.agg [(.v (.int .i8 low.Inf)), (vi low.N)])) (cs := [(.v (.int .i8 low.Inf)), (vi low.N)]) H (by omega) (by omega) rfl rfl rfl ?_; intro σ H
 refine Ops.boxH (v := (.agg [(.v (.int .i8 high.Inf)), (vi high.N)])) (cs := [(.v (.int .i8 high.Inf)), (vi high.N)]) H (by omega) (by omega) rfl rfl rfl ?_; intro σ H
 refine Ops.assign (v := (vb false)) rfl rfl ?_
 apply Ops.nil
 replace H := H.all
 apply Runs.then
 apply Runs.then
 refine Runs.regionH 3 rfl H ?_; intro b2 σ H
 refine Ops.loadHA (off := 0) (cs := [(vi f.Period), (vi f.Count), (vl (cL Span.cs) f.Core), (vl Granule.cs f.Odd)]) H 2 rfl rfl rfl rfl rfl rfl rfl nofun rfl ?_
 obtain ⟨x1, q1, h⟩ := bind_some h
 refine Ops.call (ys := [(.agg [(vi f.Period), (vi f.Count), (vl (cL Span.cs) f.Core), (vl Granule.cs f.Odd)])]) (r := (vb x1)) rfl (epactlaw25_small_fn q1) rfl ?_
 refine Ops.not (b := x1) rfl rfl ?_
 apply Ops.nil
 replace H := H.all
 refine Runs.whether (v := (!x1)) rfl ?_ ?_ <;> intro hc1
 ·replace h := cond_T hc1 h
  apply Runs.then
  refine Runs.regionH 2 rfl H ?_; intro b3 σ H
  refine Ops.call (ys := []) (r := (vb epactlaw25_awake)) rfl (epactlaw25_awake_fn rfl) rfl ?_
  refine Ops.assign (v := (vb epactlaw25_awake)) rfl rfl ?_
  apply Ops.nil
  replace H := H.all
  apply Runs.ret
  replace h := Option.some.inj h; subst h
  exact (Ends.H (xs := [(vb epactlaw25_awake)]) (.inr rfl) H (.tmp (v := (vb epactlaw25_awake)) rfl .nil) (.one (.c (.v _))))
 ·replace h := cond_F hc1 h
  apply Runs.skip
  apply Runs.then
  refine Runs.regionH 12 rfl H ?_; intro b4 σ H
  refine Ops.loadHA (off := 0) (cs := [(vi f.Period), (vi f.Count), (vl (cL Span.cs) f.Core), (vl Granule.cs f.Odd)]) H 2 rfl rfl rfl rfl rfl rfl rfl nofun rfl ?_
  refine Ops.loadHA (off := 0) (cs := [(.v (.int .i8 low.Inf)), (vi low.N)]) H 1 rfl rfl rfl rfl rfl rfl rfl nofun rfl ?_
  refine Ops.loadHA (off := 0) (cs := [(.v (.int .i8 high.Inf)), (vi high.N)]) H 0 rfl rfl rfl rfl rfl rfl rfl nofun rfl ?_
  obtain ⟨x2, q2, h⟩ := bind_some h
  refine Ops.call (ys := [(.agg [(vi f.Period), (vi f.Count), (vl (cL Span.cs) f.Core), (vl Granule.cs f.Odd)]), (.agg [(.v (.int .i8 low.Inf)), (vi low.N)]), (.agg [(.v (.int .i8 high.Inf)), (vi high.N)])]) (r := (.tup [(.agg [(vi x2.1.Low), (vi x2.1.High), (vb x2.1.HasLow), (vb x2.1.HasHigh)]), (vb x2.2.1), (vi x2.2.2)])) rfl (carry_Range_fn q2) rfl ?_
  refine Ops.move (v := (.tup [(.agg [(vi x2.1.Low), (vi x2.1.High), (vb x2.1.HasLow), (vb x2.1.HasHigh)]), (vb x2.2.1), (vi x2.2.2)])) rfl rfl ?_
  refine Ops.extract (v := (.agg [(vi x2.1.Low), (vi x2.1.High), (vb x2.1.HasLow), (vb x2.1.HasHigh)])) rfl rfl rfl ?_
  refine Ops.extract (v := (vb x2.2.1)) rfl rfl rfl ?_
  refine Ops.extract (v := (vi x2.2.2)) rfl rfl rfl ?_
  refine Ops.allocH (cs := [(vi 0), (vi 0), (vb false), (vb false)]) H (by omega) (by omega) rfl rfl ?_; intro σ H
  refine Ops.storeH (off := 0) (v := (.agg [(vi x2.1.Low), (vi x2.1.High), (vb x2.1.HasLow), (vb x2.1.HasHigh)])) (ys := [(vi x2.1.Low), (vi x2.1.High), (vb x2.1.HasLow), (vb x2.1.HasHigh)]) (cells' := [(vi x2.1.Low), (vi x2.1.High), (vb x2.1.HasLow), (vb x2.1.HasHigh)]) H 0 rfl rfl rfl rfl rfl rfl rfl rfl rfl nofun ?_; intro σ H
  refine Ops.assign (v := (vb x2.2.1)) rfl rfl ?_
  refine Ops.assign (v := (vi x2.2.2)) rfl rfl ?_
  apply Ops.nil
  replace H := H.all
  apply Runs.then
  apply Runs.then
  refine Runs.regionH 18 rfl H ?_; intro b5 σ H
  refine Ops.loadHA (off := 0) (cs := [(.v (.int .i8 low.Inf)), (vi low.N)]) H 2 rfl rfl rfl rfl rfl rfl rfl nofun rfl ?_
  refine Ops.call (ys := [(.agg [(.v (.int .i8 low.Inf)), (vi low.N)])]) (r := (vb (safe_Right low))) rfl (safe_Right_fn rfl) rfl ?_
  refine Ops.not (b := (safe_Right low)) rfl rfl ?_
  refine Ops.move (v := (vb (!(safe_Right low)))) rfl rfl ?_
  refine Ops.mid 4 (K1 := fun e σ => EnvHas e [(32, (vb ((!(safe_Right low)) || (!(safe_Right high))))), (3, (.ptr (b1 + 0) 4 0)), (4, (.ptr (b1 + 1) 2 0)), (5, (.ptr (b1 + 2) 2 0)), (7, (.ptr (b4 + 8) 4 0)), (8, (vb x2.2.1)), (9, (vi x2.2.2))] ∧ Has σ (b5 + 8) (b5 + 18) [.blk (b4 + 8) 27 [(vi x2.1.Low), (vi x2.1.High), (vb x2.1.HasLow), (vb x2.1.HasHigh)], .blk (b1 + 2) 32 [(.v (.int .i8 high.Inf)), (vi high.N)], .blk (b1 + 1) 32 [(.v (.int .i8 low.Inf)), (vi low.N)], .blk (b1 + 0) 25 [(vi f.Period), (vi f.Count), (vl (cL Span.cs) f.Core), (vl Granule.cs f.Odd)]]) rfl ?_ ?_
  ·refine Ops.split rfl rfl ?_ ?_ <;> intro hc2
   ·skip
    refine Ops.pass rfl rfl rfl ?_
    refine Ops.pass rfl rfl rfl ?_
    refine Ops.pass rfl rfl rfl ?_
    refine Ops.pickT (v := (vb true)) rfl rfl rfl ?_
    apply Ops.nil
    exact ⟨⟨or_T hc2, rfl, rfl, rfl, rfl, rfl, rfl, trivial⟩, H.weak (by omega) (Nat.le_refl _)⟩
   ·skip
    refine Ops.wanted rfl rfl ?_
    refine Ops.loadHA (off := 0) (cs := [(.v (.int .i8 high.Inf)), (vi high.N)]) H 1 rfl rfl rfl rfl rfl rfl rfl nofun rfl ?_
    refine Ops.wanted rfl rfl ?_
    refine Ops.call (ys := [(.agg [(.v (.int .i8 high.Inf)), (vi high.N)])]) (r := (vb (safe_Right high))) rfl (safe_Right_fn rfl) rfl ?_
    refine Ops.wanted rfl rfl ?_
    refine Ops.not (b := (safe_Right high)) rfl rfl ?_
    refine Ops.pickF (v := (vb (!(safe_Right high)))) rfl rfl rfl ?_
    apply Ops.nil
    exact ⟨⟨or_F hc2, rfl, rfl, rfl, rfl, rfl, rfl, trivial⟩, H.weak (by omega) (Nat.le_refl _)⟩
  ·rintro e σ ⟨he, H⟩
   obtain ⟨e, rfl⟩ := he.ex
   refine Ops.move (v := (vb ((!(safe_Right low)) || (!(safe_Right high))))) rfl rfl ?_
   refine Ops.mid 4 (K1 := fun e σ => EnvHas e [(37, (vb (((!(safe_Right low)) || (!(safe_Right high))) || (low.Inf == 1)))), (3, (.ptr (b1 + 0) 4 0)), (4, (.ptr (b1 + 1) 2 0)), (5, (.ptr (b1 + 2) 2 0)), (7, (.ptr (b4 + 8) 4 0)), (8, (vb x2.2.1)), (9, (vi x2.2.2))] ∧ Has σ (b5 + 13) (b5 + 18) [.blk (b4 + 8) 27 [(vi x2.1.Low), (vi x2.1.High), (vb x2.1.HasLow), (vb x2.1.HasHigh)], .blk (b1 + 2) 32 [(.v (.int .i8 high.Inf)), (vi high.N)], .blk (b1 + 1) 32 [(.v (.int .i8 low.Inf)), (vi low.N)], .blk (b1 + 0) 25 [(vi f.Period), (vi f.Count), (vl (cL Span.cs) f.Core), (vl Granule.cs f.Odd)]]) rfl ?_ ?_
   ·refine Ops.split rfl rfl ?_ ?_ <;> intro hc3
    ·skip
     refine Ops.pass rfl rfl rfl ?_
     refine Ops.pass rfl rfl rfl ?_
     refine Ops.pass rfl rfl rfl ?_
     refine Ops.pickT (v := (vb true)) rfl rfl rfl ?_
     apply Ops.nil
     exact ⟨⟨or_T hc3, rfl, rfl, rfl, rfl, rfl, rfl, trivial⟩, H.weak (by omega) (Nat.le_refl _)⟩
    ·skip
     refine Ops.wanted rfl rfl ?_
     refine Ops.fieldAddrH (off := 0) (fo := 0) H 2 rfl rfl rfl rfl rfl nofun rfl ?_
     refine Ops.wanted rfl rfl ?_
     refine Ops.loadH (off := 0) (v := (.v (.int .i8 low.Inf))) H 2 rfl rfl rfl rfl rfl nofun rfl ?_
     refine Ops.wanted rfl rfl ?_
     refine Ops.int (m := low.Inf) (m' := 1) (r := .bool (low.Inf == 1)) rfl rfl rfl rfl rfl ?_
     refine Ops.pickF (v := (vb (low.Inf == 1))) rfl rfl rfl ?_
     apply Ops.nil
     exact ⟨⟨or_F hc3, rfl, rfl, rfl, rfl, rfl, rfl, trivial⟩, H.weak (by omega) (Nat.le_refl _)⟩
   ·rintro e σ ⟨he, H⟩
    obtain ⟨e, rfl⟩ := he.ex
    refine Ops.move (v := (vb (((!(safe_Right low)) || (!(safe_Right high))) || (low.Inf == 1)))) rfl rfl ?_
    refine Ops.mid 4 (K1 := fun e σ => EnvHas e [(42, (vb ((((!(safe_Right low)) || (!(safe_Right high))) || (low.Inf == 1)) || (high.Inf == (-1))))), (3, (.ptr (b1 + 0) 4 0)), (4, (.ptr (b1 + 1) 2 0)), (5, (.ptr (b1 + 2) 2 0)), (7, (.ptr (b4 + 8) 4 0)), (8, (vb x2.2.1)), (9, (vi x2.2.2))] ∧ Has σ (b5 + 18) (b5 + 18) [.blk (b4 + 8) 27 [(vi x2.1.Low), (vi x2.1.High), (vb x2.1.HasLow), (vb x2.1.HasHigh)], .blk (b1 + 2) 32 [(.v (.int .i8 high.Inf)), (vi high.N)], .blk (b1 + 1) 32 [(.v (.int .i8 low.Inf)), (vi low.N)], .blk (b1 + 0) 25 [(vi f.Period), (vi f.Count), (vl (cL Span.cs) f.Core), (vl Granule.cs f.Odd)]]) rfl ?_ ?_
    ·refine Ops.split rfl rfl ?_ ?_ <;> intro hc4
     ·skip
      refine Ops.pass rfl rfl rfl ?_
      refine Ops.pass rfl rfl rfl ?_
      refine Ops.pass rfl rfl rfl ?_
      refine Ops.pickT (v := (vb true)) rfl rfl rfl ?_
      apply Ops.nil
      exact ⟨⟨or_T hc4, rfl, rfl, rfl, rfl, rfl, rfl, trivial⟩, H.weak (by omega) (Nat.le_refl _)⟩
     ·skip
      refine Ops.wanted rfl rfl ?_
      refine Ops.fieldAddrH (off := 0) (fo := 0) H 1 rfl rfl rfl rfl rfl nofun rfl ?_
      refine Ops.wanted rfl rfl ?_
      refine Ops.loadH (off := 0) (v := (.v (.int .i8 high.Inf))) H 1 rfl rfl rfl rfl rfl nofun rfl ?_
      refine Ops.wanted rfl rfl ?_
      refine Ops.int (m := high.Inf) (m' := (-1)) (r := .bool (high.Inf == (-1))) rfl rfl rfl rfl rfl ?_
      refine Ops.pickF (v := (vb (high.Inf == (-1)))) rfl rfl rfl ?_
      apply Ops.nil
      exact ⟨⟨or_F hc4, rfl, rfl, rfl, rfl, rfl, rfl, trivial⟩, H.weak (by omega) (Nat.le_refl _)⟩
    ·rintro e σ ⟨he, H⟩
     obtain ⟨e, rfl⟩ := he.ex
     apply Ops.nil
     replace H := H.all
     refine Runs.whether (v := ((((!(safe_Right low)) || (!(safe_Right high))) || (low.Inf == 1)) || (high.Inf == (-1)))) rfl ?_ ?_ <;> intro hc5
     ·replace h := cond_T hc5 h
      apply Runs.then
      refine Runs.regionH 15 rfl H ?_; intro b6 σ H
      refine Ops.move (v := (vi x2.2.2)) rfl rfl ?_
      refine Ops.int (m := x2.2.2) (m' := 2) (r := .bool (x2.2.2 == 2)) rfl rfl rfl rfl rfl ?_
      refine Ops.move (v := (vb (x2.2.2 == 2))) rfl rfl ?_
      refine Ops.mid 3 (K1 := fun e σ => EnvHas e [(48, (vb ((x2.2.2 == 2) && (!x2.2.1)))), (7, (.ptr (b4 + 8) 4 0))] ∧ Has σ (b6 + 6) (b6 + 15) [.blk (b4 + 8) 27 [(vi x2.1.Low), (vi x2.1.High), (vb x2.1.HasLow), (vb x2.1.HasHigh)]]) rfl ?_ ?_
      ·refine Ops.split rfl rfl ?_ ?_ <;> intro hc6
       ·skip
        refine Ops.wanted rfl rfl ?_
        refine Ops.move (v := (vb x2.2.1)) rfl rfl ?_
        refine Ops.wanted rfl rfl ?_
        refine Ops.not (b := x2.2.1) rfl rfl ?_
        refine Ops.pickT (v := (vb (!x2.2.1))) rfl rfl rfl ?_
        apply Ops.nil
        exact ⟨⟨and_T hc6, rfl, trivial⟩, (((H.erase 3).erase 2).erase 1).weak (by omega) (Nat.le_refl _)⟩
       ·skip
        refine Ops.pass rfl rfl rfl ?_
        refine Ops.pass rfl rfl rfl ?_
        refine Ops.pickF (v := (vb false)) rfl rfl rfl ?_
        apply Ops.nil
        exact ⟨⟨and_F hc6, rfl, trivial⟩, (((H.erase 3).erase 2).erase 1).weak (by omega) (Nat.le_refl _)⟩
      ·rintro e σ ⟨he, H⟩
       obtain ⟨e, rfl⟩ := he.ex
       refine Ops.move (v := (vb ((x2.2.2 == 2) && (!x2.2.1)))) rfl rfl ?_
       refine Ops.mid 4 (K1 := fun e σ => EnvHas e [(53, (vb (((x2.2.2 == 2) && (!x2.2.1)) && ((x2.1.Low == 0) && ((x2.1.High == 0) && ((x2.1.HasLow == false) && ((x2.1.HasHigh == false) && true)))))))] ∧ Has σ (b6 + 11) (b6 + 15) []) rfl ?_ ?_
       ·refine Ops.split rfl rfl ?_ ?_ <;> intro hc7
        ·skip
         refine Ops.wanted rfl rfl ?_
         refine Ops.loadHA (off := 0) (cs := [(vi x2.1.Low), (vi x2.1.High), (vb x2.1.HasLow), (vb x2.1.HasHigh)]) H 0 rfl rfl rfl rfl rfl rfl rfl nofun rfl ?_
         refine Ops.wanted rfl rfl ?_
         refine Ops.buildA (cs := [(vi 0), (vi 0), (vb false), (vb false)]) rfl rfl ?_
         refine Ops.wanted rfl rfl ?_
         refine Ops.binA (u := (.agg [(vi x2.1.Low), (vi x2.1.High), (vb x2.1.HasLow), (vb x2.1.HasHigh)])) (w := (.agg [(vi 0), (vi 0), (vb false), (vb false)])) (r := .bool ((x2.1.Low == 0) && ((x2.1.High == 0) && ((x2.1.HasLow == false) && ((x2.1.HasHigh == false) && true))))) rfl rfl (by kernel_rfl) (fun _ => ask_eqA rfl rfl rfl rfl) rfl ?_
         refine Ops.pickT (v := (vb ((x2.1.Low == 0) && ((x2.1.High == 0) && ((x2.1.HasLow == false) && ((x2.1.HasHigh == false) && true)))))) rfl rfl rfl ?_
         apply Ops.nil
         exact ⟨⟨and_T hc7, trivial⟩, (H.erase 0).weak (by omega) (Nat.le_refl _)⟩
        ·skip
         refine Ops.pass rfl rfl rfl ?_
         refine Ops.pass rfl rfl rfl ?_
         refine Ops.pass rfl rfl rfl ?_
         refine Ops.pickF (v := (vb false)) rfl rfl rfl ?_
         apply Ops.nil
         exact ⟨⟨and_F hc7, trivial⟩, (H.erase 0).weak (by omega) (Nat.le_refl _)⟩
       ·rintro e σ ⟨he, H⟩
        obtain ⟨e, rfl⟩ := he.ex
        refine Ops.move (v := (vb (((x2.2.2 == 2) && (!x2.2.1)) && ((x2.1.Low == 0) && ((x2.1.High == 0) && ((x2.1.HasLow == false) && ((x2.1.HasHigh == false) && true))))))) rfl rfl ?_
        refine Ops.mid 2 (K1 := fun e σ => EnvHas e [(56, (vb ((((x2.2.2 == 2) && (!x2.2.1)) && ((x2.1.Low == 0) && ((x2.1.High == 0) && ((x2.1.HasLow == false) && ((x2.1.HasHigh == false) && true))))) && epactlaw25_awake)))] ∧ Has σ (b6 + 14) (b6 + 15) []) rfl ?_ ?_
        ·refine Ops.split rfl rfl ?_ ?_ <;> intro hc8
         ·skip
          refine Ops.wanted rfl rfl ?_
          refine Ops.call (ys := []) (r := (vb epactlaw25_awake)) rfl (epactlaw25_awake_fn rfl) rfl ?_
          refine Ops.pickT (v := (vb epactlaw25_awake)) rfl rfl rfl ?_
          apply Ops.nil
          exact ⟨⟨and_T hc8, trivial⟩, H.weak (by omega) (Nat.le_refl _)⟩
         ·skip
          refine Ops.pass rfl rfl rfl ?_
          refine Ops.pickF (v := (vb false)) rfl rfl rfl ?_
          apply Ops.nil
          exact ⟨⟨and_F hc8, trivial⟩, H.weak (by omega) (Nat.le_refl _)⟩
        ·rintro e σ ⟨he, H⟩
         obtain ⟨e, rfl⟩ := he.ex
         refine Ops.assign (v := (vb ((((x2.2.2 == 2) && (!x2.2.1)) && ((x2.1.Low == 0) && ((x2.1.High == 0) && ((x2.1.HasLow == false) && ((x2.1.HasHigh == false) && true))))) && epactlaw25_awake))) rfl rfl ?_
         apply Ops.nil
         replace H := H.all
         apply Runs.ret
         replace h := Option.some.inj h; subst h
         exact (Ends.H (xs := [(vb ((((x2.2.2 == 2) && (!x2.2.1)) && ((x2.1.Low == 0) && ((x2.1.High == 0) && ((x2.1.HasLow == false) && ((x2.1.HasHigh == false) && true))))) && epactlaw25_awake))]) (.inr rfl) H (.tmp (v := (vb ((((x2.2.2 == 2) && (!x2.2.1)) && ((x2.1.Low == 0) && ((x2.1.High == 0) && ((x2.1.HasLow == false) && ((x2.1.HasHigh == false) && true))))) && epactlaw25_awake))) rfl .nil) (.one (.c (.v _))))
     ·replace h := cond_F hc5 h
      apply Runs.skip
      apply Runs.then
      apply Runs.then
      refine Runs.regionH 20 rfl H ?_; intro b7 σ H
      refine Ops.move (v := (vi x2.2.2)) rfl rfl ?_
      refine Ops.int (m := x2.2.2) (m' := 0) (r := .bool (x2.2.2 != 0)) rfl rfl rfl rfl rfl ?_
      refine Ops.move (v := (vb (x2.2.2 != 0))) rfl rfl ?_
      refine Ops.mid 8 (K1 := fun e σ => EnvHas e [(67, (vb ((x2.2.2 != 0) || ((low.Inf == (-1)) && x2.1.HasLow)))), (3, (.ptr (b1 + 0) 4 0)), (5, (.ptr (b1 + 2) 2 0)), (7, (.ptr (b4 + 8) 4 0))] ∧ Has σ (b7 + 11) (b7 + 20) [.blk (b4 + 8) 27 [(vi x2.1.Low), (vi x2.1.High), (vb x2.1.HasLow), (vb x2.1.HasHigh)], .blk (b1 + 2) 32 [(.v (.int .i8 high.Inf)), (vi high.N)], .blk (b1 + 0) 25 [(vi f.Period), (vi f.Count), (vl (cL Span.cs) f.Core), (vl Granule.cs f.Odd)]]) rfl ?_ ?_
      ·refine Ops.split rfl rfl ?_ ?_ <;> intro hc9
       ·skip
        refine Ops.pass rfl rfl rfl ?_
        refine Ops.pass rfl rfl rfl ?_
        refine Ops.pass rfl rfl rfl ?_
        refine Ops.pass rfl rfl rfl ?_
        refine Ops.passU rfl rfl rfl ?_
        refine Ops.passU rfl rfl rfl ?_
        refine Ops.pass rfl rfl rfl ?_
        refine Ops.pickT (v := (vb true)) rfl rfl rfl ?_
        apply Ops.nil
        exact ⟨⟨or_T hc9, rfl, rfl, rfl, trivial⟩, (H.erase 2).weak (by omega) (Nat.le_refl _)⟩
       ·skip
        refine Ops.wanted rfl rfl ?_
        refine Ops.fieldAddrH (off := 0) (fo := 0) H 2 rfl rfl rfl rfl rfl nofun rfl ?_
        refine Ops.wanted rfl rfl ?_
        refine Ops.loadH (off := 0) (v := (.v (.int .i8 low.Inf))) H 2 rfl rfl rfl rfl rfl nofun rfl ?_
        refine Ops.wanted rfl rfl ?_
        refine Ops.int (m := low.Inf) (m' := (-1)) (r := .bool (low.Inf == (-1))) rfl rfl rfl rfl rfl ?_
        refine Ops.wanted rfl rfl ?_
        refine Ops.move (v := (vb (low.Inf == (-1)))) rfl rfl ?_
        refine Ops.mid 3 (K1 := fun e σ => EnvHas e [(66, (vb ((low.Inf == (-1)) && x2.1.HasLow))), (3, (.ptr (b1 + 0) 4 0)), (5, (.ptr (b1 + 2) 2 0)), (7, (.ptr (b4 + 8) 4 0)), (59, (vb false))] ∧ Has σ (b7 + 10) (b7 + 20) [.blk (b4 + 8) 27 [(vi x2.1.Low), (vi x2.1.High), (vb x2.1.HasLow), (vb x2.1.HasHigh)], .blk (b1 + 2) 32 [(.v (.int .i8 high.Inf)), (vi high.N)], .blk (b1 + 0) 25 [(vi f.Period), (vi f.Count), (vl (cL Span.cs) f.Core), (vl Granule.cs f.Odd)]]) rfl ?_ ?_
        ·refine Ops.split rfl rfl ?_ ?_ <;> intro hc10
         ·skip
          refine Ops.wanted rfl rfl ?_
          refine Ops.fieldAddrH (off := 0) (fo := 2) H 0 rfl rfl rfl rfl rfl nofun rfl ?_
          refine Ops.wanted rfl rfl ?_
          refine Ops.loadH (off := 2) (v := (vb x2.1.HasLow)) H 0 rfl rfl rfl rfl rfl nofun rfl ?_
          refine Ops.wanted rfl rfl ?_
          refine Ops.pickT (v := (vb x2.1.HasLow)) rfl rfl rfl ?_
          apply Ops.nil
          exact ⟨⟨and_T hc10, rfl, rfl, rfl, rfl, trivial⟩, (H.erase 2).weak (by omega) (Nat.le_refl _)⟩
         ·skip
          refine Ops.pass rfl rfl rfl ?_
          refine Ops.pass rfl rfl rfl ?_
          refine Ops.wanted rfl rfl ?_
          refine Ops.pickF (v := (vb false)) rfl rfl rfl ?_
          apply Ops.nil
          exact ⟨⟨and_F hc10, rfl, rfl, rfl, rfl, trivial⟩, (H.erase 2).weak (by omega) (Nat.le_refl _)⟩
        ·rintro e σ ⟨he, H⟩
         obtain ⟨e, rfl⟩ := he.ex
         refine Ops.pickF (v := (vb ((low.Inf == (-1)) && x2.1.HasLow))) rfl rfl rfl ?_
         apply Ops.nil
         exact ⟨⟨or_F hc9, rfl, rfl, rfl, trivial⟩, H.weak (by omega) (Nat.le_refl _)⟩
      ·rintro e σ ⟨he, H⟩
       obtain ⟨e, rfl⟩ := he.ex
       refine Ops.move (v := (vb ((x2.2.2 != 0) || ((low.Inf == (-1)) && x2.1.HasLow)))) rfl rfl ?_
       refine Ops.mid 8 (K1 := fun e σ => EnvHas e [(76, (vb (((x2.2.2 != 0) || ((low.Inf == (-1)) && x2.1.HasLow)) || ((high.Inf == 1) && x2.1.HasHigh)))), (3, (.ptr (b1 + 0) 4 0))] ∧ Has σ (b7 + 20) (b7 + 20) [.blk (b1 + 0) 25 [(vi f.Period), (vi f.Count), (vl (cL Span.cs) f.Core), (vl Granule.cs f.Odd)]]) rfl ?_ ?_
       ·refine Ops.split rfl rfl ?_ ?_ <;> intro hc11
        ·skip
         refine Ops.pass rfl rfl rfl ?_
         refine Ops.pass rfl rfl rfl ?_
         refine Ops.pass rfl rfl rfl ?_
         refine Ops.pass rfl rfl rfl ?_
         refine Ops.passU rfl rfl rfl ?_
         refine Ops.passU rfl rfl rfl ?_
         refine Ops.pass rfl rfl rfl ?_
         refine Ops.pickT (v := (vb true)) rfl rfl rfl ?_
         apply Ops.nil
         exact ⟨⟨or_T hc11, rfl, trivial⟩, ((H.erase 1).erase 0).weak (by omega) (Nat.le_refl _)⟩
        ·skip
         refine Ops.wanted rfl rfl ?_
         refine Ops.fieldAddrH (off := 0) (fo := 0) H 1 rfl rfl rfl rfl rfl nofun rfl ?_
         refine Ops.wanted rfl rfl ?_
         refine Ops.loadH (off := 0) (v := (.v (.int .i8 high.Inf))) H 1 rfl rfl rfl rfl rfl nofun rfl ?_
         refine Ops.wanted rfl rfl ?_
         refine Ops.int (m := high.Inf) (m' := 1) (r := .bool (high.Inf == 1)) rfl rfl rfl rfl rfl ?_
         refine Ops.wanted rfl rfl ?_
         refine Ops.move (v := (vb (high.Inf == 1))) rfl rfl ?_
         refine Ops.mid 3 (K1 := fun e σ => EnvHas e [(75, (vb ((high.Inf == 1) && x2.1.HasHigh))), (3, (.ptr (b1 + 0) 4 0)), (68, (vb false))] ∧ Has σ (b7 + 19) (b7 + 20) [.blk (b1 + 0) 25 [(vi f.Period), (vi f.Count), (vl (cL Span.cs) f.Core), (vl Granule.cs f.Odd)]]) rfl ?_ ?_
         ·refine Ops.split rfl rfl ?_ ?_ <;> intro hc12
          ·skip
           refine Ops.wanted rfl rfl ?_
           refine Ops.fieldAddrH (off := 0) (fo := 3) H 0 rfl rfl rfl rfl rfl nofun rfl ?_
           refine Ops.wanted rfl rfl ?_
           refine Ops.loadH (off := 3) (v := (vb x2.1.HasHigh)) H 0 rfl rfl rfl rfl rfl nofun rfl ?_
           refine Ops.wanted rfl rfl ?_
           refine Ops.pickT (v := (vb x2.1.HasHigh)) rfl rfl rfl ?_
           apply Ops.nil
           exact ⟨⟨and_T hc12, rfl, rfl, trivial⟩, ((H.erase 1).erase 0).weak (by omega) (Nat.le_refl _)⟩
          ·skip
           refine Ops.pass rfl rfl rfl ?_
           refine Ops.pass rfl rfl rfl ?_
           refine Ops.wanted rfl rfl ?_
           refine Ops.pickF (v := (vb false)) rfl rfl rfl ?_
           apply Ops.nil
           exact ⟨⟨and_F hc12, rfl, rfl, trivial⟩, ((H.erase 1).erase 0).weak (by omega) (Nat.le_refl _)⟩
         ·rintro e σ ⟨he, H⟩
          obtain ⟨e, rfl⟩ := he.ex
          refine Ops.pickF (v := (vb ((high.Inf == 1) && x2.1.HasHigh))) rfl rfl rfl ?_
          apply Ops.nil
          exact ⟨⟨or_F hc11, rfl, trivial⟩, H.weak (by omega) (Nat.le_refl _)⟩
       ·rintro e σ ⟨he, H⟩
        obtain ⟨e, rfl⟩ := he.ex
        apply Ops.nil
        replace H := H.all
        refine Runs.whether (v := (((x2.2.2 != 0) || ((low.Inf == (-1)) && x2.1.HasLow)) || ((high.Inf == 1) && x2.1.HasHigh))) rfl ?_ ?_ <;> intro hc13
        ·replace h := cond_T hc13 h
         apply Runs.then
         refine Runs.regionH 1 rfl H ?_; intro b8 σ H
         refine Ops.assign (v := (vb false)) rfl rfl ?_
         apply Ops.nil
         replace H := H.all
         apply Runs.ret
         replace h := Option.some.inj h; subst h
         exact (Ends.H (xs := [(vb false)]) (.inr rfl) H (.tmp (v := (vb false)) rfl .nil) (.one (.c (.v _))))
        ·replace h := cond_F hc13 h
         apply Runs.skip
         apply Runs.then
         refine Runs.regionH 12 rfl H ?_; intro b9 σ H
         refine Ops.loadHA (off := 0) (cs := [(vi f.Period), (vi f.Count), (vl (cL Span.cs) f.Core), (vl Granule.cs f.Odd)]) H 0 rfl rfl rfl rfl rfl rfl rfl nofun rfl ?_
         refine Ops.buildA (cs := [(.v (.int .i8 (-1))), (vi 0)]) rfl rfl ?_
         refine Ops.buildA (cs := [(.v (.int .i8 1)), (vi 0)]) rfl rfl ?_
         obtain ⟨x3, q3, h⟩ := bind_some h
         refine Ops.call (ys := [(.agg [(vi f.Period), (vi f.Count), (vl (cL Span.cs) f.Core), (vl Granule.cs f.Odd)]), (.agg [(.v (.int .i8 (-1))), (vi 0)]), (.agg [(.v (.int .i8 1)), (vi 0)])]) (r := (.tup [(.agg [(vi x3.1.Low), (vi x3.1.High), (vb x3.1.HasLow), (vb x3.1.HasHigh)]), (vb x3.2.1), (vi x3.2.2)])) rfl (carry_Range_fn q3) rfl ?_
         refine Ops.move (v := (.tup [(.agg [(vi x3.1.Low), (vi x3.1.High), (vb x3.1.HasLow), (vb x3.1.HasHigh)]), (vb x3.2.1), (vi x3.2.2)])) rfl rfl ?_
         refine Ops.extract (v := (.agg [(vi x3.1.Low), (vi x3.1.High), (vb x3.1.HasLow), (vb x3.1.HasHigh)])) rfl rfl rfl ?_
         refine Ops.extract (v := (vb x3.2.1)) rfl rfl rfl ?_
         refine Ops.extract (v := (vi x3.2.2)) rfl rfl rfl ?_
         refine Ops.allocH (cs := [(vi 0), (vi 0), (vb false), (vb false)]) H (by omega) (by omega) rfl rfl ?_; intro σ H
         refine Ops.storeH (off := 0) (v := (.agg [(vi x3.1.Low), (vi x3.1.High), (vb x3.1.HasLow), (vb x3.1.HasHigh)])) (ys := [(vi x3.1.Low), (vi x3.1.High), (vb x3.1.HasLow), (vb x3.1.HasHigh)]) (cells' := [(vi x3.1.Low), (vi x3.1.High), (vb x3.1.HasLow), (vb x3.1.HasHigh)]) H 0 rfl rfl rfl rfl rfl rfl rfl rfl rfl nofun ?_; intro σ H
         refine Ops.assign (v := (vb x3.2.1)) rfl rfl ?_
         refine Ops.assign (v := (vi x3.2.2)) rfl rfl ?_
         apply Ops.nil
         replace H := H.all
         apply Runs.then
         refine Runs.regionH 14 rfl H ?_; intro b10 σ H
         refine Ops.move (v := (vi x3.2.2)) rfl rfl ?_
         refine Ops.int (m := x3.2.2) (m' := 0) (r := .bool (x3.2.2 == 0)) rfl rfl rfl rfl rfl ?_
         refine Ops.move (v := (vb (x3.2.2 == 0))) rfl rfl ?_
         refine Ops.mid 2 (K1 := fun e σ => EnvHas e [(89, (vb ((x3.2.2 == 0) && x3.2.1))), (10, (.ptr (b9 + 8) 4 0))] ∧ Has σ (b10 + 5) (b10 + 14) [.blk (b9 + 8) 27 [(vi x3.1.Low), (vi x3.1.High), (vb x3.1.HasLow), (vb x3.1.HasHigh)]]) rfl ?_ ?_
         ·refine Ops.split rfl rfl ?_ ?_ <;> intro hc14
          ·skip
           refine Ops.wanted rfl rfl ?_
           refine Ops.move (v := (vb x3.2.1)) rfl rfl ?_
           refine Ops.pickT (v := (vb x3.2.1)) rfl rfl rfl ?_
           apply Ops.nil
           exact ⟨⟨and_T hc14, rfl, trivial⟩, (H.erase 1).weak (by omega) (Nat.le_refl _)⟩
          ·skip
           refine Ops.pass rfl rfl rfl ?_
           refine Ops.pickF (v := (vb false)) rfl rfl rfl ?_
           apply Ops.nil
           exact ⟨⟨and_F hc14, rfl, trivial⟩, (H.erase 1).weak (by omega) (Nat.le_refl _)⟩
         ·rintro e σ ⟨he, H⟩
          obtain ⟨e, rfl⟩ := he.ex
          refine Ops.move (v := (vb ((x3.2.2 == 0) && x3.2.1))) rfl rfl ?_
          refine Ops.mid 4 (K1 := fun e σ => EnvHas e [(94, (vb (((x3.2.2 == 0) && x3.2.1) && ((x3.1.Low == 0) && ((x3.1.High == 0) && ((x3.1.HasLow == false) && ((x3.1.HasHigh == false) && true)))))))] ∧ Has σ (b10 + 10) (b10 + 14) []) rfl ?_ ?_
          ·refine Ops.split rfl rfl ?_ ?_ <;> intro hc15
           ·skip
            refine Ops.wanted rfl rfl ?_
            refine Ops.loadHA (off := 0) (cs := [(vi x3.1.Low), (vi x3.1.High), (vb x3.1.HasLow), (vb x3.1.HasHigh)]) H 0 rfl rfl rfl rfl rfl rfl rfl nofun rfl ?_
            refine Ops.wanted rfl rfl ?_
            refine Ops.buildA (cs := [(vi 0), (vi 0), (vb false), (vb false)]) rfl rfl ?_
            refine Ops.wanted rfl rfl ?_
            refine Ops.binA (u := (.agg [(vi x3.1.Low), (vi x3.1.High), (vb x3.1.HasLow), (vb x3.1.HasHigh)])) (w := (.agg [(vi 0), (vi 0), (vb false), (vb false)])) (r := .bool ((x3.1.Low == 0) && ((x3.1.High == 0) && ((x3.1.HasLow == false) && ((x3.1.HasHigh == false) && true))))) rfl rfl (by kernel_rfl) (fun _ => ask_eqA rfl rfl rfl rfl) rfl ?_
            refine Ops.pickT (v := (vb ((x3.1.Low == 0) && ((x3.1.High == 0) && ((x3.1.HasLow == false) && ((x3.1.HasHigh == false) && true)))))) rfl rfl rfl ?_
            apply Ops.nil
            exact ⟨⟨and_T hc15, trivial⟩, (H.erase 0).weak (by omega) (Nat.le_refl _)⟩
           ·skip
            refine Ops.pass rfl rfl rfl ?_
            refine Ops.pass rfl rfl rfl ?_
            refine Ops.pass rfl rfl rfl ?_
            refine Ops.pickF (v := (vb false)) rfl rfl rfl ?_
            apply Ops.nil
            exact ⟨⟨and_F hc15, trivial⟩, (H.erase 0).weak (by omega) (Nat.le_refl _)⟩
          ·rintro e σ ⟨he, H⟩
           obtain ⟨e, rfl⟩ := he.ex
           refine Ops.move (v := (vb (((x3.2.2 == 0) && x3.2.1) && ((x3.1.Low == 0) && ((x3.1.High == 0) && ((x3.1.HasLow == false) && ((x3.1.HasHigh == false) && true))))))) rfl rfl ?_
           refine Ops.mid 2 (K1 := fun e σ => EnvHas e [(97, (vb ((((x3.2.2 == 0) && x3.2.1) && ((x3.1.Low == 0) && ((x3.1.High == 0) && ((x3.1.HasLow == false) && ((x3.1.HasHigh == false) && true))))) && epactlaw25_awake)))] ∧ Has σ (b10 + 13) (b10 + 14) []) rfl ?_ ?_
           ·refine Ops.split rfl rfl ?_ ?_ <;> intro hc16
            ·skip
             refine Ops.wanted rfl rfl ?_
             refine Ops.call (ys := []) (r := (vb epactlaw25_awake)) rfl (epactlaw25_awake_fn rfl) rfl ?_
             refine Ops.pickT (v := (vb epactlaw25_awake)) rfl rfl rfl ?_
             apply Ops.nil
             exact ⟨⟨and_T hc16, trivial⟩, H.weak (by omega) (Nat.le_refl _)⟩
            ·skip
             refine Ops.pass rfl rfl rfl ?_
             refine Ops.pickF (v := (vb false)) rfl rfl rfl ?_
             apply Ops.nil
             exact ⟨⟨and_F hc16, trivial⟩, H.weak (by omega) (Nat.le_refl _)⟩
           ·rintro e σ ⟨he, H⟩
            obtain ⟨e, rfl⟩ := he.ex
            refine Ops.assign (v := (vb ((((x3.2.2 == 0) && x3.2.1) && ((x3.1.Low == 0) && ((x3.1.High == 0) && ((x3.1.HasLow == false) && ((x3.1.HasHigh == false) && true))))) && epactlaw25_awake))) rfl rfl ?_
            apply Ops.nil
            replace H := H.all
            apply Runs.ret
            replace h := Option.some.inj h; subst h
            exact (Ends.H (xs := [(vb ((((x3.2.2 == 0) && x3.2.1) && ((x3.1.Low == 0) && ((x3.1.High == 0) && ((x3.1.HasLow == false) && ((x3.1.HasHigh == false) && true))))) && epactlaw25_awake))]) (.inr rfl) H (.tmp (v := (vb ((((x3.2.2 == 0) && x3.2.1) && ((x3.1.Low == 0) && ((x3.1.High == 0) && ((x3.1.HasLow == false) && ((x3.1.HasHigh == false) && true))))) && epactlaw25_awake))) rfl .nil) (.one (.c (.v _))))

end Go.Dn

set_option linter.unusedVariables false
set_option linter.unusedSimpArgs false
namespace Go.Dn
open Go Go.Proofs



end Go.Dn

set_option linter.unusedVariables false
set_option linter.unusedSimpArgs false
namespace Go.Dn
open Go Go.Proofs



end Go.Dn

set_option linter.unusedVariables false
set_option linter.unusedSimpArgs false
namespace Go.Dn
open Go

theorem loopO_inv {S R : Type} {step : S → Option (S ⊕ R)} (I : S → Prop) (m : S → Nat) (post : R → Prop)
  (h : ∀ s, I s → (∃ s', step s = some (.inl s') ∧ I s' ∧ m s' < m s) ∨ (∃ r, step s = some (.inr r) ∧ post r)) : ∀ s, I s → ∃ r, loopO step s = some r ∧ post r := by
 have key : ∀ n s, m s = n → I s → ∃ r, loopO step s = some r ∧ post r := by
  intro n
  induction n using Nat.strongRecOn with
  | _ n ih =>
   intro s hm hI
   rcases h s hI with ⟨s', h1, h2, h3⟩ | ⟨r, h1, h2⟩
   ·obtain ⟨r, q1, q2⟩ := ih (m s') (by omega) s' rfl h2
    exact ⟨r, by rw [loopO_eq, h1]; exact q1, q2⟩
   ·exact ⟨r, by rw [loopO_eq, h1], h2⟩
 exact fun s hI => key _ s rfl hI

theorem loopO_val {S R : Type} {step : S → Option (S ⊕ R)} (I : S → R → Prop) (m : S → Nat)
  (h : ∀ s r, I s r → (∃ s', step s = some (.inl s') ∧ I s' r ∧ m s' < m s) ∨ step s = some (.inr r)) {s : S} {r : R} (hI : I s r) : loopO step s = some r := by
 obtain ⟨r', h1, h2⟩ := loopO_inv (I := fun s => I s r) m (fun r' => r' = r) (fun s hs => by
  rcases h s r hs with ⟨s', h1, h2, h3⟩ | h1
  ·exact .inl ⟨s', h1, h2, h3⟩
  ·exact .inr ⟨r, h1, rfl⟩) s hI
 rw [h1, h2]

theorem wrap_i64 (a : Int) : IntKind.i64.wrap a = (a + 9223372036854775808) % 18446744073709551616 - 9223372036854775808 := by
 simp [IntKind.wrap, IntKind.bits, IntKind.signed]
 split <;> omega
theorem wrap_u64 (a : Int) : IntKind.u64.wrap a = a % 18446744073709551616 := by
 simp [IntKind.wrap, IntKind.bits, IntKind.signed]
theorem w64_id {x : Int} (h : -9223372036854775808 ≤ x ∧ x ≤ 9223372036854775807) : w64 x = x := by
 unfold w64; rw [wrap_i64]; omega
theorem maxLen_eq : maxLen = 9223372036854775807 := rfl
theorem room_eq : room = 140737488355328 := rfl

theorem at?_lt {α : Type} {l : List α} {i : Int} (h0 : 0 ≤ i) (h : i < l.length) : at? l i = some (l[i.toNat]'(by omega)) := by
 unfold at?; rw [if_pos h0, List.getElem?_eq_getElem]
theorem at?_nat {α : Type} {l : List α} {k : Nat} (h : k < l.length) : at? l (k : Int) = some l[k] := by
 rw [at?_lt (by omega) (by omega)]; rfl
theorem app?_ok {α : Type} {b : Nat} {l m : List α} (h : (l.length + m.length) * b ≤ room) : app? b l m = some (l ++ m) := if_pos h
theorem nz?_ok {b : Int} (h : b ≠ 0) : nz? b = some () := if_neg h

theorem beq_t {a b : Int} (h : a = b) : (a == b) = true := by simp [h]
theorem beq_f {a b : Int} (h : a ≠ b) : (a == b) = false := by simp [h]
theorem bne_t {a b : Int} (h : a ≠ b) : (a != b) = true := by simp [h]
theorem bne_f {a b : Int} (h : a = b) : (a != b) = false := by simp [h]
theorem ibeq (a b : Int) : (a == b) = decide (a = b) := by by_cases h : a = b <;> simp [h]
theorem dec_t {p : Prop} [Decidable p] (h : p) : decide p = true := by simp [h]
theorem dec_f {p : Prop} [Decidable p] (h : ¬ p) : decide p = false := by simp [h]

theorem pickB {α : Type} (c : Bool) (a b : α) : (bif c then a else b) = if c = true then a else b := by cases c <;> rfl

theorem first_bad {α : Type} {l : List α} {good : Nat → α → Prop} (h : ¬ ∀ k x, l[k]? = some x → good k x) : ∃ (k : Nat) (x : α), l[k]? = some x ∧ ¬ good k x ∧ ∀ j y, j < k → l[j]? = some y → good j y := by
 have hex : ∃ k : Nat, ∃ x, l[k]? = some x ∧ ¬ good k x := by
  apply Classical.byContradiction
  intro hn
  exact h fun k x hk => Classical.byContradiction fun hg => hn ⟨k, x, hk, hg⟩
 obtain ⟨k, hk⟩ := hex
 induction k using Nat.strongRecOn with
 | _ k ih =>
  by_cases h : ∃ j, j < k ∧ ∃ x, l[j]? = some x ∧ ¬ good j x
  ·obtain ⟨j, hj, hx⟩ := h
   exact ih j hj hx
  ·obtain ⟨x, hx, hb⟩ := hk
   exact ⟨k, x, hx, hb, fun j y hj hy => Classical.byContradiction fun hg => h ⟨j, hj, y, hy, hg⟩⟩

theorem all_loop {α R : Type} {l : List α} {step : Int → Option (Int ⊕ R)} (good : Nat → α → Prop) {no yes : R}
  (hstep : ∀ (k : Nat) (x : α), l[k]? = some x → (∀ j y, j < k → l[j]? = some y → good j y) → (step (k : Int) = some (.inl ((k : Int) + 1)) ∧ good k x) ∨ (step (k : Int) = some (.inr no) ∧ ¬ good k x))
  (hend : step (l.length : Int) = some (.inr yes)) : (loopO step 0 = some yes ∧ ∀ k x, l[k]? = some x → good k x) ∨ (loopO step 0 = some no ∧ ¬ ∀ k x, l[k]? = some x → good k x) := by
 by_cases hall : ∀ k x, l[k]? = some x → good k x
 ·refine .inl ⟨?_, hall⟩
  refine loopO_val (I := fun (s : Int) r => r = yes ∧ ∃ k : Nat, s = k ∧ k ≤ l.length) (fun s => (l.length - s.toNat)) ?_ ⟨rfl, 0, rfl, Nat.zero_le _⟩
  rintro s r ⟨rfl, k, rfl, hk⟩
  by_cases hlt : k < l.length
  ·rcases hstep k l[k] (List.getElem?_eq_getElem hlt) (fun j y _ hy => hall j y hy) with ⟨h1, _⟩ | ⟨_, h2⟩
   ·exact .inl ⟨_, h1, ⟨rfl, k + 1, by push_cast; rfl, hlt⟩, by simp; omega⟩
   ·exact absurd (hall k _ (List.getElem?_eq_getElem hlt)) h2
  ·have : k = l.length := by omega
   subst this
   exact .inr hend
 ·refine .inr ⟨?_, hall⟩
  obtain ⟨k0, x0, hx0, hb0, hgood⟩ := first_bad hall
  have hlt0 := (List.getElem?_eq_some_iff.1 hx0).1
  refine loopO_val (I := fun (s : Int) r => r = no ∧ ∃ k : Nat, s = k ∧ k ≤ k0) (fun s => (l.length - s.toNat)) ?_ ⟨rfl, 0, rfl, Nat.zero_le _⟩
  rintro s r ⟨rfl, k, rfl, hk⟩
  by_cases hlt : k < k0
  ·have hkl : k < l.length := by omega
   rcases hstep k l[k] (List.getElem?_eq_getElem hkl) (fun j y hj hy => hgood j y (by omega) hy) with ⟨h1, _⟩ | ⟨_, h2⟩
   ·exact .inl ⟨_, h1, ⟨rfl, k + 1, by push_cast; rfl, hlt⟩, by simp; omega⟩
   ·exact absurd (hgood k _ hlt (List.getElem?_eq_getElem hkl)) h2
  ·have : k = k0 := by omega
   subst this
   rcases hstep k x0 hx0 hgood with ⟨_, h2⟩ | ⟨h1, _⟩
   ·exact absurd h2 hb0
   ·exact .inr h1

theorem fold_loop {α A R : Type} {l : List α} {step : A × Int → Option ((A × Int) ⊕ R)} (f : A → Nat → α → A) (fin : A → R) (I : Nat → A → Prop) {a0 : A} (h0 : I 0 a0)
  (hgo : ∀ (k : Nat) (x : α) (a : A), l[k]? = some x → I k a → step (a, (k : Int)) = some (.inl (f a k x, (k : Int) + 1)) ∧ I (k + 1) (f a k x))
  (hend : ∀ a, I l.length a → step (a, (l.length : Int)) = some (.inr (fin a))) : ∃ a, loopO step (a0, 0) = some (fin a) ∧ I l.length a := by
 obtain ⟨r, h1, a, rfl, h2⟩ := loopO_inv (step := step) (I := fun s => ∃ (k : Nat) (a : A), s = (a, (k : Int)) ∧ k ≤ l.length ∧ I k a) (fun s => l.length - s.2.toNat) (fun r => ∃ a, r = fin a ∧ I l.length a) (by
  rintro s ⟨k, a, rfl, hk, hI⟩
  by_cases hlt : k < l.length
  ·obtain ⟨q1, q2⟩ := hgo k l[k] a (List.getElem?_eq_getElem hlt) hI
   exact .inl ⟨_, q1, ⟨k + 1, _, by push_cast; rfl, hlt, q2⟩, by simp; omega⟩
  ·have : k = l.length := by omega
   subst this
   exact .inr ⟨_, hend a hI, a, rfl, hI⟩) (a0, 0) ⟨0, a0, rfl, Nat.zero_le _, h0⟩
 exact ⟨a, h1, h2⟩
end Go.Dn

set_option linter.unusedVariables false
set_option linter.unusedSimpArgs false
namespace Go.Dn
open Go

def In64 (a : Int) : Prop := -9223372036854775808 ≤ a ∧ a ≤ 9223372036854775807
def InU64 (a : Int) : Prop := 0 ≤ a ∧ a ≤ 18446744073709551615
def fitS (a : Int) : Int × Int := if -9223372036854775808 ≤ a ∧ a ≤ 9223372036854775807 then (a, 0) else (0, 10)
theorem fitS_of {a : Int} (h : In64 a) : fitS a = (a, 0) := if_pos h
theorem fitS_not {a : Int} (h : ¬ In64 a) : fitS a = (0, 10) := if_neg h
theorem fit_or (x : Int) : (In64 x ∧ fitS x = (x, 0)) ∨ (¬ In64 x ∧ fitS x = (0, 10)) := by
 by_cases h : In64 x
 ·exact .inl ⟨h, fitS_of h⟩
 ·exact .inr ⟨h, fitS_not h⟩
theorem and32 (x : Int) (h : InU64 x) : (((BitVec.ofInt 64 x &&& BitVec.ofInt 64 4294967295).toNat : Nat) : Int) = x % 4294967296 := by
 obtain ⟨n, rfl⟩ := Int.eq_ofNat_of_zero_le h.1
 have hn : n < 2 ^ 64 := by have := h.2; omega
 have h1 : (BitVec.ofInt 64 (n : Int)).toNat = n := by simp [BitVec.toNat_ofInt]; omega
 have h2 : (BitVec.ofInt 64 4294967295).toNat = 2 ^ 32 - 1 := by decide
 rw [BitVec.toNat_and, h1, h2, Nat.and_two_pow_sub_one_eq_mod]
 omega

theorem mul64_fact {x y : Int} (hx : InU64 x) (hy : InU64 y) :
  (x / 4294967296 * (y / 4294967296) + (x / 4294967296 * (y % 4294967296) + x % 4294967296 * (y % 4294967296) / 4294967296) / 4294967296 +
   ((x / 4294967296 * (y % 4294967296) + x % 4294967296 * (y % 4294967296) / 4294967296) % 4294967296 + x % 4294967296 * (y / 4294967296)) / 4294967296) = x * y / 18446744073709551616 ∧
  0 ≤ x % 4294967296 * (y % 4294967296) ∧ x % 4294967296 * (y % 4294967296) ≤ 18446744065119617025 ∧
  0 ≤ x / 4294967296 * (y % 4294967296) ∧ x / 4294967296 * (y % 4294967296) ≤ 18446744065119617025 ∧
  0 ≤ x % 4294967296 * (y / 4294967296) ∧ x % 4294967296 * (y / 4294967296) ≤ 18446744065119617025 ∧
  0 ≤ x / 4294967296 * (y / 4294967296) ∧ x / 4294967296 * (y / 4294967296) ≤ 18446744065119617025 := by
 have b : ∀ {u v : Int}, 0 ≤ u → u ≤ 4294967295 → 0 ≤ v → v ≤ 4294967295 → 0 ≤ u * v ∧ u * v ≤ 18446744065119617025 := by
  intro u v h1 h2 h3 h4
  exact ⟨Int.mul_nonneg h1 h3, Int.le_trans (Int.mul_le_mul h2 h4 h3 (by omega)) (by decide)⟩
 obtain ⟨hx1, hx2⟩ := hx
 obtain ⟨hy1, hy2⟩ := hy
 obtain ⟨a1, a2⟩ := b (u := x % 4294967296) (v := y % 4294967296) (by omega) (by omega) (by omega) (by omega)
 obtain ⟨b1, b2⟩ := b (u := x / 4294967296) (v := y % 4294967296) (by omega) (by omega) (by omega) (by omega)
 obtain ⟨c1, c2⟩ := b (u := x % 4294967296) (v := y / 4294967296) (by omega) (by omega) (by omega) (by omega)
 obtain ⟨d1, d2⟩ := b (u := x / 4294967296) (v := y / 4294967296) (by omega) (by omega) (by omega) (by omega)
 refine ⟨?_, a1, a2, b1, b2, c1, c2, d1, d2⟩
 have e : x * y = x / 4294967296 * (y / 4294967296) * 18446744073709551616 + (x / 4294967296 * (y % 4294967296) + x % 4294967296 * (y / 4294967296)) * 4294967296 + x % 4294967296 * (y % 4294967296) := by
  have ex : x = x / 4294967296 * 4294967296 + x % 4294967296 := by omega
  have ey : y = y / 4294967296 * 4294967296 + y % 4294967296 := by omega
  clear a1 a2 b1 b2 c1 c2 d1 d2 b hx1 hx2 hy1 hy2
  generalize x / 4294967296 = x1 at *
  generalize x % 4294967296 = x0 at *
  generalize y / 4294967296 = y1 at *
  generalize y % 4294967296 = y0 at *
  subst ex ey
  simp only [Int.add_mul, Int.mul_add]
  have h1 : x1 * 4294967296 * (y1 * 4294967296) = x1 * y1 * 18446744073709551616 := by
   rw [Int.mul_assoc, Int.mul_comm 4294967296, Int.mul_assoc y1, ← Int.mul_assoc]
   rfl
  have h2 : x1 * 4294967296 * y0 = x1 * y0 * 4294967296 := by rw [Int.mul_assoc, Int.mul_comm 4294967296, ← Int.mul_assoc]
  have h3 : x0 * (y1 * 4294967296) = x0 * y1 * 4294967296 := by rw [← Int.mul_assoc]
  rw [h1, h2, h3]
  omega
 rw [e]
 generalize x / 4294967296 * (y / 4294967296) = d at *
 generalize x / 4294967296 * (y % 4294967296) = b' at *
 generalize x % 4294967296 * (y / 4294967296) = c at *
 generalize x % 4294967296 * (y % 4294967296) = a at *
 omega

theorem safe_Add_eq {a b : Int} (ha : In64 a) (hb : In64 b) : safe_Add a b = fitS (a + b) := by
 unfold In64 at ha hb
 unfold safe_Add fitS w64
 rw [wrap_i64]
 cases h : ((decide ((a + b + 9223372036854775808) % 18446744073709551616 - 9223372036854775808 > a) != decide (b > 0)) && b != 0)
 ·rw [cond_false]
  simp only [Bool.and_eq_false_iff, bne_eq_false_iff_eq, decide_eq_decide] at h
  split <;> simp only [Prod.mk.injEq, and_true] <;> omega
 ·rw [cond_true]
  simp only [Bool.and_eq_true, bne_iff_ne, ne_eq, decide_eq_decide] at h
  split <;> simp only [Prod.mk.injEq] <;> omega

theorem safe_size_eq {a : Int} (h : In64 a) : safe_size a = a.natAbs := by
 unfold In64 at h
 unfold safe_size
 rw [pickB]
 simp only [decide_eq_true_eq, wrap_u64]
 split <;> omega

theorem inU_abs {a : Int} (h : In64 a) : InU64 a.natAbs := by unfold In64 at h; unfold InU64; omega
theorem natAbs_prod (a b : Int) : (a.natAbs : Int) * b.natAbs = (a * b).natAbs := by rw [Int.natAbs_mul]; simp

theorem mul64_eq {x y : Int} (hx : InU64 x) (hy : InU64 y) : math_bits_Mul64 x y = (x * y / 18446744073709551616, x * y % 18446744073709551616) := by
 unfold math_bits_Mul64
 have hb : ∀ z : Int, z.fdiv (2 ^ 32) = z / 4294967296 := fun z => Int.fdiv_eq_ediv_of_nonneg z (by decide)
 have hm : (IntKind.u64.bits) = 64 := rfl
 obtain ⟨h1, h2, h3, h4, h5, h6, h7, h8, h9⟩ := mul64_fact hx hy
 have hw : ∀ z : Int, 0 ≤ z → z ≤ 18446744073709551615 → IntKind.u64.wrap z = z := fun z q1 q2 => by rw [wrap_u64]; omega
 simp only [hb, iAnd]
 rw [hm, and32 x hx, and32 y hy]
 have x0 : 0 ≤ x % 4294967296 ∧ x % 4294967296 < 4294967296 := by omega
 have y0 : 0 ≤ y % 4294967296 ∧ y % 4294967296 < 4294967296 := by omega
 rw [hw (x % 4294967296) (by omega) (by omega), hw (y % 4294967296) (by omega) (by omega), hw _ h2 (by omega), hw _ h4 (by omega), hw _ h6 (by omega), hw _ h8 (by omega)]
 rw [hw (x / 4294967296 * (y % 4294967296) + x % 4294967296 * (y % 4294967296) / 4294967296) (by omega) (by omega)]
 rw [and32 _ ⟨by omega, by omega⟩]
 have t0 : 0 ≤ (x / 4294967296 * (y % 4294967296) + x % 4294967296 * (y % 4294967296) / 4294967296) % 4294967296 ∧ (x / 4294967296 * (y % 4294967296) + x % 4294967296 * (y % 4294967296) / 4294967296) % 4294967296 < 4294967296 := by omega
 rw [hw ((x / 4294967296 * (y % 4294967296) + x % 4294967296 * (y % 4294967296) / 4294967296) % 4294967296) (by omega) (by omega)]
 rw [hw ((x / 4294967296 * (y % 4294967296) + x % 4294967296 * (y % 4294967296) / 4294967296) % 4294967296 + x % 4294967296 * (y / 4294967296)) (by omega) (by omega)]
 rw [hw (x / 4294967296 * (y / 4294967296) + (x / 4294967296 * (y % 4294967296) + x % 4294967296 * (y % 4294967296) / 4294967296) / 4294967296) (by omega) (by omega)]
 rw [hw _ (by omega) (by omega), h1, wrap_u64]

theorem safe_signed_eq {n : Int} (m : Bool) (h : InU64 n) : safe_signed n m = fitS (if m then -n else n) := by
 unfold InU64 at h
 unfold safe_signed fitS w64
 rw [pickB, pickB, wrap_u64, wrap_i64, wrap_i64]
 cases m <;> simp only [Bool.true_and, Bool.false_and, Bool.not_true, Bool.not_false, decide_eq_true_eq, Bool.false_eq_true, if_false, if_true]
 ·split
  ·rw [if_pos (by omega)]; simp only [Prod.mk.injEq, and_true]; omega
  ·rw [if_neg (by omega)]
 ·split
  ·rw [if_pos (by omega)]; simp only [Prod.mk.injEq, and_true]; omega
  ·rw [if_neg (by omega)]

theorem safe_Mul_eq {a b : Int} (ha : In64 a) (hb : In64 b) : safe_Mul a b = fitS (a * b) := by
 unfold safe_Mul
 rw [safe_size_eq ha, safe_size_eq hb, mul64_eq (inU_abs ha) (inU_abs hb), pickB]
 simp only [natAbs_prod]
 rw [safe_signed_eq _ (by unfold InU64; omega)]
 by_cases h : ((a * b).natAbs : Int) / 18446744073709551616 = 0
 ·rw [if_neg (by simp [h])]
  have e : ((a * b).natAbs : Int) % 18446744073709551616 = (a * b).natAbs := by omega
  rw [e]
  show fitS _ = _
  refine congrArg fitS ?_
  by_cases h1 : a < 0 <;> by_cases h2 : b < 0 <;> simp only [h1, h2, decide_true, decide_false]
  ·have := Int.mul_nonneg_of_nonpos_of_nonpos (Int.le_of_lt h1) (Int.le_of_lt h2)
   simp; omega
  ·have := Int.mul_nonpos_of_nonpos_of_nonneg (Int.le_of_lt h1) (Int.not_lt.1 h2)
   simp; omega
  ·have := Int.mul_nonpos_of_nonneg_of_nonpos (Int.not_lt.1 h1) (Int.le_of_lt h2)
   simp; omega
  ·have := Int.mul_nonneg (Int.not_lt.1 h1) (Int.not_lt.1 h2)
   simp; omega
 ·rw [if_pos (by simp [h])]
  unfold fitS
  rw [if_neg]
  omega

def floorS (a b : Int) : Int × Int × Int := if b = 0 then (0, 0, 11) else if b = -1 ∧ a = -9223372036854775808 then (0, 0, 10) else (a.fdiv b, a.fmod b, 0)
theorem floor_up {a b : Int} (hb : b ≠ 0) (h1 : a.tmod b ≠ 0) (h2 : ¬(a.tmod b < 0 ↔ b < 0)) : a.fdiv b = a.tdiv b - 1 ∧ a.fmod b = a.tmod b + b := by
 have q1 := Int.emod_nonneg a hb
 have q2 := Int.emod_lt a hb
 have hd : b ∣ a ↔ a % b = 0 := Int.dvd_iff_emod_eq_zero
 rw [Int.fdiv_eq_ediv, Int.fmod_eq_emod, Int.tdiv_eq_ediv]
 rw [Int.tmod_eq_emod] at h1 h2 ⊢
 simp only [hd] at h1 h2 ⊢
 rcases Int.lt_or_gt_of_ne hb with h | h
 ·rw [Int.sign_eq_neg_one_of_neg h]
  split at h1 <;> split <;> simp_all <;> omega
 ·rw [Int.sign_eq_one_of_pos h]
  split at h1 <;> split <;> simp_all <;> omega

theorem floor_same {a b : Int} (hb : b ≠ 0) (h : a.tmod b = 0 ∨ (a.tmod b < 0 ↔ b < 0)) : a.fdiv b = a.tdiv b ∧ a.fmod b = a.tmod b := by
 have q1 := Int.emod_nonneg a hb
 have q2 := Int.emod_lt a hb
 have hd : b ∣ a ↔ a % b = 0 := Int.dvd_iff_emod_eq_zero
 rw [Int.fdiv_eq_ediv, Int.fmod_eq_emod, Int.tdiv_eq_ediv]
 rw [Int.tmod_eq_emod] at h ⊢
 simp only [hd] at h ⊢
 rcases Int.lt_or_gt_of_ne hb with hh | hh
 ·rw [Int.sign_eq_neg_one_of_neg hh]
  split at h <;> split <;> simp_all <;> omega
 ·rw [Int.sign_eq_one_of_pos hh]
  split at h <;> split <;> simp_all <;> omega

theorem tdiv_in {a b : Int} (ha : In64 a) (hb : b ≠ 0) (hn : ¬(b = -1 ∧ a = -9223372036854775808)) : In64 (a.tdiv b) := by
 have h : (a.tdiv b).natAbs = a.natAbs / b.natAbs := Int.natAbs_tdiv a b
 obtain ⟨h1, h2⟩ := ha
 by_cases hb1 : b = 1
 ·subst hb1; rw [Int.tdiv_one]; exact ⟨h1, h2⟩
 ·by_cases hb2 : b = -1
  ·have ha' : a ≠ -9223372036854775808 := fun e => hn ⟨hb2, e⟩
   have : a.natAbs / b.natAbs ≤ a.natAbs := Nat.div_le_self _ _
   unfold In64; omega
  ·have h3 : a.natAbs / b.natAbs ≤ a.natAbs / 2 := Nat.div_le_div_left (by omega) (by omega)
   unfold In64; omega

theorem tdiv_in1 {a b : Int} (ha : In64 a) (hb : b ≠ 0) (h1 : a.tmod b ≠ 0) : In64 (a.tdiv b - 1) := by
 have h : (a.tdiv b).natAbs = a.natAbs / b.natAbs := Int.natAbs_tdiv a b
 obtain ⟨h2, h3⟩ := ha
 by_cases hb1 : b = 1
 ·subst hb1; simp at h1
 ·by_cases hb2 : b = -1
  ·subst hb2; simp at h1
  ·have h3 : a.natAbs / b.natAbs ≤ a.natAbs / 2 := Nat.div_le_div_left (by omega) (by omega)
   unfold In64; omega

theorem wrap_in {a : Int} (h : In64 a) : IntKind.i64.wrap a = a := by rw [wrap_i64]; unfold In64 at h; omega

theorem fmod_in {a b : Int} (hb : In64 b) (hb0 : b ≠ 0) : In64 (a.fmod b) := by
 have q1 := Int.emod_nonneg a hb0
 have q2 := Int.emod_lt a hb0
 rw [Int.fmod_eq_emod]
 unfold In64 at *
 split <;> omega

theorem floor_leaf1 {a b : Int} (ha : In64 a) (hb : In64 b) (h0 : b ≠ 0) (hn : ¬(b = -1 ∧ a = -9223372036854775808)) (h1 : a.tmod b ≠ 0) (h2 : ¬(a.tmod b < 0 ↔ b < 0)) :
  (IntKind.i64.wrap (IntKind.i64.wrap (a.tdiv b) - 1), IntKind.i64.wrap (a.tmod b + b), (0 : Int)) = floorS a b := by
 obtain ⟨e1, e2⟩ := floor_up h0 h1 h2
 rw [floorS, if_neg h0, if_neg hn, e1, e2, wrap_in (tdiv_in ha h0 hn), wrap_in (tdiv_in1 ha h0 h1), wrap_in (by rw [← e2]; exact fmod_in hb h0)]

theorem floor_leaf2 {a b : Int} (ha : In64 a) (hb : In64 b) (h0 : b ≠ 0) (hn : ¬(b = -1 ∧ a = -9223372036854775808)) (h : a.tmod b = 0 ∨ (a.tmod b < 0 ↔ b < 0)) :
  (IntKind.i64.wrap (a.tdiv b), a.tmod b, (0 : Int)) = floorS a b := by
 obtain ⟨e1, e2⟩ := floor_same h0 h
 rw [floorS, if_neg h0, if_neg hn, e1, e2, wrap_in (tdiv_in ha h0 hn)]


theorem safe_Floor_eq {a b : Int} (ha : In64 a) (hb : In64 b) : safe_Floor a b = some (floorS a b) := by
 unfold safe_Floor
 by_cases h0 : b = 0
 ·subst h0; rfl
 rw [beq_f h0, cond_false]
 by_cases hn : b = -1 ∧ a = -9223372036854775808
 ·obtain ⟨rfl, rfl⟩ := hn
  rfl
 have : (b == -1 && a == -9223372036854775808) = false := by
  simp only [Bool.and_eq_false_iff, beq_eq_false_iff_ne]
  by_cases h : b = -1
  ·exact .inr fun e => hn ⟨h, e⟩
  ·exact .inl h
 rw [this, cond_false, nz?_ok h0]
 simp only [Option.bind_some, pickB, Bool.and_eq_true, bne_iff_ne, ne_eq, decide_eq_decide]
 split
 ·rename_i h
  simp only [Option.bind_some]
  exact congrArg some (floor_leaf1 ha hb h0 hn h.1 h.2)
 ·rename_i h
  simp only [Option.bind_some]
  refine congrArg some (floor_leaf2 ha hb h0 hn ?_)
  by_cases h1 : a.tmod b = 0
  ·exact .inl h1
  ·exact .inr (Classical.byContradiction fun h2 => h ⟨h1, h2⟩)

theorem fdiv_nonneg_eq {a b : Int} (hb : 0 < b) : a.fdiv b = a / b ∧ a.fmod b = a % b := ⟨Int.fdiv_eq_ediv_of_nonneg a (Int.le_of_lt hb), Int.fmod_eq_emod_of_nonneg a (Int.le_of_lt hb)⟩
theorem floorS_pos {a b : Int} (hb : 0 < b) : floorS a b = (a / b, a % b, 0) := by
 unfold floorS
 rw [if_neg (by omega), if_neg (by omega), (fdiv_nonneg_eq hb).1, (fdiv_nonneg_eq hb).2]

end Go.Dn

set_option linter.unusedVariables false
set_option linter.unusedSimpArgs false
namespace Go.Dn
open Go

theorem reach_eq : reachBytes = 140737488351232 := rfl

def tickP (t : Int) : Prop := -1099511627776 ≤ t ∧ t ≤ 1099511627776
instance (t : Int) : Decidable (tickP t) := by unfold tickP; infer_instance
theorem spans_tick_eq (t : Int) : spans_tick t = decide (tickP t) := by
 rw [Bool.eq_iff_iff, decide_eq_true_iff]; simp [spans_tick, tickP]
theorem inRange_eq (t : Int) : gran_inRange t = decide (tickP t) := by
 rw [Bool.eq_iff_iff, decide_eq_true_iff]; simp [gran_inRange, tickP]
theorem tick64 {t : Int} (h : tickP t) : In64 t := by unfold tickP at h; unfold In64; omega

structure RightL (l : List Span) : Prop where
 ok : ∀ (k : Nat) (s : Span), l[k]? = some s → tickP s.From ∧ tickP s.To ∧ s.From ≤ s.To
 gap : ∀ (k : Nat) (s t : Span), l[k]? = some s → l[k + 1]? = some t → s.To + 2 ≤ t.From

abbrev Len (l : List Span) : Prop := l.length * 16 ≤ reachBytes
abbrev Sp64 (l : List Span) : Prop := ∀ s ∈ l, In64 s.From ∧ In64 s.To

theorem Span.ok64 {s : Span} (h : s.ok) : In64 s.From ∧ In64 s.To := h
theorem okSpans {l : List Span} (h : okL 16 Span.ok l) : Len l ∧ Sp64 l := ⟨h.1, fun s hs => Span.ok64 (h.2 s hs)⟩
theorem RightL.sp64 {l : List Span} (h : RightL l) : Sp64 l := fun s hs => by
 obtain ⟨k, hk⟩ := List.getElem?_of_mem hs
 have := h.ok k s hk
 exact ⟨tick64 this.1, tick64 this.2.1⟩

def goodSpan (l : List Span) (k : Nat) (s : Span) : Prop := tickP s.From ∧ tickP s.To ∧ s.From ≤ s.To ∧ ∀ p, k ≠ 0 → l[k - 1]? = some p → p.To + 2 ≤ s.From

theorem rightL_iff {l : List Span} : RightL l ↔ ∀ k s, l[k]? = some s → goodSpan l k s := by
 constructor
 ·intro h k s hk
  obtain ⟨h1, h2, h3⟩ := h.ok k s hk
  refine ⟨h1, h2, h3, fun p h0 hp => ?_⟩
  have : k - 1 + 1 = k := by omega
  exact h.gap (k - 1) p s hp (by rw [this]; exact hk)
 ·intro h
  refine ⟨fun k s hk => ⟨(h k s hk).1, (h k s hk).2.1, (h k s hk).2.2.1⟩, fun k s t hs ht => (h (k + 1) t ht).2.2.2 s (by omega) (by simpa using hs)⟩

theorem spans_Right_eq {l : List Span} (hl : Len l) (h64 : Sp64 l) : ∃ b, spans_Right l = some b ∧ (b = true ↔ RightL l) := by
 have hlen : l.length ≤ maxLen := by rw [maxLen_eq]; have := reach_eq; unfold Len at hl; omega
 have step : ∀ (k : Nat) (s : Span), l[k]? = some s → (∀ j y, j < k → l[j]? = some y → goodSpan l j y) → ∃ b, spans_Right.s0 l (k : Int) = (if b = true then some (.inl ((k : Int) + 1)) else some (.inr (.ret false))) ∧ (b = true ↔ goodSpan l k s) := by
  intro k s hk hprev
  have hlt := (List.getElem?_eq_some_iff.1 hk).1
  have hat : at? l (k : Int) = some s := by rw [at?_nat hlt]; rw [List.getElem?_eq_getElem hlt] at hk; exact hk
  unfold spans_Right.s0
  rw [dec_t (show (k : Int) < l.length by omega), cond_true, hat]
  simp only [Option.bind_some, spans_tick_eq]
  have hk1 : w64 ((k : Int) + 1) = k + 1 := w64_id (by rw [maxLen_eq] at hlen; omega)
  by_cases h1 : tickP s.From ∧ tickP s.To ∧ s.From ≤ s.To
  ·have : (!decide (tickP s.From) || !decide (tickP s.To) || decide (s.From > s.To)) = false := by
    rw [dec_t h1.1, dec_t h1.2.1, dec_f (by omega)]; rfl
   rw [this, cond_false]
   by_cases h0 : k = 0
   ·subst h0
    refine ⟨true, by simp [w64]; rw [wrap_i64]; rfl, by simp [goodSpan, h1]⟩
   ·have hk0 : (k : Int) > 0 := by omega
    have hpl : k - 1 < l.length := by omega
    have hp : at? l (w64 ((k : Int) - 1)) = some l[k - 1] := by
     rw [w64_id (by rw [maxLen_eq] at hlen; omega), show ((k : Int) - 1) = ((k - 1 : Nat) : Int) by omega, at?_nat hpl]
    have hpg := hprev (k - 1) _ (by omega) (List.getElem?_eq_getElem hpl)
    have hpt : w64 (l[k - 1].To + 2) = l[k - 1].To + 2 := by
     have := hpg.2.1; unfold tickP at this; exact w64_id (by omega)
    rw [dec_t hk0, cond_true, hp]
    simp only [Option.bind_some, hpt]
    refine ⟨!decide (s.From < l[k - 1].To + 2), ?_, ?_⟩
    ·cases hd : decide (s.From < l[k - 1].To + 2) <;> simp [hk1]
    ·simp only [Bool.not_eq_true', decide_eq_false_iff_not, goodSpan]
     constructor
     ·intro h; refine ⟨h1.1, h1.2.1, h1.2.2, fun p _ hp' => ?_⟩
      rw [List.getElem?_eq_getElem hpl] at hp'; cases hp'; omega
     ·intro h; have := h.2.2.2 _ h0 (List.getElem?_eq_getElem hpl); omega
  ·refine ⟨false, ?_, by simp only [Bool.false_eq_true, goodSpan, false_iff]; intro h; exact h1 ⟨h.1, h.2.1, h.2.2.1⟩⟩
   have : (!decide (tickP s.From) || !decide (tickP s.To) || decide (s.From > s.To)) = true := by
    by_cases a1 : tickP s.From
    ·by_cases a2 : tickP s.To
     ·have a3 : s.From > s.To := by
       apply Classical.byContradiction
       intro h
       exact h1 ⟨a1, a2, by omega⟩
      rw [dec_t a3]; simp
     ·rw [dec_f a2]; simp
    ·rw [dec_f a1]; simp
   rw [this]; rfl
 unfold spans_Right
 rcases all_loop (l := l) (step := spans_Right.s0 l) (goodSpan l) (no := .ret false) (yes := .go ()) (fun k x hk hp => by
   obtain ⟨b, h1, h2⟩ := step k x hk hp
   cases b
   ·exact .inr ⟨h1, fun h => by have := h2.2 h; cases this⟩
   ·exact .inl ⟨h1, h2.1 rfl⟩) (by
   unfold spans_Right.s0; rw [dec_f (by omega)]; rfl) with ⟨h1, h2⟩ | ⟨h1, h2⟩
 ·rw [h1]; exact ⟨true, rfl, by simp [rightL_iff.2 h2]⟩
 ·rw [h1]; exact ⟨false, rfl, by simp only [Bool.false_eq_true, false_iff]; exact fun h => h2 (rightL_iff.1 h)⟩


def shiftS (by_ : Int) (s : Span) : Span := ⟨s.From + by_, s.To + by_⟩

theorem spans_Move_eq {l : List Span} {b : Int} (hl : Len l) (h64 : Sp64 l) (hb : In64 b) :
  ((∀ s ∈ l, tickP (s.From + b) ∧ tickP (s.To + b)) ∧ spans_Move l b = some (l.map (shiftS b), 0)) ∨ ((¬ ∀ s ∈ l, tickP (s.From + b) ∧ tickP (s.To + b)) ∧ spans_Move l b = some ([], 20)) := by
 have hlen : (l.length : Int) < 9223372036854775807 := by have := reach_eq; unfold Len at hl; omega
 have step : ∀ (k : Nat) (s : Span) (acc : List Span), l[k]? = some s → acc.length = k → spans_Move.s0 l b ((k : Int), acc) = if tickP (s.From + b) ∧ tickP (s.To + b) then some (.inl ((k : Int) + 1, acc ++ [shiftS b s])) else some (.inr (.ret ([], 20))) := by
  intro k s acc hk hacc
  have hlt := (List.getElem?_eq_some_iff.1 hk).1
  have hat : at? l (k : Int) = some s := by rw [at?_nat hlt]; rw [List.getElem?_eq_getElem hlt] at hk; exact hk
  obtain ⟨f64, t64⟩ := h64 s (List.mem_of_getElem? hk)
  unfold spans_Move.s0
  rw [dec_t (show (k : Int) < l.length by omega), cond_true, hat]
  simp only [Option.bind_some]
  rw [safe_Add_eq f64 hb, safe_Add_eq t64 hb, spans_tick_eq, spans_tick_eq]
  have hk1 : w64 ((k : Int) + 1) = k + 1 := w64_id (by omega)
  have happ : ∀ x : Span, app? 16 acc [x] = some (acc ++ [x]) := fun x => app?_ok (by
   have := reach_eq; have := room_eq; unfold Len at hl; simp; omega)
  rcases fit_or (s.From + b) with ⟨q1, q2⟩ | ⟨q1, q2⟩ <;> rcases fit_or (s.To + b) with ⟨q3, q4⟩ | ⟨q3, q4⟩ <;> rw [q2, q4]
  ·by_cases h : tickP (s.From + b) ∧ tickP (s.To + b)
   ·rw [if_pos h, dec_t h.1, dec_t h.2]
    simp [happ, hk1, shiftS]
   ·rw [if_neg h]
    have : (!decide (tickP (s.From + b)) || !decide (tickP (s.To + b))) = true := by
     by_cases h1 : tickP (s.From + b)
     ·rw [dec_f (fun h2 => h ⟨h1, h2⟩)]; simp
     ·rw [dec_f h1]; simp
    simp only [bne_self_eq_false, Bool.false_or, Bool.or_assoc] at this ⊢
    rw [this]; rfl
  ·rw [if_neg (fun h => q3 (tick64 h.2))]; rfl
  ·rw [if_neg (fun h => q1 (tick64 h.1))]; rfl
  ·rw [if_neg (fun h => q1 (tick64 h.1))]; rfl
 have hend : ∀ acc, spans_Move.s0 l b ((l.length : Int), acc) = some (.inr (.go acc)) := fun acc => by unfold spans_Move.s0; rw [dec_f (by omega)]; rfl
 unfold spans_Move
 by_cases hall : ∀ s ∈ l, tickP (s.From + b) ∧ tickP (s.To + b)
 ·refine .inl ⟨hall, ?_⟩
  have : loopO (spans_Move.s0 l b) (0, []) = some (.go (l.map (shiftS b))) := by
   refine loopO_val (I := fun (s : Int × List Span) r => r = .go (l.map (shiftS b)) ∧ ∃ k : Nat, k ≤ l.length ∧ s = ((k : Int), (l.take k).map (shiftS b))) (fun s => l.length - s.1.toNat) ?_ ⟨rfl, 0, Nat.zero_le _, by simp⟩
   rintro s r ⟨rfl, k, hk, rfl⟩
   by_cases hlt : k < l.length
   ·refine .inl ⟨_, by rw [step k l[k] _ (List.getElem?_eq_getElem hlt) (by simp; omega), if_pos (hall _ (List.getElem_mem hlt))], ⟨rfl, k + 1, hlt, ?_⟩, by simp; omega⟩
    rw [List.take_succ_eq_append_getElem hlt, List.map_append]; push_cast; rfl
   ·have : k = l.length := by omega
    subst this
    rw [List.take_length]
    exact .inr (hend _)
  rw [this]; rfl
 ·refine .inr ⟨hall, ?_⟩
  obtain ⟨k0, s0, hk0, hb0, hg⟩ := first_bad (l := l) (good := fun _ s => tickP (s.From + b) ∧ tickP (s.To + b)) (fun h => hall fun s hs => by
   obtain ⟨k, hk⟩ := List.getElem?_of_mem hs; exact h k s hk)
  have hlt0 := (List.getElem?_eq_some_iff.1 hk0).1
  have : loopO (spans_Move.s0 l b) (0, []) = some (.ret ([], 20)) := by
   refine loopO_val (I := fun (s : Int × List Span) r => r = .ret ([], 20) ∧ ∃ k : Nat, k ≤ k0 ∧ s.1 = (k : Int) ∧ s.2.length = k) (fun s => l.length - s.1.toNat) ?_ ⟨rfl, 0, Nat.zero_le _, rfl, rfl⟩
   rintro ⟨i, acc⟩ r ⟨rfl, k, hk, h1, h2⟩
   simp only at h1 h2
   subst h1
   by_cases hlt : k < k0
   ·have hkl : k < l.length := by omega
    exact .inl ⟨_, by rw [step k l[k] _ (List.getElem?_eq_getElem hkl) h2, if_pos (hg k _ hlt (List.getElem?_eq_getElem hkl))], ⟨rfl, k + 1, hlt, by push_cast; rfl, by simp; omega⟩, by simp; omega⟩
   ·have : k = k0 := by omega
    subst this
    exact .inr (by rw [step k s0 _ hk0 h2, if_neg hb0])
  rw [this]; rfl

theorem RightL.shift {l : List Span} {b : Int} (h : RightL l) (ht : ∀ s ∈ l, tickP (s.From + b) ∧ tickP (s.To + b)) : RightL (l.map (shiftS b)) := by
 constructor
 ·intro k s hk
  rw [List.getElem?_map, Option.map_eq_some_iff] at hk
  obtain ⟨s, hk, rfl⟩ := hk
  have h1 := h.ok k s hk
  have h2 := ht s (List.mem_of_getElem? hk)
  exact ⟨h2.1, h2.2, by simp only [shiftS]; omega⟩
 ·intro k s t hk hk1
  rw [List.getElem?_map, Option.map_eq_some_iff] at hk hk1
  obtain ⟨s, hk, rfl⟩ := hk
  obtain ⟨t, hk1, rfl⟩ := hk1
  have := h.gap k s t hk hk1
  simp only [shiftS]; omega

def AheadL (a b : List Span) : Prop := ∀ x, a.getLast? = some x → ∀ y, b.head? = some y → x.To < y.From

theorem spans_Ahead_eq {a b : List Span} (ha : Len a) : ∃ r, spans_Ahead a b = some r ∧ (r = true ↔ AheadL a b) := by
 unfold spans_Ahead
 cases a with
 | nil => exact ⟨true, by simp, by simp [AheadL]⟩
 | cons x a =>
  cases b with
  | nil => exact ⟨true, by simp, by simp [AheadL]⟩
  | cons y b =>
   have hl : ((x :: a).length : Int) < 9223372036854775807 := by have := reach_eq; unfold Len at ha; omega
   have e1 : (((x :: a).length : Int) == 0 || ((y :: b).length : Int) == 0) = false := by simp; omega
   have hlt : (x :: a).length - 1 < (x :: a).length := by simp
   have e2 : at? (x :: a) (w64 (((x :: a).length : Int) - 1)) = some (x :: a)[(x :: a).length - 1] := by
    rw [w64_id (by simp at hl ⊢; omega), show (((x :: a).length : Int) - 1) = (((x :: a).length - 1 : Nat) : Int) by simp, at?_nat hlt]
   have e3 : at? (y :: b) 0 = some y := rfl
   rw [e1, cond_false, e2, e3]
   refine ⟨decide ((x :: a)[(x :: a).length - 1].To < y.From), rfl, ?_⟩
   have hlast : (x :: a).getLast? = some (x :: a)[(x :: a).length - 1] := by rw [List.getLast?_eq_getElem?, List.getElem?_eq_getElem hlt]
   simp only [decide_eq_true_eq, AheadL, hlast, List.head?_cons, Option.some.injEq]
   exact ⟨fun h x' hx y' hy => by rw [← hx, ← hy]; exact h, fun h => h _ rfl _ rfl⟩

theorem span_beq (x y : Span) : ((x.From == y.From) && ((x.To == y.To) && true)) = decide (x = y) := by
 obtain ⟨x1, x2⟩ := x
 obtain ⟨y1, y2⟩ := y
 by_cases h1 : x1 = y1 <;> by_cases h2 : x2 = y2 <;> simp [h1, h2]

theorem spans_Same_eq {a b : List Span} (ha : Len a) : ∃ r, spans_Same a b = some r ∧ (r = true ↔ a = b) := by
 have hl : (a.length : Int) < 9223372036854775807 := by have := reach_eq; unfold Len at ha; omega
 unfold spans_Same slices_Equal_SSpan_Span
 by_cases hlen : a.length = b.length
 ·have e1 : ((a.length : Int) != (b.length : Int)) = false := bne_f (by omega)
  rw [e1, cond_false]
  rcases all_loop (l := a) (step := slices_Equal_SSpan_Span.s0 a b) (fun k x => b[k]? = some x) (no := .ret false) (yes := .go ()) (fun k x hk hp => by
   have hlt := (List.getElem?_eq_some_iff.1 hk).1
   have hat : at? a (k : Int) = some x := by rw [at?_nat hlt]; rw [List.getElem?_eq_getElem hlt] at hk; exact hk
   have hbt : at? b (k : Int) = some (b[k]'(by omega)) := at?_nat (by omega)
   unfold slices_Equal_SSpan_Span.s0
   rw [dec_t (show (k : Int) < a.length by omega), cond_true, hat, hbt, w64_id (show _ by omega)]
   simp only [Option.bind_some, span_beq]
   rw [List.getElem?_eq_getElem (show k < b.length by omega)]
   by_cases h : x = b[k]'(by omega)
   ·rw [dec_t h]; exact .inl ⟨rfl, congrArg some h.symm⟩
   ·rw [dec_f h]; exact .inr ⟨rfl, fun e => h (Option.some.inj e).symm⟩) (by
   unfold slices_Equal_SSpan_Span.s0; rw [dec_f (by omega)]; rfl) with ⟨h1, h2⟩ | ⟨h1, h2⟩
  ·rw [h1]
   refine ⟨true, rfl, ⟨fun _ => List.ext_getElem? fun k => ?_, fun _ => rfl⟩⟩
   by_cases hk : k < a.length
   ·rw [List.getElem?_eq_getElem hk]; exact (h2 k _ (List.getElem?_eq_getElem hk)).symm
   ·rw [List.getElem?_eq_none (by omega), List.getElem?_eq_none (by omega)]
  ·rw [h1]
   refine ⟨false, rfl, by simp only [Bool.false_eq_true, false_iff]; rintro rfl; exact h2 fun k x hk => hk⟩
 ·have e1 : ((a.length : Int) != (b.length : Int)) = true := bne_t (by omega)
  rw [e1, cond_true]
  exact ⟨false, rfl, by simp only [Bool.false_eq_true, false_iff]; rintro rfl; exact hlen rfl⟩

end Go.Dn

set_option linter.unusedVariables false
set_option linter.unusedSimpArgs false
namespace Go.Dn
open Go

theorem cmp_Compare_eq (x y : Int) : cmp_Compare_int x y = if x < y then -1 else if y < x then 1 else 0 := by
 unfold cmp_Compare_int cmp_isNaN_int
 simp only [bne_self_eq_false, cond_false, pickB, decide_eq_true_eq, gt_iff_lt, Bool.false_eq_true, if_false]

def Inc (l : List Granule) : Prop := ∀ (j k : Nat) (a b : Granule), j < k → l[j]? = some a → l[k]? = some b → a.Index < b.Index

theorem bsearch_eq {l : List Granule} {t : Int} (hl : l.length * 32 ≤ reachBytes) (hs : Inc l) : ∃ p : Nat, p ≤ l.length ∧ (∀ (k : Nat) (g : Granule), l[k]? = some g → (k < p ↔ g.Index < t)) ∧
  slices_BinarySearchFunc_SGranule_Granule_int l t (fun z0 z1 => some (gran_odd_1 z0 z1)) = some ((p : Int), decide (∃ g, l[p]? = some g ∧ g.Index = t)) := by
 have hlen : (l.length : Int) < 4398046511104 * 4 := by have := reach_eq; omega
 have hcmp : ∀ g i, gran_odd_1 g i = if g.Index < i then -1 else if i < g.Index then 1 else 0 := fun g i => cmp_Compare_eq _ _
 obtain ⟨r, h1, p, rfl, hp, hlow, hhigh⟩ := loopO_inv (step := slices_BinarySearchFunc_SGranule_Granule_int.s0 l t (fun z0 z1 => some (gran_odd_1 z0 z1)))
  (I := fun s => ∃ i j : Nat, s = ((i : Int), (j : Int)) ∧ i ≤ j ∧ j ≤ l.length ∧ (∀ k g, l[k]? = some g → k < i → g.Index < t) ∧ (∀ k g, l[k]? = some g → j ≤ k → t ≤ g.Index))
  (fun s => (s.2 - s.1).toNat)
  (fun r => ∃ p : Nat, r = (p : Int) ∧ p ≤ l.length ∧ (∀ k g, l[k]? = some g → k < p → g.Index < t) ∧ (∀ k g, l[k]? = some g → p ≤ k → t ≤ g.Index)) (by
  rintro s ⟨i, j, rfl, hij, hj, hlow, hhigh⟩
  unfold slices_BinarySearchFunc_SGranule_Granule_int.s0
  by_cases hlt : i < j
  ·have hm : w64 ((IntKind.u64.wrap (w64 ((i : Int) + j))).fdiv (2 ^ 1)) = ((i + j) / 2 : Nat) := by
    rw [w64_id (x := (i : Int) + j) (by omega), wrap_u64, Int.fdiv_eq_ediv_of_nonneg _ (by decide), w64_id (by omega)]
    omega
   have hml : (i + j) / 2 < l.length := by omega
   simp only [hm]
   rw [dec_t (show (i : Int) < j by omega), cond_true, at?_nat hml]
   simp only [Option.bind_some, hcmp]
   refine .inl ?_
   have hget := List.getElem?_eq_getElem hml
   by_cases hc : l[(i + j) / 2].Index < t
   ·rw [if_pos hc]
    refine ⟨((((i + j) / 2 + 1 : Nat) : Int), (j : Int)), ?_, ⟨(i + j) / 2 + 1, j, rfl, by omega, hj, fun k g hk hki => ?_, hhigh⟩, by simp; omega⟩
    ·rw [w64_id (by omega)]; simp
    ·rcases Nat.lt_or_ge k ((i + j) / 2) with h | h
     ·have := hs k _ g _ h hk hget; omega
     ·have : k = (i + j) / 2 := by omega
      subst this; rw [hget] at hk; cases hk; exact hc
   ·rw [if_neg hc]
    refine ⟨((i : Int), (((i + j) / 2 : Nat) : Int)), ?_, ⟨i, (i + j) / 2, rfl, by omega, by omega, hlow, fun k g hk hki => ?_⟩, by simp; omega⟩
    ·split <;> simp
    ·rcases Nat.lt_or_ge ((i + j) / 2) k with h | h
     ·have := hs _ k _ g h hget hk; omega
     ·have : k = (i + j) / 2 := by omega
      subst this; rw [hget] at hk; cases hk; omega
  ·refine .inr ⟨(i : Int), by rw [dec_f (show ¬ (i : Int) < j by omega)]; rfl, i, rfl, by omega, hlow, fun k g hk hki => hhigh k g hk (by omega)⟩) (0, (l.length : Int)) ⟨0, l.length, rfl, Nat.zero_le _, Nat.le_refl _, fun k g _ h => by omega, fun k g hk h => by
    rw [List.getElem?_eq_none h] at hk; cases hk⟩
 refine ⟨p, hp, fun k g hk => ⟨fun h => hlow k g hk h, fun h => ?_⟩, ?_⟩
 ·rcases Nat.lt_or_ge k p with h2 | h2
  ·exact h2
  ·have := hhigh k g hk h2; omega
 ·unfold slices_BinarySearchFunc_SGranule_Granule_int
  rw [h1]
  simp only [Option.bind_some]
  by_cases hlt : p < l.length
  ·rw [dec_t (show (p : Int) < l.length by omega), cond_true, at?_nat hlt]
   simp only [Option.bind_some, hcmp, Option.some.injEq, Prod.mk.injEq, true_and]
   have := hhigh p _ (List.getElem?_eq_getElem hlt) (Nat.le_refl _)
   rw [List.getElem?_eq_getElem hlt]
   by_cases he : l[p].Index = t
   ·rw [if_neg (by omega), if_neg (by omega)]; simp [he]
   ·rw [if_neg (by omega), if_pos (by omega)]; simp [he]
  ·rw [dec_f (show ¬ (p : Int) < l.length by omega), cond_false]
   simp only [Option.bind_some, Option.some.injEq, Prod.mk.injEq, true_and]
   rw [List.getElem?_eq_none (by omega)]
   simp

structure Shape (f : Form) : Prop where
 count : f.Count = f.Core.length
 zero : f.Count = 0 ↔ f.Period = 0
 per : 0 ≤ f.Period ∧ f.Period ≤ 1099511627776
 core : ∀ l ∈ f.Core, RightL l
 odd : ∀ g ∈ f.Odd, RightL g.Ticks ∧ tickP g.Index
 inc : Inc f.Odd

structure Lim (f : Form) : Prop where
 core : f.Core.length * 24 ≤ reachBytes
 sets : ∀ l ∈ f.Core, Len l ∧ Sp64 l
 odd : f.Odd.length * 32 ≤ reachBytes
 ticks : ∀ g ∈ f.Odd, In64 g.Index ∧ Len g.Ticks ∧ Sp64 g.Ticks
 count : In64 f.Count
 period : In64 f.Period

theorem Form.lim {f : Form} (h : f.ok) : Lim f := by
 obtain ⟨h1, h2, h3, h4⟩ := h
 exact ⟨h3.1, fun l hl => okSpans (h3.2 l hl), h4.1, fun g hg => ⟨(h4.2 g hg).1, okSpans (h4.2 g hg).2⟩, h2, h1⟩

theorem gran_odd_eq {f : Form} (hl : Lim f) (hs : Inc f.Odd) (i : Int) : ∃ p : Nat, p ≤ f.Odd.length ∧ (∀ (k : Nat) (g : Granule), f.Odd[k]? = some g → (k < p ↔ g.Index < i)) ∧ gran_odd f i = some ((p : Int), decide (∃ g, f.Odd[p]? = some g ∧ g.Index = i)) := by
 obtain ⟨p, h1, h2, h3⟩ := bsearch_eq (t := i) hl.odd hs
 exact ⟨p, h1, h2, by unfold gran_odd; rw [h3]; rfl⟩

def isOdd (f : Form) (i : Int) : Prop := ∃ g ∈ f.Odd, g.Index = i
def coreAt (f : Form) (i : Int) : List Span := f.Core.getD (i % f.Count).toNat []
def perAt (f : Form) (i : Int) : Int := i / f.Count * f.Period
open Classical in
noncomputable def setAt (f : Form) (i : Int) : List Span := if h : isOdd f i then h.choose.Ticks else if f.Count = 0 then [] else (coreAt f i).map (shiftS (perAt f i))

theorem Inc.uniq {l : List Granule} (h : Inc l) {a b : Granule} (ha : a ∈ l) (hb : b ∈ l) (he : a.Index = b.Index) : a = b := by
 obtain ⟨j, hj⟩ := List.getElem?_of_mem ha
 obtain ⟨k, hk⟩ := List.getElem?_of_mem hb
 rcases Nat.lt_trichotomy j k with hjk | rfl | hjk
 ·have := h j k a b hjk hj hk; omega
 ·rw [hj] at hk; cases hk; rfl
 ·have := h k j b a hjk hk hj; omega

theorem setAt_odd {f : Form} (hs : Inc f.Odd) {g : Granule} (hg : g ∈ f.Odd) : setAt f g.Index = g.Ticks := by
 have h : isOdd f g.Index := ⟨g, hg, rfl⟩
 unfold setAt
 rw [dif_pos h]
 rw [hs.uniq h.choose_spec.1 hg h.choose_spec.2]
theorem setAt_none {f : Form} {i : Int} (h : ¬ isOdd f i) (h0 : f.Count = 0) : setAt f i = [] := by unfold setAt; rw [dif_neg h, if_pos h0]
theorem setAt_core {f : Form} {i : Int} (h : ¬ isOdd f i) (h0 : f.Count ≠ 0) : setAt f i = (coreAt f i).map (shiftS (perAt f i)) := by unfold setAt; rw [dif_neg h, if_neg h0]

theorem core_pos {f : Form} (hs : Shape f) (h0 : f.Count ≠ 0) : 0 < f.Count := by have := hs.count; omega
theorem coreAt_get {f : Form} (hs : Shape f) (h0 : f.Count ≠ 0) (i : Int) : at? f.Core (i % f.Count) = some (coreAt f i) ∧ coreAt f i ∈ f.Core := by
 have hp := core_pos hs h0
 have h1 := Int.emod_nonneg i h0
 have h2 := Int.emod_lt_of_pos i hp
 have h3 : (i % f.Count).toNat < f.Core.length := by have := hs.count; omega
 unfold coreAt
 rw [at?_lt h1 (by have := hs.count; omega), List.getD_eq_getElem?_getD, List.getElem?_eq_getElem h3]
 exact ⟨rfl, List.getElem_mem h3⟩

theorem gran_kept_odd {f : Form} (hl : Lim f) (hs : Shape f) {g : Granule} (hg : g ∈ f.Odd) : gran_kept f g.Index = some (g.Ticks, 0, 0) := by
 obtain ⟨p, h1, h2, h3⟩ := gran_odd_eq hl hs.inc g.Index
 obtain ⟨k, hk⟩ := List.getElem?_of_mem hg
 have hkl := (List.getElem?_eq_some_iff.1 hk).1
 have hpk : p ≤ k := by
  rcases Nat.lt_or_ge k p with h | h
  ·have := (h2 k g hk).1 h; omega
  ·exact h
 have hpl : p < f.Odd.length := by omega
 have hpg := h2 p _ (List.getElem?_eq_getElem hpl)
 have : p = k := by
  rcases Nat.lt_or_ge p k with h | h
  ·have := hs.inc p k _ g h (List.getElem?_eq_getElem hpl) hk
   exact absurd (hpg.2 this) (Nat.lt_irrefl _)
  ·omega
 subst this
 unfold gran_kept
 rw [h3]
 simp only [Option.bind_some]
 rw [dec_t ⟨g, hk, rfl⟩, cond_true, at?_nat hpl]
 rw [List.getElem?_eq_getElem hpl] at hk
 cases hk; rfl

theorem gran_kept_core {f : Form} (hl : Lim f) (hs : Shape f) {i : Int} (hi : In64 i) (ho : ¬ isOdd f i) : gran_kept f i = if f.Count = 0 then some ([], 0, 0) else some (coreAt f i, (fitS (perAt f i)).1, (fitS (perAt f i)).2) := by
 obtain ⟨p, h1, h2, h3⟩ := gran_odd_eq hl hs.inc i
 unfold gran_kept
 rw [h3]
 simp only [Option.bind_some]
 rw [dec_f (by rintro ⟨g, hg, he⟩; exact ho ⟨g, List.mem_of_getElem? hg, he⟩), cond_false]
 by_cases h0 : f.Count = 0
 ·rw [beq_t h0, cond_true, if_pos h0]
 ·rw [beq_f h0, cond_false, if_neg h0, safe_Floor_eq hi hl.count, floorS_pos (core_pos hs h0)]
  simp only [Option.bind_some]
  rw [(coreAt_get hs h0 i).1]
  simp only [Option.bind_some]
  have hq : In64 (i / f.Count) := by
   have hp := core_pos hs h0
   unfold In64 at hi ⊢
   constructor
   ·have : -9223372036854775808 ≤ i / f.Count := by
     rw [Int.le_ediv_iff_mul_le hp]
     have : (-9223372036854775808) * f.Count ≤ -9223372036854775808 := by
      have : (-9223372036854775808) * f.Count ≤ (-9223372036854775808) * 1 := Int.mul_le_mul_of_nonpos_left (by omega) (by omega)
      omega
     omega
    exact this
   ·have : i / f.Count ≤ 9223372036854775807 := by
     rcases Int.lt_or_le i 0 with h | h
     ·have : i / f.Count < 0 := Int.ediv_neg_of_neg_of_pos h hp
      omega
     ·have := Int.ediv_le_self f.Count h
      omega
    exact this
  rw [safe_Mul_eq hq hl.period]
  rfl

def fits (f : Form) (i : Int) : Prop := ∀ s ∈ setAt f i, tickP s.From ∧ tickP s.To

theorem shift0 (l : List Span) : l.map (shiftS 0) = l := by
 have : shiftS 0 = id := by funext s; simp [shiftS]
 rw [this, List.map_id]

theorem setAt_nil_core {f : Form} {i : Int} (ho : ¬ isOdd f i) (h0 : f.Count ≠ 0) : setAt f i = [] ↔ coreAt f i = [] := by rw [setAt_core ho h0, List.map_eq_nil_iff]

open Classical in
theorem gran_Get_eq {f : Form} (hl : Lim f) (hs : Shape f) {i : Int} (hi : In64 i) : gran_Get f i = some (if tickP i ∧ fits f i then (setAt f i, 0) else ([], 20)) := by
 unfold gran_Get
 rw [inRange_eq]
 by_cases ht : tickP i
 ·rw [dec_t ht, Bool.not_true, cond_false]
  by_cases ho : isOdd f i
  ·obtain ⟨g, hg, rfl⟩ := ho
   have hset := setAt_odd hs.inc hg
   have hr := (hs.odd g hg).1
   have hf : fits f g.Index := by
    intro s hsm
    rw [hset] at hsm
    obtain ⟨k, hk⟩ := List.getElem?_of_mem hsm
    exact ⟨(hr.ok k s hk).1, (hr.ok k s hk).2.1⟩
   rw [gran_kept_odd hl hs hg, if_pos ⟨ht, hf⟩, hset]
   simp only [Option.bind_some]
   by_cases hn : g.Ticks = []
   ·rw [hn]; rfl
   ·have : ((g.Ticks.length : Int) == 0) = false := beq_f (by have := List.length_pos_iff.2 hn; omega)
    rw [this, cond_false]
    simp only [bne_self_eq_false, cond_false]
    rcases spans_Move_eq (b := 0) (hl.ticks g hg).2.1 hr.sp64 ⟨by decide, by decide⟩ with ⟨_, h2⟩ | ⟨h1, _⟩
    ·rw [h2, shift0]; rfl
    ·refine absurd (fun s hsm => ?_) h1
     rw [← hset] at hsm
     simpa using hf s hsm
  ·rw [gran_kept_core hl hs hi ho]
   by_cases h0 : f.Count = 0
   ·rw [if_pos h0, if_pos ⟨ht, by intro s hsm; rw [setAt_none ho h0] at hsm; cases hsm⟩, setAt_none ho h0]; rfl
   ·rw [if_neg h0]
    simp only [Option.bind_some]
    by_cases hn : coreAt f i = []
    ·rw [if_pos ⟨ht, by intro s hsm; rw [(setAt_nil_core ho h0).2 hn] at hsm; cases hsm⟩, (setAt_nil_core ho h0).2 hn, hn]; rfl
    ·have : (((coreAt f i).length : Int) == 0) = false := beq_f (by have := List.length_pos_iff.2 hn; omega)
     rw [this, cond_false]
     have hmem := (coreAt_get hs h0 i).2
     have hr := hs.core _ hmem
     have hfe : fits f i ↔ ∀ s ∈ coreAt f i, tickP (s.From + perAt f i) ∧ tickP (s.To + perAt f i) := by
      unfold fits; rw [setAt_core ho h0]
      constructor
      ·intro h s hsm; exact h (shiftS (perAt f i) s) (List.mem_map.2 ⟨s, hsm, rfl⟩)
      ·intro h s hsm
       obtain ⟨s, hsm', rfl⟩ := List.mem_map.1 hsm
       exact h s hsm'
     rcases fit_or (perAt f i) with ⟨q1, q2⟩ | ⟨q1, q2⟩ <;> rw [q2]
     ·simp only [bne_self_eq_false, cond_false]
      rcases spans_Move_eq (b := perAt f i) (hl.sets _ hmem).1 hr.sp64 q1 with ⟨h1, h2⟩ | ⟨h1, h2⟩
      ·rw [h2, if_pos ⟨ht, hfe.2 h1⟩, setAt_core ho h0]; rfl
      ·rw [h2, if_neg (fun h => h1 (hfe.1 h.2))]; rfl
     ·rw [if_neg]
      ·rfl
      ·rintro ⟨_, h⟩
       have h := hfe.1 h
       obtain ⟨s, hsm⟩ := List.exists_mem_of_ne_nil _ hn
       have h1 := (h s hsm).1
       obtain ⟨k, hk⟩ := List.getElem?_of_mem hsm
       have h2 := (hr.ok k s hk).1
       unfold tickP at h1 h2
       exact q1 (by unfold In64; omega)
 ·rw [dec_f ht, if_neg (fun h => ht h.1)]; rfl

open Classical in
theorem gran_some_eq {f : Form} (hl : Lim f) (hs : Shape f) {i : Int} (hi : In64 i) : gran_some f i = some (decide (setAt f i ≠ [])) := by
 unfold gran_some
 by_cases ho : isOdd f i
 ·obtain ⟨g, hg, rfl⟩ := ho
  rw [gran_kept_odd hl hs hg, setAt_odd hs.inc hg]
  simp only [Option.bind_some]
  cases g.Ticks <;> simp
 ·rw [gran_kept_core hl hs hi ho]
  by_cases h0 : f.Count = 0
  ·rw [if_pos h0, setAt_none ho h0]; rfl
  ·rw [if_neg h0]
   simp only [Option.bind_some, Ne, setAt_nil_core ho h0]
   cases coreAt f i <;> simp

end Go.Dn

set_option linter.unusedVariables false
set_option linter.unusedSimpArgs false
namespace Go.Dn
open Go

theorem len_lt {α : Type} {l : List α} {b : Nat} (h : l.length * (b + 1) ≤ reachBytes) : (l.length : Int) < 4611686018427387904 := by
 have := reach_eq
 have : l.length ≤ l.length * (b + 1) := Nat.le_mul_of_pos_right _ (by omega)
 omega

theorem nat_at {α : Type} {l : List α} {k : Nat} {x : α} (h : l[k]? = some x) : at? l (k : Int) = some x ∧ (k : Int) < l.length := by
 have hlt := (List.getElem?_eq_some_iff.1 h).1
 rw [List.getElem?_eq_getElem hlt] at h
 exact ⟨by rw [at?_nat hlt]; exact h, by omega⟩

theorem shape_core {f : Form} (hl : Lim f) : (loopO (gran_shape.s0 f) 0 = some (.go ()) ∧ ∀ l ∈ f.Core, RightL l) ∨ (loopO (gran_shape.s0 f) 0 = some (.ret false) ∧ ¬ ∀ l ∈ f.Core, RightL l) := by
 have hlen := len_lt (b := 23) hl.core
 rcases all_loop (l := f.Core) (step := gran_shape.s0 f) (fun _ x => RightL x) (no := .ret false) (yes := .go ()) (fun k x hk _ => by
   obtain ⟨h1, h2⟩ := nat_at hk
   obtain ⟨b, hb, hr⟩ := spans_Right_eq (hl.sets x (List.mem_of_getElem? hk)).1 (hl.sets x (List.mem_of_getElem? hk)).2
   unfold gran_shape.s0
   rw [dec_t h2, cond_true, h1]
   simp only [Option.bind_some, hb, w64_id (show -9223372036854775808 ≤ (k : Int) + 1 ∧ (k : Int) + 1 ≤ 9223372036854775807 by omega)]
   cases b
   ·exact .inr ⟨rfl, fun h => by have := hr.2 h; cases this⟩
   ·exact .inl ⟨rfl, hr.1 rfl⟩) (by unfold gran_shape.s0; rw [dec_f (by omega)]; rfl) with ⟨h1, h2⟩ | ⟨h1, h2⟩
 ·exact .inl ⟨h1, fun l hm => by obtain ⟨k, hk⟩ := List.getElem?_of_mem hm; exact h2 k l hk⟩
 ·exact .inr ⟨h1, fun h => h2 fun k x hk => h x (List.mem_of_getElem? hk)⟩

def goodOdd (f : Form) (k : Nat) (g : Granule) : Prop := RightL g.Ticks ∧ tickP g.Index ∧ ∀ p, k ≠ 0 → f.Odd[k - 1]? = some p → p.Index < g.Index

theorem shape_odd {f : Form} (hl : Lim f) : (loopO (gran_shape.s1 f) 0 = some (.go ()) ∧ ∀ k g, f.Odd[k]? = some g → goodOdd f k g) ∨ (loopO (gran_shape.s1 f) 0 = some (.ret false) ∧ ¬ ∀ k g, f.Odd[k]? = some g → goodOdd f k g) := by
 have hlen := len_lt (b := 31) hl.odd
 refine all_loop (l := f.Odd) (step := gran_shape.s1 f) (goodOdd f) (no := .ret false) (yes := .go ()) (fun k x hk _ => ?_) (by unfold gran_shape.s1; rw [dec_f (by omega)]; rfl)
 obtain ⟨h1, h2⟩ := nat_at hk
 have hx := hl.ticks x (List.mem_of_getElem? hk)
 obtain ⟨b, hb, hr⟩ := spans_Right_eq hx.2.1 hx.2.2
 unfold gran_shape.s1
 rw [dec_t h2, cond_true, h1]
 simp only [Option.bind_some, hb, inRange_eq, w64_id (show -9223372036854775808 ≤ (k : Int) + 1 ∧ (k : Int) + 1 ≤ 9223372036854775807 by omega)]
 by_cases hbt : b = true ∧ tickP x.Index
 ·rw [hbt.1, dec_t hbt.2]
  simp only [Bool.not_true, Bool.or_self, cond_false]
  by_cases h0 : k = 0
  ·subst h0
   exact .inl ⟨by simp, hr.1 hbt.1, hbt.2, fun p h => absurd rfl h⟩
  ·have hpl : k - 1 < f.Odd.length := by omega
   rw [dec_t (show (k : Int) > 0 by omega), cond_true, w64_id (by omega), show (k : Int) - 1 = ((k - 1 : Nat) : Int) by omega, at?_nat hpl]
   simp only [Option.bind_some]
   by_cases hc : x.Index ≤ f.Odd[k - 1].Index
   ·rw [dec_t hc]
    refine .inr ⟨rfl, fun h => ?_⟩
    have := h.2.2 _ h0 (List.getElem?_eq_getElem hpl); omega
   ·rw [dec_f hc]
    refine .inl ⟨rfl, hr.1 hbt.1, hbt.2, fun p _ hp => ?_⟩
    rw [List.getElem?_eq_getElem hpl] at hp; cases hp; omega
 ·have : (!b || !decide (tickP x.Index)) = true := by
   cases b
   ·rfl
   ·rw [dec_f (fun h => hbt ⟨rfl, h⟩)]; rfl
  rw [this, cond_true]
  exact .inr ⟨rfl, fun h => hbt ⟨hr.2 h.1, h.2.1⟩⟩

theorem inc_of {f : Form} (h : ∀ k g, f.Odd[k]? = some g → goodOdd f k g) : Inc f.Odd := by
 intro j k a b hjk ha hb
 induction k generalizing b with
 | zero => omega
 | succ k ih =>
  have hkl := (List.getElem?_eq_some_iff.1 hb).1
  have h1 := (h (k + 1) b hb).2.2 f.Odd[k] (by omega) (by simp [List.getElem?_eq_getElem (show k < f.Odd.length by omega)])
  rcases Nat.lt_or_ge j k with h2 | h2
  ·have := ih _ h2 (List.getElem?_eq_getElem (show k < f.Odd.length by omega)); omega
  ·have : j = k := by omega
   subst this
   rw [List.getElem?_eq_getElem (show j < f.Odd.length by omega)] at ha; cases ha; exact h1

theorem gran_shape_eq {f : Form} (hl : Lim f) : ∃ b, gran_shape f = some b ∧ (b = true ↔ Shape f) := by
 unfold gran_shape
 by_cases h1 : f.Count = f.Core.length ∧ (f.Count = 0 ↔ f.Period = 0) ∧ 0 ≤ f.Period ∧ f.Period ≤ 1099511627776
 ·have e : (f.Count != (f.Core.length : Int) || (f.Count == 0) != (f.Period == 0) || decide (f.Period < 0) || decide (f.Period > 1099511627776)) = false := by
   rw [bne_f h1.1, dec_f (show ¬ f.Period < 0 by omega), dec_f (show ¬ f.Period > 1099511627776 by omega)]
   simp only [Bool.false_or, Bool.or_false, bne_eq_false_iff_eq, ibeq, decide_eq_decide]
   exact h1.2.1
  rw [e, cond_false]
  rcases shape_core hl with ⟨h2, h3⟩ | ⟨h2, h3⟩
  ·rw [h2]
   simp only [Option.bind_some, Jx.elim]
   rcases shape_odd hl with ⟨h4, h5⟩ | ⟨h4, h5⟩
   ·rw [h4]
    exact ⟨true, rfl, fun _ => ⟨h1.1, h1.2.1, h1.2.2, h3, fun g hg => by obtain ⟨k, hk⟩ := List.getElem?_of_mem hg; exact ⟨(h5 k g hk).1, (h5 k g hk).2.1⟩, inc_of h5⟩, fun _ => rfl⟩
   ·rw [h4]
    refine ⟨false, rfl, fun h => (by cases h), fun h => absurd (fun k g hk => ⟨(h.odd g (List.mem_of_getElem? hk)).1, (h.odd g (List.mem_of_getElem? hk)).2, fun p h0 hp => h.inc (k - 1) k p g (by omega) hp hk⟩) h5⟩
  ·rw [h2]
   exact ⟨false, rfl, fun h => (by cases h), fun h => absurd h.core h3⟩
 ·have e : (f.Count != (f.Core.length : Int) || (f.Count == 0) != (f.Period == 0) || decide (f.Period < 0) || decide (f.Period > 1099511627776)) = true := by
   apply Classical.byContradiction
   intro hn
   simp only [Bool.not_eq_true, Bool.or_eq_false_iff, bne_eq_false_iff_eq, decide_eq_false_iff_not, ibeq, decide_eq_decide] at hn
   exact h1 ⟨hn.1.1.1, hn.1.1.2, by omega, by omega⟩
  rw [e, cond_true]
  exact ⟨false, rfl, fun h => (by cases h), fun h => absurd ⟨h.count, h.zero, h.per⟩ h1⟩

def fstT (l : List Span) : Int := (l.head?.map Span.From).getD 0
def lstT (l : List Span) : Int := (l.getLast?.map Span.To).getD 0

theorem aheadL_iff {a b : List Span} (ha : a ≠ []) (hb : b ≠ []) : AheadL a b ↔ lstT a < fstT b := by
 unfold AheadL lstT fstT
 rw [List.getLast?_eq_some_getLast ha, List.head?_eq_some_head hb]
 simp

theorem RightL.tail {s : Span} {l : List Span} (h : RightL (s :: l)) : RightL l :=
 ⟨fun k x hk => h.ok (k + 1) x hk, fun k x y hx hy => h.gap (k + 1) x y hx hy⟩

theorem fst_le_lst {l : List Span} (h : RightL l) (hn : l ≠ []) : fstT l ≤ lstT l := by
 induction l with
 | nil => exact absurd rfl hn
 | cons s l ih =>
  have h0 := h.ok 0 s rfl
  cases l with
  | nil => simp [fstT, lstT]; exact h0.2.2
  | cons t l =>
   have h1 := h.gap 0 s t rfl rfl
   have h2 := ih h.tail (by simp)
   have e1 : lstT (s :: t :: l) = lstT (t :: l) := by simp [lstT]
   have e2 : fstT (t :: l) = t.From := rfl
   have e3 : fstT (s :: t :: l) = s.From := rfl
   rw [e1, e3]; rw [e2] at h2; omega

theorem lst_tick {l : List Span} (h : RightL l) (hn : l ≠ []) : tickP (lstT l) ∧ tickP (fstT l) := by
 have h1 : l.getLast? = some (l.getLast hn) := List.getLast?_eq_some_getLast hn
 have h2 : l.head? = some (l.head hn) := List.head?_eq_some_head hn
 obtain ⟨j, hj⟩ := List.getElem?_of_mem (List.getLast_mem hn)
 obtain ⟨k, hk⟩ := List.getElem?_of_mem (List.head_mem hn)
 unfold lstT fstT
 rw [h1, h2]
 exact ⟨(h.ok j _ hj).2.1, (h.ok k _ hk).1⟩

def full (f : Form) : List (List Span) := f.Core.filter (fun l => decide (l.length > 0))
def Turns (f : Form) : Prop := (∀ (k : Nat) (a b : List Span), (full f)[k]? = some a → (full f)[k + 1]? = some b → lstT a < fstT b) ∧ ∀ a b, (full f).getLast? = some a → (full f).head? = some b → lstT a < fstT b + f.Period

theorem full_loop {f : Form} (hl : Lim f) : loopO (gran_turns.s0 f) (0, []) = some (full f) := by
 have hlen := len_lt (b := 23) hl.core
 refine loopO_val (I := fun s r => r = full f ∧ ∃ k : Nat, k ≤ f.Core.length ∧ s = ((k : Int), (f.Core.take k).filter (fun l => decide (l.length > 0)))) (fun s => f.Core.length - s.1.toNat) ?_ ⟨rfl, 0, Nat.zero_le _, by simp⟩
 rintro s r ⟨rfl, k, hk, rfl⟩
 unfold gran_turns.s0
 by_cases hlt : k < f.Core.length
 ·have htake : f.Core.take (k + 1) = f.Core.take k ++ [f.Core[k]] := List.take_succ_eq_append_getElem hlt
  simp only
  rw [dec_t (show (k : Int) < f.Core.length by omega), cond_true, at?_nat hlt, w64_id (by omega)]
  simp only [Option.bind_some]
  refine .inl ?_
  have hfl : ((f.Core.take k).filter (fun l => decide (l.length > 0))).length ≤ k := Nat.le_trans (List.length_filter_le _ _) (by rw [List.length_take]; exact Nat.min_le_left _ _)
  by_cases hc : f.Core[k].length > 0
  ·rw [dec_t (show ((f.Core[k].length : Int) > 0) by omega), cond_true, app?_ok (by have h1 := hl.core; rw [reach_eq] at h1; rw [room_eq]; simp only [List.length_singleton]; omega)]
   exact ⟨_, rfl, ⟨trivial, k + 1, hlt, by rw [htake, List.filter_append]; simp [hc]⟩, by simp; omega⟩
  ·rw [dec_f (show ¬ ((f.Core[k].length : Int) > 0) by omega), cond_false]
   exact ⟨_, rfl, ⟨trivial, k + 1, hlt, by rw [htake, List.filter_append]; simp [hc]⟩, by simp; omega⟩
 ·have : k = f.Core.length := by omega
  subst this
  simp only
  rw [dec_f (show ¬ ((f.Core.length : Int) < f.Core.length) by omega), cond_false, List.take_length]
  exact .inr rfl

theorem gran_turns_eq {f : Form} (hl : Lim f) (hs : Shape f) : ∃ b, gran_turns f = some b ∧ (b = true ↔ Turns f) := by
 have hlen := len_lt (b := 23) hl.core
 have hfl : (full f).length ≤ f.Core.length := List.length_filter_le _ _
 have hmem : ∀ x ∈ full f, x ∈ f.Core ∧ x ≠ [] := fun x hx => by
  have := List.mem_filter.1 hx
  exact ⟨this.1, by rintro rfl; simp at this⟩
 unfold gran_turns
 rw [full_loop hl]
 simp only [Option.bind_some]
 rcases all_loop (l := full f) (step := gran_turns.s1 f (full f)) (fun k a => ∀ b, (full f)[(k + 1) % (full f).length]? = some b → lstT a < fstT b + (if k + 1 = (full f).length then f.Period else 0)) (no := .ret false) (yes := .go ()) (fun k a hk _ => by
   obtain ⟨h1, h2⟩ := nat_at hk
   have hkl : k < (full f).length := by omega
   have hmod : (k + 1) % (full f).length < (full f).length := Nat.mod_lt _ (by omega)
   have hnext : at? (full f) ((((k + 1) % (full f).length : Nat) : Int)) = some (full f)[(k + 1) % (full f).length] := at?_nat hmod
   obtain ⟨ha1, ha2⟩ := hmem a (List.mem_of_getElem? hk)
   obtain ⟨hb1, hb2⟩ := hmem _ (List.getElem_mem hmod)
   have hra := hs.core a ha1
   have hrb := hs.core _ hb1
   have hal : a.length - 1 < a.length := by have := List.length_pos_iff.2 ha2; omega
   have hlast : at? a (w64 ((a.length : Int) - 1)) = some a[a.length - 1] := by
    have := len_lt (b := 15) (hl.sets a ha1).1
    rw [w64_id (by omega), show (a.length : Int) - 1 = ((a.length - 1 : Nat) : Int) by omega, at?_nat hal]
   have hlt : lstT a = a[a.length - 1].To := by unfold lstT; rw [List.getLast?_eq_getElem?, List.getElem?_eq_getElem hal]; rfl
   unfold gran_turns.s1
   rw [dec_t h2, cond_true, h1, nz?_ok (by omega), w64_id (x := (k : Int) + 1) (by omega)]
   have htm : ((k : Int) + 1).tmod ((full f).length : Int) = (((k + 1) % (full f).length : Nat) : Int) := by
    rw [Int.tmod_eq_emod_of_nonneg (by omega)]; push_cast; rfl
   simp only [Option.bind_some, htm, hnext, hlast]
   rw [List.getElem?_eq_getElem hmod]
   generalize (full f)[(k + 1) % (full f).length] = b at *
   have hb0 : at? b 0 = some (b.head hb2) := by
    cases b with
    | nil => exact absurd rfl hb2
    | cons y b => rfl
   have hbf : fstT b = (b.head hb2).From := by unfold fstT; rw [List.head?_eq_some_head hb2]; rfl
   have htick := (lst_tick hrb hb2).2
   unfold tickP at htick
   have hper := hs.per
   by_cases hl1 : k + 1 = (full f).length
   ·have e : ((k : Int) + 1 == ((full f).length : Int)) = true := beq_t (by omega)
    rw [e, cond_true]
    simp only [Option.bind_some, hb0, ← hbf, w64_id (show -9223372036854775808 ≤ fstT b + f.Period ∧ fstT b + f.Period ≤ 9223372036854775807 by omega), ← hlt, if_pos hl1]
    by_cases hc : lstT a ≥ fstT b + f.Period
    ·rw [dec_t hc]; exact .inr ⟨rfl, fun h => by have := h b rfl; omega⟩
    ·rw [dec_f hc]; exact .inl ⟨rfl, fun b' hb' => by cases hb'; omega⟩
   ·have e : ((k : Int) + 1 == ((full f).length : Int)) = false := beq_f (by omega)
    rw [e, cond_false]
    simp only [Option.bind_some, hb0, ← hbf, w64_id (show -9223372036854775808 ≤ fstT b + 0 ∧ fstT b + 0 ≤ 9223372036854775807 by omega), ← hlt, if_neg hl1]
    by_cases hc : lstT a ≥ fstT b + 0
    ·rw [dec_t hc]; exact .inr ⟨rfl, fun h => by have := h b rfl; omega⟩
    ·rw [dec_f hc]; exact .inl ⟨rfl, fun b' hb' => by cases hb'; omega⟩) (by unfold gran_turns.s1; rw [dec_f (by omega)]; rfl) with ⟨h1, h2⟩ | ⟨h1, h2⟩
 ·rw [h1]
  refine ⟨true, rfl, fun _ => ⟨fun k a b ha hb => ?_, fun a b ha hb => ?_⟩, fun _ => rfl⟩
  ·have hkl := (List.getElem?_eq_some_iff.1 hb).1
   have := h2 k a ha b (by rw [Nat.mod_eq_of_lt hkl]; exact hb)
   rw [if_neg (by omega)] at this; omega
  ·have hn : full f ≠ [] := by rintro e; rw [e] at ha; simp at ha
   have hpos := List.length_pos_iff.2 hn
   rw [List.getLast?_eq_getElem?] at ha
   have e1 : (full f).length - 1 + 1 = (full f).length := by omega
   have := h2 _ a ha b (by rw [e1, Nat.mod_self, ← List.head?_eq_getElem?]; exact hb)
   rw [if_pos e1] at this; exact this
 ·rw [h1]
  refine ⟨false, rfl, fun h => (by cases h), fun h => absurd (fun k a hk b hb => ?_) h2⟩
  have hkl := (List.getElem?_eq_some_iff.1 hk).1
  by_cases hl1 : k + 1 = (full f).length
  ·rw [if_pos hl1]
   rw [hl1, Nat.mod_self, ← List.head?_eq_getElem?] at hb
   exact h.2 a b (by rw [List.getLast?_eq_getElem?, ← hl1]; exact hk) hb
  ·rw [if_neg hl1]
   rw [Nat.mod_eq_of_lt (by omega)] at hb
   have := h.1 k a b hk hb; omega

end Go.Dn

set_option linter.unusedVariables false
set_option linter.unusedSimpArgs false
namespace Go.Dn
open Go

theorem containsFunc_eq {l : List (List Span)} {p : List Span → Bool} (hl : l.length * 24 ≤ reachBytes) : slices_ContainsFunc_SSSpan_SSpan l (fun z => some (p z)) = some (decide (∃ x ∈ l, p x = true)) := by
 have hlen := len_lt (b := 23) hl
 unfold slices_ContainsFunc_SSSpan_SSpan slices_IndexFunc_SSSpan_SSpan
 by_cases hall : ∀ (k : Nat) (x : List Span), l[k]? = some x → ¬ p x = true
 ·have : loopO (slices_IndexFunc_SSSpan_SSpan.s0 l (fun z => some (p z))) 0 = some (.go ()) := by
   refine loopO_val (I := fun (s : Int) r => r = .go () ∧ ∃ k : Nat, s = k ∧ k ≤ l.length) (fun s => l.length - s.toNat) ?_ ⟨rfl, 0, rfl, Nat.zero_le _⟩
   rintro s r ⟨rfl, k, rfl, hk⟩
   unfold slices_IndexFunc_SSSpan_SSpan.s0
   by_cases hlt : k < l.length
   ·rw [dec_t (show (k : Int) < l.length by omega), cond_true, at?_nat hlt, w64_id (by omega)]
    have := hall k _ (List.getElem?_eq_getElem hlt)
    simp only [Option.bind_some, Bool.not_eq_true] at this ⊢
    rw [this]
    exact .inl ⟨_, rfl, ⟨trivial, k + 1, by push_cast; rfl, hlt⟩, by simp; omega⟩
   ·rw [dec_f (show ¬ (k : Int) < l.length by omega)]; exact .inr rfl
  rw [this, dec_f (by rintro ⟨x, hx, hp⟩; obtain ⟨k, hk⟩ := List.getElem?_of_mem hx; exact hall k x hk hp)]
  rfl
 ·obtain ⟨k0, x0, hx0, hb0, hg⟩ := first_bad (good := fun _ x => ¬ p x = true) hall
  have hb0 : p x0 = true := Classical.byContradiction hb0
  have hlt0 := (List.getElem?_eq_some_iff.1 hx0).1
  have : loopO (slices_IndexFunc_SSSpan_SSpan.s0 l (fun z => some (p z))) 0 = some (.ret (k0 : Int)) := by
   refine loopO_val (I := fun (s : Int) r => r = .ret (k0 : Int) ∧ ∃ k : Nat, s = k ∧ k ≤ k0) (fun s => l.length - s.toNat) ?_ ⟨rfl, 0, rfl, Nat.zero_le _⟩
   rintro s r ⟨rfl, k, rfl, hk⟩
   unfold slices_IndexFunc_SSSpan_SSpan.s0
   have hkl : k < l.length := by omega
   rw [dec_t (show (k : Int) < l.length by omega), cond_true, at?_nat hkl, w64_id (by omega)]
   by_cases hlt : k < k0
   ·have := hg k _ hlt (List.getElem?_eq_getElem hkl)
    simp only [Option.bind_some, Bool.not_eq_true] at this ⊢
    rw [this]
    exact .inl ⟨_, rfl, ⟨trivial, k + 1, by push_cast; rfl, hlt⟩, by simp; omega⟩
   ·have : k = k0 := by omega
    subst this
    rw [List.getElem?_eq_getElem hkl] at hx0
    cases hx0
    simp only [Option.bind_some, hb0]
    exact .inr rfl
  rw [this, dec_t ⟨x0, List.mem_of_getElem? hx0, hb0⟩]
  simp only [Option.bind_some, Jx.elim]
  rw [dec_t (by omega)]

def Bare (f : Form) : Prop := ∀ l ∈ f.Core, l = []
theorem gran_bare_eq {f : Form} (hl : Lim f) : ∃ b, gran_bare f = some b ∧ (b = true ↔ Bare f) := by
 unfold gran_bare
 rw [containsFunc_eq hl.core]
 refine ⟨_, rfl, ?_⟩
 simp only [gran_bare_1, Bool.not_eq_true', decide_eq_false_iff_not, decide_eq_true_eq]
 constructor
 ·intro h l hm
  apply Classical.byContradiction
  intro hn
  exact h ⟨l, hm, by have := List.length_pos_iff.2 hn; omega⟩
 ·rintro h ⟨l, hm, hp⟩
  rw [h l hm] at hp; simp at hp

theorem setAt_bare {f : Form} (hs : Shape f) (hb : Bare f) {i : Int} (ho : ¬ isOdd f i) : setAt f i = [] := by
 by_cases h0 : f.Count = 0
 ·exact setAt_none ho h0
 ·exact (setAt_nil_core ho h0).2 (hb _ (coreAt_get hs h0 i).2)

def UpTo (f : Form) (i : Int) (r : Int × Bool) : Prop := (r.2 = true ∧ i ≤ r.1 ∧ tickP r.1 ∧ setAt f r.1 ≠ [] ∧ ∀ k, i ≤ k → k < r.1 → setAt f k = []) ∨ (r.2 = false ∧ r.1 = 0 ∧ ∀ k, i ≤ k → tickP k → setAt f k = [])
def DownTo (f : Form) (i : Int) (r : Int × Bool) : Prop := (r.2 = true ∧ r.1 ≤ i ∧ tickP r.1 ∧ setAt f r.1 ≠ [] ∧ ∀ k, k ≤ i → r.1 < k → setAt f k = []) ∨ (r.2 = false ∧ r.1 = 0 ∧ ∀ k, k ≤ i → tickP k → setAt f k = [])

theorem odd_split {f : Form} (hs : Shape f) {p : Nat} {i : Int} (hp : ∀ (k : Nat) (g : Granule), f.Odd[k]? = some g → (k < p ↔ g.Index < i)) {j : Int} (hj : isOdd f j) : ∃ (k : Nat) (g : Granule), f.Odd[k]? = some g ∧ g.Index = j ∧ (k < p ↔ j < i) := by
 obtain ⟨g, hg, rfl⟩ := hj
 obtain ⟨k, hk⟩ := List.getElem?_of_mem hg
 exact ⟨k, g, hk, rfl, hp k g hk⟩

theorem gran_step_up {f : Form} (hl : Lim f) (hs : Shape f) {i : Int} (hi : -1099511627776 ≤ i ∧ i ≤ 1099511627776) : ∃ r, gran_step f i 1 = some r ∧ UpTo f i r := by
 have hi64 : In64 i := by unfold In64; omega
 obtain ⟨b, hb, hbb⟩ := gran_bare_eq hl
 have holen := len_lt (b := 31) hl.odd
 unfold gran_step
 rw [hb]
 simp only [Option.bind_some]
 cases b with
 | true =>
  have hbare := hbb.1 rfl
  rw [cond_true]
  obtain ⟨p, h1, h2, h3⟩ := gran_odd_eq hl hs.inc i
  rw [h3]
  simp only [Option.bind_some, dec_f (show ¬ (1 : Int) < 0 by omega), Bool.false_and, cond_false]
  obtain ⟨r, hr, hpost⟩ := loopO_inv (step := gran_step.s0 f 1) (I := fun (s : Int) => ∃ k : Nat, s = k ∧ p ≤ k ∧ k ≤ f.Odd.length ∧ ∀ (j : Nat) (g : Granule), f.Odd[j]? = some g → p ≤ j → j < k → g.Ticks = []) (fun s => f.Odd.length - s.toNat)
   (fun r => (∃ (k : Nat) (g : Granule), r = .ret (g.Index, true) ∧ f.Odd[k]? = some g ∧ p ≤ k ∧ g.Ticks ≠ [] ∧ ∀ (j : Nat) (g' : Granule), f.Odd[j]? = some g' → p ≤ j → j < k → g'.Ticks = []) ∨ (r = .go () ∧ ∀ (j : Nat) (g' : Granule), f.Odd[j]? = some g' → p ≤ j → g'.Ticks = [])) (by
   rintro s ⟨k, rfl, hpk, hk, hn⟩
   unfold gran_step.s0
   by_cases hlt : k < f.Odd.length
   ·rw [dec_t (show (k : Int) ≥ 0 by omega), dec_t (show (k : Int) < f.Odd.length by omega), Bool.and_self, cond_true, at?_nat hlt, w64_id (by omega)]
    simp only [Option.bind_some]
    have hget := List.getElem?_eq_getElem hlt
    by_cases hc : f.Odd[k].Ticks = []
    ·rw [hc]
     refine .inl ⟨(k : Int) + 1, rfl, ⟨k + 1, by push_cast; rfl, by omega, hlt, fun j g hj hpj hjk => ?_⟩, by simp; omega⟩
     rcases Nat.lt_or_ge j k with h | h
     ·exact hn j g hj hpj h
     ·have : j = k := by omega
      subst this; rw [hget] at hj; cases hj; exact hc
    ·rw [dec_t (show ((f.Odd[k].Ticks.length : Int) > 0) by have := List.length_pos_iff.2 hc; omega), cond_true]
     exact .inr ⟨_, rfl, .inl ⟨k, _, rfl, hget, hpk, hc, hn⟩⟩
   ·rw [dec_f (show ¬ (k : Int) < f.Odd.length by omega), Bool.and_false, cond_false]
    refine .inr ⟨_, rfl, .inr ⟨rfl, fun j g hj hpj => hn j g hj hpj ?_⟩⟩
    have := (List.getElem?_eq_some_iff.1 hj).1; omega) (p : Int) ⟨p, rfl, Nat.le_refl _, h1, fun j g _ h h' => by omega⟩
  rw [hr]
  simp only [Option.bind_some]
  rcases hpost with ⟨k, g, rfl, hk, hpk, hne, hn⟩ | ⟨rfl, hn⟩
  ·have hset := setAt_odd hs.inc (List.mem_of_getElem? hk)
   have hgi : ¬ g.Index < i := fun h => by have := (h2 k g hk).2 h; omega
   refine ⟨_, rfl, .inl ⟨rfl, by simp only; omega, (hs.odd g (List.mem_of_getElem? hk)).2, by simp only; rw [hset]; exact hne, fun j hij hjg => ?_⟩⟩
   simp only at hjg
   by_cases ho : isOdd f j
   ·obtain ⟨k', g', hk', rfl, hiff⟩ := odd_split hs h2 ho
    rw [setAt_odd hs.inc (List.mem_of_getElem? hk')]
    refine hn k' g' hk' ?_ ?_
    ·rcases Nat.lt_or_ge k' p with h | h
     ·have := hiff.1 h; omega
     ·exact h
    ·rcases Nat.lt_or_ge k' k with h | h
     ·exact h
     ·rcases Nat.lt_or_ge k k' with h' | h'
      ·have := hs.inc k k' g g' h' hk hk'; omega
      ·have : k = k' := by omega
       subst this; rw [hk] at hk'; cases hk'; omega
   ·exact setAt_bare hs hbare ho
  ·refine ⟨_, rfl, .inr ⟨rfl, rfl, fun j hij _ => ?_⟩⟩
   by_cases ho : isOdd f j
   ·obtain ⟨k', g', hk', rfl, hiff⟩ := odd_split hs h2 ho
    rw [setAt_odd hs.inc (List.mem_of_getElem? hk')]
    refine hn k' g' hk' ?_
    rcases Nat.lt_or_ge k' p with h | h
    ·have := hiff.1 h; omega
    ·exact h
   ·exact setAt_bare hs hbare ho
 | false =>
  rw [cond_false]
  obtain ⟨r, hr, hpost⟩ := loopO_inv (step := gran_step.s1 f 1) (I := fun (s : Int) => i ≤ s ∧ s ≤ 1099511627777 ∧ ∀ k, i ≤ k → k < s → setAt f k = []) (fun s => (1099511627777 - s).toNat)
   (fun r => (∃ j, r = .ret (j, true) ∧ i ≤ j ∧ tickP j ∧ setAt f j ≠ [] ∧ ∀ k, i ≤ k → k < j → setAt f k = []) ∨ (r = .go () ∧ ∀ k, i ≤ k → tickP k → setAt f k = [])) (by
   rintro s ⟨hs1, hs2, hn⟩
   unfold gran_step.s1
   rw [inRange_eq]
   by_cases ht : tickP s
   ·rw [dec_t ht, cond_true, gran_some_eq hl hs (tick64 ht), w64_id (by unfold tickP at ht; omega)]
    simp only [Option.bind_some]
    by_cases hc : setAt f s = []
    ·rw [hc]
     refine .inl ⟨s + 1, by simp, ⟨by omega, by unfold tickP at ht; omega, fun k hk hks => ?_⟩, by unfold tickP at ht; omega⟩
     by_cases h : k = s
     ·rw [h]; exact hc
     ·exact hn k hk (by omega)
    ·rw [dec_t hc, cond_true]
     exact .inr ⟨_, rfl, .inl ⟨s, rfl, hs1, ht, hc, hn⟩⟩
   ·rw [dec_f ht, cond_false]
    exact .inr ⟨_, rfl, .inr ⟨rfl, fun k hk htk => hn k hk (by unfold tickP at ht htk; omega)⟩⟩) i ⟨Int.le_refl _, by omega, fun k h h' => by omega⟩
  rw [hr]
  simp only [Option.bind_some]
  rcases hpost with ⟨j, rfl, h1, h2, h3, h4⟩ | ⟨rfl, hn⟩
  ·exact ⟨_, rfl, .inl ⟨rfl, h1, h2, h3, h4⟩⟩
  ·exact ⟨_, rfl, .inr ⟨rfl, rfl, hn⟩⟩

theorem gran_step_down {f : Form} (hl : Lim f) (hs : Shape f) {i : Int} (hi : -1099511627776 ≤ i ∧ i ≤ 1099511627776) : ∃ r, gran_step f i (-1) = some r ∧ DownTo f i r := by
 have hi64 : In64 i := by unfold In64; omega
 obtain ⟨b, hb, hbb⟩ := gran_bare_eq hl
 have holen := len_lt (b := 31) hl.odd
 unfold gran_step
 rw [hb]
 simp only [Option.bind_some]
 cases b with
 | true =>
  have hbare := hbb.1 rfl
  rw [cond_true]
  obtain ⟨p, h1, h2, h3⟩ := gran_odd_eq hl hs.inc i
  rw [h3]
  -- the number of exceptions up to the index
  obtain ⟨q, hq1, hq2, hq3⟩ : ∃ q : Nat, q ≤ f.Odd.length ∧ (∀ (k : Nat) (g : Granule), f.Odd[k]? = some g → (k < q ↔ g.Index ≤ i)) ∧ ((bif (decide ((-1 : Int) < 0) && !decide (∃ g, f.Odd[p]? = some g ∧ g.Index = i)) then some (w64 ((p : Int) - 1)) else some (p : Int)) : Option Int) = some ((q : Int) - 1) := by
   by_cases he : ∃ g, f.Odd[p]? = some g ∧ g.Index = i
   ·obtain ⟨g, hg, hgi⟩ := he
    have hpl := (List.getElem?_eq_some_iff.1 hg).1
    refine ⟨p + 1, by omega, fun k g' hk => ?_, by rw [dec_t (p := ∃ g, f.Odd[p]? = some g ∧ g.Index = i) ⟨g, hg, hgi⟩]; simp⟩
    have := h2 k g' hk
    constructor
    ·intro h
     rcases Nat.lt_or_ge k p with h' | h'
     ·have := this.1 h'; omega
     ·have : k = p := by omega
      subst this; rw [hg] at hk; cases hk; omega
    ·intro h
     rcases Nat.lt_or_ge p k with h' | h'
     ·have := hs.inc p k g g' h' hg hk; omega
     ·omega
   ·refine ⟨p, h1, fun k g' hk => ?_, by rw [dec_f (p := ∃ g, f.Odd[p]? = some g ∧ g.Index = i) he, w64_id (by omega)]; simp⟩
    have := h2 k g' hk
    constructor
    ·intro h; have := this.1 h; omega
    ·intro h
     by_cases hgi : g'.Index = i
     ·exfalso
      have hkp : ¬ k < p := fun h' => by have := this.1 h'; omega
      rcases Nat.lt_or_ge p k with h' | h'
      ·have hpl : p < f.Odd.length := by have := (List.getElem?_eq_some_iff.1 hk).1; omega
       have h5 := hs.inc p k _ g' h' (List.getElem?_eq_getElem hpl) hk
       have h6 := (h2 p _ (List.getElem?_eq_getElem hpl)).2 (by omega)
       omega
      ·have : k = p := by omega
       subst this
       exact he ⟨g', hk, hgi⟩
     ·exact this.2 (by omega)
  simp only [Option.bind_some]
  rw [hq3]
  simp only [Option.bind_some]
  obtain ⟨r, hr, hpost⟩ := loopO_inv (step := gran_step.s0 f (-1)) (I := fun (s : Int) => ∃ k : Nat, s = (k : Int) - 1 ∧ k ≤ q ∧ ∀ (j : Nat) (g : Granule), f.Odd[j]? = some g → k ≤ j → j < q → g.Ticks = []) (fun s => (s + 1).toNat)
   (fun r => (∃ (k : Nat) (g : Granule), r = .ret (g.Index, true) ∧ f.Odd[k]? = some g ∧ k < q ∧ g.Ticks ≠ [] ∧ ∀ (j : Nat) (g' : Granule), f.Odd[j]? = some g' → k < j → j < q → g'.Ticks = []) ∨ (r = .go () ∧ ∀ (j : Nat) (g' : Granule), f.Odd[j]? = some g' → j < q → g'.Ticks = [])) (by
   rintro s ⟨k, rfl, hk, hn⟩
   unfold gran_step.s0
   by_cases h0 : 0 < k
   ·have hlt : k - 1 < f.Odd.length := by omega
    rw [dec_t (show (k : Int) - 1 ≥ 0 by omega), dec_t (show (k : Int) - 1 < f.Odd.length by omega), Bool.and_self, cond_true, show (k : Int) - 1 = ((k - 1 : Nat) : Int) by omega, at?_nat hlt, w64_id (by omega)]
    simp only [Option.bind_some]
    have hget := List.getElem?_eq_getElem hlt
    by_cases hc : f.Odd[k - 1].Ticks = []
    ·rw [hc]
     refine .inl ⟨((k - 1 : Nat) : Int) + -1, rfl, ⟨k - 1, by omega, by omega, fun j g hj hpj hjk => ?_⟩, by simp; omega⟩
     rcases Nat.lt_or_ge j k with h | h
     ·have : j = k - 1 := by omega
      subst this; rw [hget] at hj; cases hj; exact hc
     ·exact hn j g hj h hjk
    ·rw [dec_t (show ((f.Odd[k - 1].Ticks.length : Int) > 0) by have := List.length_pos_iff.2 hc; omega), cond_true]
     exact .inr ⟨_, rfl, .inl ⟨k - 1, _, rfl, hget, by omega, hc, fun j g hj h1 h2 => hn j g hj (by omega) h2⟩⟩
   ·rw [dec_f (show ¬ (k : Int) - 1 ≥ 0 by omega), Bool.false_and, cond_false]
    exact .inr ⟨_, rfl, .inr ⟨rfl, fun j g hj hjq => hn j g hj (by omega) hjq⟩⟩) ((q : Int) - 1) ⟨q, rfl, Nat.le_refl _, fun j g _ h h' => by omega⟩
  rw [hr]
  simp only [Option.bind_some]
  rcases hpost with ⟨k, g, rfl, hk, hkq, hne, hn⟩ | ⟨rfl, hn⟩
  ·have hset := setAt_odd hs.inc (List.mem_of_getElem? hk)
   have hgi := (hq2 k g hk).1 hkq
   refine ⟨_, rfl, .inl ⟨rfl, hgi, (hs.odd g (List.mem_of_getElem? hk)).2, by simp only; rw [hset]; exact hne, fun j hij hjg => ?_⟩⟩
   simp only at hjg
   by_cases ho : isOdd f j
   ·obtain ⟨g', hg', rfl⟩ := ho
    obtain ⟨k', hk'⟩ := List.getElem?_of_mem hg'
    rw [setAt_odd hs.inc hg']
    refine hn k' g' hk' ?_ ((hq2 k' g' hk').2 hij)
    rcases Nat.lt_or_ge k k' with h | h
    ·exact h
    ·rcases Nat.lt_or_ge k' k with h' | h'
     ·have := hs.inc k' k g' g h' hk' hk; omega
     ·have : k = k' := by omega
      subst this; rw [hk] at hk'; cases hk'; omega
   ·exact setAt_bare hs hbare ho
  ·refine ⟨_, rfl, .inr ⟨rfl, rfl, fun j hij _ => ?_⟩⟩
   by_cases ho : isOdd f j
   ·obtain ⟨g', hg', rfl⟩ := ho
    obtain ⟨k', hk'⟩ := List.getElem?_of_mem hg'
    rw [setAt_odd hs.inc hg']
    exact hn k' g' hk' ((hq2 k' g' hk').2 hij)
   ·exact setAt_bare hs hbare ho
 | false =>
  rw [cond_false]
  obtain ⟨r, hr, hpost⟩ := loopO_inv (step := gran_step.s1 f (-1)) (I := fun (s : Int) => s ≤ i ∧ -1099511627777 ≤ s ∧ ∀ k, k ≤ i → s < k → setAt f k = []) (fun s => (s + 1099511627777).toNat)
   (fun r => (∃ j, r = .ret (j, true) ∧ j ≤ i ∧ tickP j ∧ setAt f j ≠ [] ∧ ∀ k, k ≤ i → j < k → setAt f k = []) ∨ (r = .go () ∧ ∀ k, k ≤ i → tickP k → setAt f k = [])) (by
   rintro s ⟨hs1, hs2, hn⟩
   unfold gran_step.s1
   rw [inRange_eq]
   by_cases ht : tickP s
   ·rw [dec_t ht, cond_true, gran_some_eq hl hs (tick64 ht), w64_id (by unfold tickP at ht; omega)]
    simp only [Option.bind_some]
    by_cases hc : setAt f s = []
    ·rw [hc]
     refine .inl ⟨s + -1, by simp, ⟨by omega, by unfold tickP at ht; omega, fun k hk hks => ?_⟩, by unfold tickP at ht; omega⟩
     by_cases h : k = s
     ·rw [h]; exact hc
     ·exact hn k hk (by omega)
    ·rw [dec_t hc, cond_true]
     exact .inr ⟨_, rfl, .inl ⟨s, rfl, hs1, ht, hc, hn⟩⟩
   ·rw [dec_f ht, cond_false]
    exact .inr ⟨_, rfl, .inr ⟨rfl, fun k hk htk => hn k hk (by unfold tickP at ht htk; omega)⟩⟩) i ⟨Int.le_refl _, by omega, fun k h h' => by omega⟩
  rw [hr]
  simp only [Option.bind_some]
  rcases hpost with ⟨j, rfl, h1, h2, h3, h4⟩ | ⟨rfl, hn⟩
  ·exact ⟨_, rfl, .inl ⟨rfl, h1, h2, h3, h4⟩⟩
  ·exact ⟨_, rfl, .inr ⟨rfl, rfl, hn⟩⟩

def Above (f : Form) (i : Int) (r : Int × Bool) : Prop := (r.2 = true ∧ i < r.1 ∧ tickP r.1 ∧ setAt f r.1 ≠ [] ∧ ∀ k, i < k → k < r.1 → tickP k → setAt f k = []) ∨ (r.2 = false ∧ r.1 = 0 ∧ ∀ k, i < k → tickP k → setAt f k = [])
def Under (f : Form) (i : Int) (r : Int × Bool) : Prop := (r.2 = true ∧ r.1 < i ∧ tickP r.1 ∧ setAt f r.1 ≠ [] ∧ ∀ k, k < i → r.1 < k → tickP k → setAt f k = []) ∨ (r.2 = false ∧ r.1 = 0 ∧ ∀ k, k < i → tickP k → setAt f k = [])

theorem gran_Behind_eq {f : Form} (hl : Lim f) (hs : Shape f) {i : Int} (hi : In64 i) : ∃ r, gran_Behind f i = some r ∧ Above f i r := by
 unfold gran_Behind
 by_cases h : i ≥ 1099511627776
 ·rw [dec_t h, cond_true]
  exact ⟨_, rfl, .inr ⟨rfl, rfl, fun k hk ht => by unfold tickP at ht; omega⟩⟩
 ·rw [dec_f h, cond_false, w64_id (by unfold In64 at hi; omega)]
  have hm : iMax (i + 1) (-1099511627776) = max (i + 1) (-1099511627776) := by unfold iMax; omega
  rw [hm]
  obtain ⟨r, h1, h2⟩ := gran_step_up hl hs (i := max (i + 1) (-1099511627776)) (by omega)
  rw [h1]
  refine ⟨r, rfl, ?_⟩
  rcases h2 with ⟨a, b, c, d, e⟩ | ⟨a, b, e⟩
  ·exact .inl ⟨a, by omega, c, d, fun k hk hkr ht => e k (by unfold tickP at ht; omega) hkr⟩
  ·exact .inr ⟨a, b, fun k hk ht => e k (by have := ht; unfold tickP at this; omega) ht⟩

theorem gran_Before_eq {f : Form} (hl : Lim f) (hs : Shape f) {i : Int} (hi : In64 i) : ∃ r, gran_Before f i = some r ∧ Under f i r := by
 unfold gran_Before
 by_cases h : i ≤ -1099511627776
 ·rw [dec_t h, cond_true]
  exact ⟨_, rfl, .inr ⟨rfl, rfl, fun k hk ht => by unfold tickP at ht; omega⟩⟩
 ·rw [dec_f h, cond_false, w64_id (by unfold In64 at hi; omega)]
  have hm : iMin (i - 1) 1099511627776 = min (i - 1) 1099511627776 := by unfold iMin; omega
  rw [hm]
  obtain ⟨r, h1, h2⟩ := gran_step_down hl hs (i := min (i - 1) 1099511627776) (by omega)
  rw [h1]
  refine ⟨r, rfl, ?_⟩
  rcases h2 with ⟨a, b, c, d, e⟩ | ⟨a, b, e⟩
  ·exact .inl ⟨a, by omega, c, d, fun k hk hkr ht => e k (by unfold tickP at ht; omega) hkr⟩
  ·exact .inr ⟨a, b, fun k hk ht => e k (by have := ht; unfold tickP at this; omega) ht⟩

end Go.Dn

set_option linter.unusedVariables false
set_option linter.unusedSimpArgs false
namespace Go.Dn
open Go

def BesideR (f : Form) (i : Int) (lo hi : Int × Bool) : Prop :=
 fits f i ∧ (lo.2 = true → fits f lo.1 ∧ AheadL (setAt f lo.1) (setAt f i)) ∧ (hi.2 = true → fits f hi.1 ∧ AheadL (setAt f i) (setAt f hi.1)) ∧ (lo.2 = true → hi.2 = true → AheadL (setAt f lo.1) (setAt f hi.1))

theorem aheadL_nil_l (b : List Span) : AheadL [] b := by intro x hx; cases hx
theorem aheadL_nil_r (a : List Span) : AheadL a [] := by intro x _ y hy; cases hy

theorem setAt_len {f : Form} (hl : Lim f) (hs : Shape f) (i : Int) : Len (setAt f i) := by
 by_cases ho : isOdd f i
 ·obtain ⟨g, hg, rfl⟩ := ho
  rw [setAt_odd hs.inc hg]; exact (hl.ticks g hg).2.1
 ·by_cases h0 : f.Count = 0
  ·rw [setAt_none ho h0]; unfold Len; simp
  ·rw [setAt_core ho h0]; unfold Len; rw [List.length_map]; exact (hl.sets _ (coreAt_get hs h0 i).2).1

theorem setAt_right {f : Form} (hs : Shape f) {i : Int} (hf : fits f i) : RightL (setAt f i) := by
 by_cases ho : isOdd f i
 ·obtain ⟨g, hg, rfl⟩ := ho
  rw [setAt_odd hs.inc hg]; exact (hs.odd g hg).1
 ·by_cases h0 : f.Count = 0
  ·rw [setAt_none ho h0]; exact ⟨by simp, by simp⟩
  ·unfold fits at hf
   rw [setAt_core ho h0] at hf ⊢
   exact (hs.core _ (coreAt_get hs h0 i).2).shift fun s hs' => hf (shiftS (perAt f i) s) (List.mem_map.2 ⟨s, hs', rfl⟩)

theorem near_l {c : Bool} {X S : List Span} : AheadL (if c = true then X else []) S ↔ (c = true → AheadL X S) := by
 cases c
 ·simp [aheadL_nil_l]
 ·simp
theorem near_r {c : Bool} {X S : List Span} : AheadL S (if c = true then X else []) ↔ (c = true → AheadL S X) := by
 cases c
 ·simp [aheadL_nil_r]
 ·simp

noncomputable def sideG (f : Form) (r : Int × Bool) : Option (Jx (List Span) Bool) :=
 (bif r.2 then (gran_Get f r.1).bind fun x => (bif (x.2 != 0) then some (.ret false) else some (.go x.1)) else some (.go []))

open Classical in
theorem sideG_eq {f : Form} (hl : Lim f) (hs : Shape f) {r : Int × Bool} (ht : r.2 = true → tickP r.1) : (r.2 = true ∧ ¬ fits f r.1 ∧ sideG f r = some (.ret false)) ∨ ((r.2 = true → fits f r.1) ∧ sideG f r = some (.go (if r.2 = true then setAt f r.1 else []))) := by
 obtain ⟨j, c⟩ := r
 unfold sideG
 cases c with
 | false => exact .inr ⟨by simp, by simp⟩
 | true =>
  simp only [cond_true]
  rw [gran_Get_eq hl hs (tick64 (ht rfl))]
  by_cases hfl : fits f j
  ·rw [if_pos ⟨ht rfl, hfl⟩]; exact .inr ⟨fun _ => hfl, by simp⟩
  ·rw [if_neg (fun h => hfl h.2)]; exact .inl ⟨trivial, hfl, rfl⟩

open Classical in
theorem gran_beside_eq {f : Form} (hl : Lim f) (hs : Shape f) {i : Int} (hi : tickP i) {lo hi' : Int × Bool} (hlo : gran_Before f i = some lo) (hhi : gran_Behind f i = some hi') (tlo : lo.2 = true → tickP lo.1) (thi : hi'.2 = true → tickP hi'.1) :
  ∃ b, gran_beside f i = some b ∧ (b = true ↔ BesideR f i lo hi') := by
 have e : gran_beside f i = (gran_Get f i).bind fun x1 => (bif (x1.2 != 0) then some false else (sideG f lo).bind fun y1 => y1.elim (fun r' => some r') fun a2 => (sideG f hi').bind fun y2 => y2.elim (fun r' => some r') fun a4 =>
   (spans_Ahead a2 x1.1).bind fun x6 => ((bif x6 then (spans_Ahead x1.1 a4).bind fun x7 => some x7 else some false)).bind fun y3 => ((bif y3 then (spans_Ahead a2 a4).bind fun x8 => some x8 else some false)).bind fun y4 => some y4) := by
  unfold gran_beside sideG
  rw [hlo, hhi]
  simp only [Option.bind_some]
 rw [e, gran_Get_eq hl hs (tick64 hi)]
 clear e
 by_cases hf : fits f i
 ·rw [if_pos ⟨hi, hf⟩]
  simp only [Option.bind_some, bne_self_eq_false, cond_false]
  rcases sideG_eq hl hs tlo with ⟨h1, h2, h0⟩ | ⟨h1, h0⟩
  ·rw [h0]
   exact ⟨false, rfl, fun h => (by cases h), fun h => absurd (h.2.1 h1).1 h2⟩
  ·rw [h0]
   simp only [Option.bind_some, Jx.elim]
   rcases sideG_eq hl hs thi with ⟨h3, h4, h0'⟩ | ⟨h3, h0'⟩
   ·rw [h0']
    exact ⟨false, rfl, fun h => (by cases h), fun h => absurd (h.2.2.1 h3).1 h4⟩
   ·rw [h0']
    simp only [Option.bind_some]
    have lenA : Len (if lo.2 = true then setAt f lo.1 else []) := by
     by_cases hc : lo.2 = true
     ·rw [if_pos hc]; exact setAt_len hl hs _
     ·rw [if_neg hc]; unfold Len; simp
    generalize hA : (if lo.2 = true then setAt f lo.1 else []) = A at lenA
    generalize hB : (if hi'.2 = true then setAt f hi'.1 else []) = B
    obtain ⟨r1, q1, p1⟩ := spans_Ahead_eq (b := setAt f i) lenA
    obtain ⟨r2, q2, p2⟩ := spans_Ahead_eq (a := setAt f i) (b := B) (setAt_len hl hs i)
    obtain ⟨r3, q3, p3⟩ := spans_Ahead_eq (b := B) lenA
    rw [q1, q2, q3]
    subst hA hB
    rw [near_l] at p1
    rw [near_r] at p2
    rw [near_l, near_r] at p3
    refine ⟨r1 && r2 && r3, by cases r1 <;> cases r2 <;> rfl, ?_⟩
    rw [Bool.and_eq_true, Bool.and_eq_true, p1, p2, p3]
    constructor
    ·rintro ⟨⟨a, b⟩, c⟩
     exact ⟨hf, fun h => ⟨h1 h, a h⟩, fun h => ⟨h3 h, b h⟩, c⟩
    ·rintro ⟨_, a, b, c⟩
     exact ⟨⟨fun h => (a h).2, fun h => (b h).2⟩, c⟩
 ·rw [if_neg (fun h => hf h.2)]
  exact ⟨false, rfl, fun h => (by cases h), fun h => absurd h.1 hf⟩

def Beside (f : Form) (i : Int) : Prop := ∀ lo hi, Under f i lo → Above f i hi → BesideR f i lo hi

theorem Under.uniq {f : Form} {i : Int} {r r' : Int × Bool} (h : Under f i r) (h' : Under f i r') : r = r' := by
 obtain ⟨a, b⟩ := r
 obtain ⟨a', b'⟩ := r'
 rcases h with ⟨rfl, h1, h2, h3, h4⟩ | ⟨rfl, rfl, h4⟩ <;> rcases h' with ⟨rfl, k1, k2, k3, k4⟩ | ⟨rfl, rfl, k4⟩
 ·simp only at *
  rcases Int.lt_trichotomy a a' with h | h | h
  ·exact absurd (h4 a' k1 h k2) k3
  ·rw [h]
  ·exact absurd (k4 a h1 h h2) h3
 ·exact absurd (k4 a h1 h2) h3
 ·exact absurd (h4 a' k1 k2) k3
 ·rfl
theorem Above.uniq {f : Form} {i : Int} {r r' : Int × Bool} (h : Above f i r) (h' : Above f i r') : r = r' := by
 obtain ⟨a, b⟩ := r
 obtain ⟨a', b'⟩ := r'
 rcases h with ⟨rfl, h1, h2, h3, h4⟩ | ⟨rfl, rfl, h4⟩ <;> rcases h' with ⟨rfl, k1, k2, k3, k4⟩ | ⟨rfl, rfl, k4⟩
 ·simp only at *
  rcases Int.lt_trichotomy a a' with h | h | h
  ·exact absurd (k4 a h1 h h2) h3
  ·rw [h]
  ·exact absurd (h4 a' k1 h k2) k3
 ·exact absurd (k4 a h1 h2) h3
 ·exact absurd (h4 a' k1 k2) k3
 ·rfl

theorem gran_beside_iff {f : Form} (hl : Lim f) (hs : Shape f) {i : Int} (hi : tickP i) : ∃ b, gran_beside f i = some b ∧ (b = true ↔ Beside f i) := by
 obtain ⟨lo, h1, h2⟩ := gran_Before_eq hl hs (tick64 hi)
 obtain ⟨hi', h3, h4⟩ := gran_Behind_eq hl hs (tick64 hi)
 obtain ⟨b, h5, h6⟩ := gran_beside_eq hl hs hi h1 h3 (fun h => by rcases h2 with ⟨_, _, h, _⟩ | ⟨h', _⟩ <;> simp_all) (fun h => by rcases h4 with ⟨_, _, h, _⟩ | ⟨h', _⟩ <;> simp_all)
 refine ⟨b, h5, h6.trans ⟨fun h lo' hi'' q1 q2 => ?_, fun h => h lo hi' h2 h4⟩⟩
 rw [q1.uniq h2, q2.uniq h4]; exact h

def sizeF (f : Form) : Nat := (f.Core.map List.length).sum + (f.Odd.map (·.Ticks.length)).sum

theorem sum_take {α : Type} (g : α → Nat) {l : List α} {k : Nat} (h : k < l.length) : ((l.take (k + 1)).map g).sum = ((l.take k).map g).sum + g l[k] := by
 rw [List.take_succ_eq_append_getElem h, List.map_append, List.sum_append]; simp

theorem gran_Size_eq {f : Form} (hl : Lim f) (hc : f.Core.length ≤ 6000) (ho : f.Odd.length ≤ 6000) : gran_Size f = some (sizeF f : Int) := by
 have hr := reach_eq
 have lenC : ∀ l ∈ f.Core, l.length ≤ 8796093022207 := fun l hm => by have := (hl.sets l hm).1; unfold Len at this; omega
 have lenO : ∀ g ∈ f.Odd, g.Ticks.length ≤ 8796093022207 := fun l hm => by have := (hl.ticks l hm).2.1; unfold Len at this; omega
 obtain ⟨a, h1, h2, h3⟩ := fold_loop (l := f.Core) (step := gran_Size.s0 f) (f := fun a _ x => a + (x.length : Int)) (fin := id) (a0 := (0 : Int)) (fun k a => a = ((((f.Core.take k).map List.length).sum : Nat) : Int) ∧ a ≤ k * 8796093022207) ⟨by simp, by simp⟩ (fun k x a hk ⟨ha, hb⟩ => by
   obtain ⟨q1, q2⟩ := nat_at hk
   have hx := lenC x (List.mem_of_getElem? hk)
   have hkl : k < f.Core.length := by omega
   have h0 : 0 ≤ a := by rw [ha]; omega
   unfold gran_Size.s0
   simp only
   rw [dec_t q2, cond_true, q1, w64_id (x := (k : Int) + 1) (by omega)]
   simp only [Option.bind_some]
   rw [w64_id (x := a + (x.length : Int)) (by omega)]
   refine ⟨rfl, ?_, by push_cast; omega⟩
   rw [sum_take _ hkl]
   rw [List.getElem?_eq_getElem hkl] at hk
   cases hk; rw [ha]; push_cast; rfl) (fun a _ => by unfold gran_Size.s0; simp only; rw [dec_f (by omega)]; rfl)
 rw [List.take_length] at h2
 obtain ⟨b, h4, h5, h6⟩ := fold_loop (l := f.Odd) (step := gran_Size.s1 f) (f := fun a _ x => a + (x.Ticks.length : Int)) (fin := id) (a0 := a) (fun k b => b = a + ((((f.Odd.take k).map (·.Ticks.length)).sum : Nat) : Int) ∧ b ≤ a + k * 8796093022207) ⟨by simp, by simp⟩ (fun k x b hk ⟨ha, hb⟩ => by
   obtain ⟨q1, q2⟩ := nat_at hk
   have hx := lenO x (List.mem_of_getElem? hk)
   have hkl : k < f.Odd.length := by omega
   have h0 : 0 ≤ b := by rw [ha, h2]; omega
   unfold gran_Size.s1
   simp only
   rw [dec_t q2, cond_true, q1, w64_id (x := (k : Int) + 1) (by omega)]
   simp only [Option.bind_some]
   rw [w64_id (x := b + (x.Ticks.length : Int)) (by omega)]
   refine ⟨rfl, ?_, by push_cast; omega⟩
   rw [sum_take _ hkl]
   rw [List.getElem?_eq_getElem hkl] at hk
   cases hk; rw [ha]; push_cast; omega) (fun a _ => by unfold gran_Size.s1; simp only; rw [dec_f (by omega)]; rfl)
 rw [List.take_length] at h5
 unfold gran_Size
 rw [h1]
 simp only [Option.bind_some, id]
 rw [h4]
 simp only [Option.bind_some, id, h5, h2, sizeF]
 push_cast; rfl

structure RightF (f : Form) : Prop where
 shape : Shape f
 turns : Turns f
 beside : ∀ g ∈ f.Odd, Beside f g.Index
def LongF (f : Form) : Prop := 6000 < f.Core.length ∨ 6000 < f.Odd.length ∨ 60000 < sizeF f

theorem gran_Right_eq {f : Form} (hl : Lim f) : (LongF f ∧ gran_Right f = some 3) ∨ (¬ LongF f ∧ RightF f ∧ gran_Right f = some 0) ∨ (¬ LongF f ∧ ¬ RightF f ∧ gran_Right f = some 50) := by
 have holen := len_lt (b := 31) hl.odd
 unfold gran_Right
 by_cases h1 : 6000 < f.Core.length ∨ 6000 < f.Odd.length
 ·have e : (decide ((f.Core.length : Int) > 6000) || decide ((f.Odd.length : Int) > 6000)) = true := by
   rcases h1 with h | h
   ·rw [dec_t (show (f.Core.length : Int) > 6000 by omega)]; rfl
   ·rw [dec_t (show (f.Odd.length : Int) > 6000 by omega)]; simp
  rw [e]
  exact .inl ⟨h1.elim .inl (fun h => .inr (.inl h)), rfl⟩
 ·have e : (decide ((f.Core.length : Int) > 6000) || decide ((f.Odd.length : Int) > 6000)) = false := by
   rw [dec_f (show ¬ (f.Core.length : Int) > 6000 by omega), dec_f (show ¬ (f.Odd.length : Int) > 6000 by omega)]; rfl
  rw [e, cond_false, gran_Size_eq hl (by omega) (by omega)]
  simp only [Option.bind_some]
  by_cases h2 : 60000 < sizeF f
  ·rw [dec_t (show (sizeF f : Int) > 60000 by omega)]
   exact .inl ⟨.inr (.inr h2), rfl⟩
  ·have hnl : ¬ LongF f := by unfold LongF; omega
   rw [dec_f (show ¬ (sizeF f : Int) > 60000 by omega), cond_false]
   obtain ⟨b, hb, hbs⟩ := gran_shape_eq hl
   rw [hb]
   simp only [Option.bind_some]
   refine .inr ?_
   cases b with
   | false => exact .inr ⟨hnl, fun h => (by have := hbs.2 h.shape; cases this), rfl⟩
   | true =>
    have hs := hbs.1 rfl
    obtain ⟨c, hc, hct⟩ := gran_turns_eq hl hs
    rw [hc]
    simp only [Option.bind_some, Bool.not_true, cond_false]
    cases c with
    | false => exact .inr ⟨hnl, fun h => (by have := hct.2 h.turns; cases this), rfl⟩
    | true =>
     simp only [Bool.not_true, cond_false]
     rcases all_loop (l := f.Odd) (step := gran_Right.s0 f) (fun _ g => Beside f g.Index) (no := .ret 50) (yes := .go ()) (fun k g hk _ => by
       obtain ⟨q1, q2⟩ := nat_at hk
       obtain ⟨b, hb, hbb⟩ := gran_beside_iff hl hs (hs.odd g (List.mem_of_getElem? hk)).2
       unfold gran_Right.s0
       rw [dec_t q2, cond_true, q1, w64_id (by omega)]
       simp only [Option.bind_some, hb]
       cases b
       ·exact .inr ⟨rfl, fun h => by have := hbb.2 h; cases this⟩
       ·exact .inl ⟨rfl, hbb.1 rfl⟩) (by unfold gran_Right.s0; rw [dec_f (by omega)]; rfl) with ⟨q1, q2⟩ | ⟨q1, q2⟩
     ·rw [q1]
      exact .inl ⟨hnl, ⟨hs, hct.1 rfl, fun g hg => by obtain ⟨k, hk⟩ := List.getElem?_of_mem hg; exact q2 k g hk⟩, rfl⟩
     ·rw [q1]
      exact .inr ⟨hnl, fun h => q2 fun k g hk => h.beside g (List.mem_of_getElem? hk), rfl⟩

def SmallF (f : Form) : Prop := f.Core.length ≤ 12 ∧ f.Odd.length ≤ 8 ∧ sizeF f ≤ 60
theorem epactlaw05_Small_eq {f : Form} (hl : Lim f) : ∃ b, epactlaw05_Small f = some b ∧ (b = true ↔ SmallF f) := by
 unfold epactlaw05_Small
 by_cases h : f.Core.length ≤ 12 ∧ f.Odd.length ≤ 8
 ·rw [dec_t (show (f.Core.length : Int) ≤ 12 by omega), dec_t (show (f.Odd.length : Int) ≤ 8 by omega), gran_Size_eq hl (by omega) (by omega)]
  refine ⟨decide ((sizeF f : Int) ≤ 60), rfl, ?_⟩
  rw [decide_eq_true_iff]
  exact ⟨fun h' => ⟨h.1, h.2, by omega⟩, fun h' => by have := h'.2.2; omega⟩
 ·have e : (decide ((f.Core.length : Int) ≤ 12) && decide ((f.Odd.length : Int) ≤ 8)) = false := by
   by_cases h1 : f.Core.length ≤ 12
   ·rw [dec_f (show ¬ (f.Odd.length : Int) ≤ 8 by omega)]; simp
   ·rw [dec_f (show ¬ (f.Core.length : Int) ≤ 12 by omega)]; rfl
  rw [e]
  exact ⟨false, rfl, fun h => (by cases h), fun h' => absurd ⟨h'.1, h'.2.1⟩ h⟩

end Go.Dn

set_option linter.unusedVariables false
set_option linter.unusedSimpArgs false
namespace Go.Dn
open Go

theorem full_mem {f : Form} {l : List Span} : l ∈ full f ↔ l ∈ f.Core ∧ l ≠ [] := by
 unfold full
 rw [List.mem_filter, decide_eq_true_iff, gt_iff_lt, List.length_pos_iff]

theorem full_pair {f : Form} (hs : Shape f) (ht : Turns f) : (full f).Pairwise (fun a b => lstT a < fstT b) := by
 have hm : ∀ x ∈ full f, fstT x ≤ lstT x := fun x hx => fst_le_lst (hs.core x (full_mem.1 hx).1) (full_mem.1 hx).2
 have h1 := ht.1
 generalize full f = l at hm h1
 induction l with
 | nil => exact .nil
 | cons x l ih =>
  have ih := ih (fun y hy => hm y (List.mem_cons_of_mem _ hy)) (fun k a b ha hb => h1 (k + 1) a b ha hb)
  refine List.pairwise_cons.2 ⟨fun y hy => ?_, ih⟩
  cases l with
  | nil => cases hy
  | cons z l =>
   have hxz := h1 0 x z rfl rfl
   rcases List.mem_cons.1 hy with rfl | hy
   ·exact hxz
   ·have := (List.pairwise_cons.1 ih).1 y hy
    have := hm z (by simp)
    omega

theorem core_pair {f : Form} (hs : Shape f) (ht : Turns f) {j k : Nat} {a b : List Span} (hjk : j < k) (ha : f.Core[j]? = some a) (hb : f.Core[k]? = some b) (na : a ≠ []) (nb : b ≠ []) : lstT a < fstT b := by
 have h := full_pair hs ht
 unfold full at h
 rw [List.pairwise_filter] at h
 have hj := (List.getElem?_eq_some_iff.1 ha)
 have hk := (List.getElem?_eq_some_iff.1 hb)
 obtain ⟨hj, rfl⟩ := hj
 obtain ⟨hk, rfl⟩ := hk
 exact List.pairwise_iff_getElem.1 h j k hj hk hjk (by rw [decide_eq_true_iff]; exact List.length_pos_iff.2 na) (by rw [decide_eq_true_iff]; exact List.length_pos_iff.2 nb)

theorem core_turn {f : Form} (hs : Shape f) (ht : Turns f) {a b : List Span} (ha : a ∈ f.Core) (hb : b ∈ f.Core) (na : a ≠ []) (nb : b ≠ []) : lstT a < fstT b + f.Period := by
 have hA := full_mem.2 ⟨ha, na⟩
 have hB := full_mem.2 ⟨hb, nb⟩
 have hm : ∀ x ∈ full f, fstT x ≤ lstT x := fun x hx => fst_le_lst (hs.core x (full_mem.1 hx).1) (full_mem.1 hx).2
 have hn : full f ≠ [] := List.ne_nil_of_mem hA
 have hlast := List.getLast?_eq_some_getLast hn
 have hhead := List.head?_eq_some_head hn
 have h2 := ht.2 _ _ hlast hhead
 have hp := full_pair hs ht
 have e1 : lstT a ≤ lstT ((full f).getLast hn) := by
  obtain ⟨j, hj⟩ := List.getElem?_of_mem hA
  obtain ⟨hjl, hj⟩ := List.getElem?_eq_some_iff.1 hj
  by_cases hc : j = (full f).length - 1
  ·subst hc
   rw [List.getLast_eq_getElem, hj]
   exact Int.le_refl _
  ·have := List.pairwise_iff_getElem.1 hp j ((full f).length - 1) hjl (by omega) (by omega)
   rw [hj] at this
   have h5 := hm _ (List.getLast_mem hn)
   rw [List.getLast_eq_getElem] at h5 ⊢
   omega
 have e2 : fstT ((full f).head hn) ≤ fstT b := by
  obtain ⟨j, hj⟩ := List.getElem?_of_mem hB
  obtain ⟨hjl, hj⟩ := List.getElem?_eq_some_iff.1 hj
  have hh : (full f).head hn = (full f)[0]'(by omega) := List.head_eq_getElem hn
  by_cases hc : j = 0
  ·subst hc
   rw [hh, hj]
   exact Int.le_refl _
  ·have := List.pairwise_iff_getElem.1 hp 0 j (by omega) hjl (by omega)
   rw [hj, ← hh] at this
   have h5 := hm _ (List.head_mem hn)
   omega
 omega

theorem coreAt_idx {f : Form} (hs : Shape f) (h0 : f.Count ≠ 0) (i : Int) : f.Core[(i % f.Count).toNat]? = some (coreAt f i) := by
 have := (coreAt_get hs h0 i).1
 unfold at? at this
 rwa [if_pos (Int.emod_nonneg i h0)] at this

theorem core_order {f : Form} (hs : Shape f) (ht : Turns f) (h0 : f.Count ≠ 0) {i k : Int} (hik : i < k) (ni : coreAt f i ≠ []) (nk : coreAt f k ≠ []) : lstT (coreAt f i) + perAt f i < fstT (coreAt f k) + perAt f k := by
 have hp := core_pos hs h0
 have di := Int.emod_add_mul_ediv i f.Count
 have dk := Int.emod_add_mul_ediv k f.Count
 have mi := Int.emod_nonneg i h0
 have mk := Int.emod_nonneg k h0
 have li := Int.emod_lt_of_pos i hp
 have lk := Int.emod_lt_of_pos k hp
 have hq : i / f.Count ≤ k / f.Count := Int.ediv_le_ediv hp (by omega)
 unfold perAt
 rcases Int.lt_or_eq_of_le hq with h | h
 ·have h1 := core_turn hs ht (coreAt_get hs h0 i).2 (coreAt_get hs h0 k).2 ni nk
  have h2 : (i / f.Count + 1) * f.Period ≤ k / f.Count * f.Period := Int.mul_le_mul_of_nonneg_right (by omega) hs.per.1
  rw [Int.add_mul, Int.one_mul] at h2
  omega
 ·rw [h] at di ⊢
  have : i % f.Count < k % f.Count := by omega
  have h1 := core_pair hs ht (j := (i % f.Count).toNat) (k := (k % f.Count).toNat) (by omega) (coreAt_idx hs h0 i) (coreAt_idx hs h0 k) ni nk
  omega

theorem lst_shift {l : List Span} (d : Int) (hn : l ≠ []) : lstT (l.map (shiftS d)) = lstT l + d ∧ fstT (l.map (shiftS d)) = fstT l + d := by
 unfold lstT fstT
 rw [List.getLast?_map, List.head?_map, List.getLast?_eq_some_getLast hn, List.head?_eq_some_head hn]
 exact ⟨rfl, rfl⟩

theorem under_some {f : Form} (hl : Lim f) (hs : Shape f) {i k : Int} (hk : In64 k) (hik : i < k) (ti : tickP i) (ni : setAt f i ≠ []) : ∃ j, Under f k (j, true) ∧ i ≤ j := by
 obtain ⟨r, _, h⟩ := gran_Before_eq hl hs hk
 obtain ⟨j, b⟩ := r
 have h' := h
 rcases h with ⟨rfl, h1, h2, h3, h4⟩ | ⟨rfl, _, h4⟩
 ·refine ⟨j, h', ?_⟩
  apply Classical.byContradiction
  intro hc
  exact ni (h4 i hik (by simp only; omega) ti)
 ·exact absurd (h4 i hik ti) ni
theorem above_some {f : Form} (hl : Lim f) (hs : Shape f) {i k : Int} (hk : In64 k) (hik : k < i) (ti : tickP i) (ni : setAt f i ≠ []) : ∃ j, Above f k (j, true) ∧ j ≤ i := by
 obtain ⟨r, _, h⟩ := gran_Behind_eq hl hs hk
 obtain ⟨j, b⟩ := r
 have h' := h
 rcases h with ⟨rfl, h1, h2, h3, h4⟩ | ⟨rfl, _, h4⟩
 ·refine ⟨j, h', ?_⟩
  apply Classical.byContradiction
  intro hc
  exact ni (h4 i hik (by simp only; omega) ti)
 ·exact absurd (h4 i hik ti) ni

theorem RightF.order {f : Form} (hl : Lim f) (hr : RightF f) : ∀ (n : Nat) (i k : Int), (k - i).toNat = n → i < k → tickP i → tickP k → fits f i → fits f k → setAt f i ≠ [] → setAt f k ≠ [] → lstT (setAt f i) < fstT (setAt f k) := by
 have hs := hr.shape
 intro n
 induction n using Nat.strongRecOn with
 | _ n ih =>
  intro i k hn hik ti tk fi fk ni nk
  by_cases ok : isOdd f k
  ·obtain ⟨g, hg, rfl⟩ := ok
   obtain ⟨j, hj, hij⟩ := under_some hl hs (tick64 tk) hik ti ni
   obtain ⟨hi', _, hab⟩ := gran_Behind_eq hl hs (tick64 tk)
   obtain ⟨_, hlo, _, _⟩ := hr.beside g hg _ _ hj hab
   obtain ⟨fj, aj⟩ := hlo rfl
   have hj2 := hj
   rcases hj2 with ⟨_, j1, j2, j3, j4⟩ | ⟨h, _⟩
   ·simp only at fj aj j1 j2 j3
    have hjk := (aheadL_iff j3 nk).1 aj
    by_cases hji : i = j
    ·rw [hji]; exact hjk
    ·have h1 := ih (j - i).toNat (by omega) i j rfl (by omega) ti j2 fi fj ni j3
     have h2 := fst_le_lst (setAt_right hs fj) j3
     omega
   ·cases h
  ·by_cases oi : isOdd f i
   ·obtain ⟨g, hg, rfl⟩ := oi
    obtain ⟨j, hj, hij⟩ := above_some hl hs (tick64 ti) hik tk nk
    obtain ⟨lo', _, hun⟩ := gran_Before_eq hl hs (tick64 ti)
    obtain ⟨_, _, hhi, _⟩ := hr.beside g hg _ _ hun hj
    obtain ⟨fj, aj⟩ := hhi rfl
    have hj2 := hj
    rcases hj2 with ⟨_, j1, j2, j3, j4⟩ | ⟨h, _⟩
    ·simp only at fj aj j1 j2 j3
     have hjk := (aheadL_iff ni j3).1 aj
     by_cases hji : j = k
     ·rw [← hji]; exact hjk
     ·have h1 := ih (k - j).toNat (by omega) j k rfl (by omega) j2 tk fj fk j3 nk
      have h2 := fst_le_lst (setAt_right hs fj) j3
      omega
    ·cases h
   ·have h0 : f.Count ≠ 0 := fun h => ni (setAt_none oi h)
    have ni' := fun h => ni ((setAt_nil_core oi h0).2 h)
    have nk' := fun h => nk ((setAt_nil_core ok h0).2 h)
    rw [setAt_core oi h0, setAt_core ok h0, (lst_shift _ ni').1, (lst_shift _ nk').2]
    exact core_order hs hr.turns h0 hik ni' nk'

theorem iMin_eq (a b : Int) : iMin a b = min a b := by unfold iMin; omega
theorem iMax_eq (a b : Int) : iMax a b = max a b := by unfold iMax; omega

end Go.Dn

set_option linter.unusedVariables false
set_option linter.unusedSimpArgs false
namespace Go.Dn
open Go

theorem Above.tick {f : Form} {i : Int} {r : Int × Bool} (h : Above f i r) (hr : r.2 = true) : i < r.1 ∧ tickP r.1 ∧ setAt f r.1 ≠ [] ∧ ∀ k, i < k → k < r.1 → tickP k → setAt f k = [] := by
 rcases h with ⟨_, h1, h2, h3, h4⟩ | ⟨h, _⟩
 ·exact ⟨h1, h2, h3, h4⟩
 ·rw [hr] at h; cases h
theorem Under.tick {f : Form} {i : Int} {r : Int × Bool} (h : Under f i r) (hr : r.2 = true) : r.1 < i ∧ tickP r.1 ∧ setAt f r.1 ≠ [] ∧ ∀ k, k < i → r.1 < k → tickP k → setAt f k = [] := by
 rcases h with ⟨_, h1, h2, h3, h4⟩ | ⟨h, _⟩
 ·exact ⟨h1, h2, h3, h4⟩
 ·rw [hr] at h; cases h

end Go.Dn

set_option linter.unusedVariables false
set_option linter.unusedSimpArgs false
namespace Go.Dn
open Go

theorem eqf_loop {α β : Type} {a : List α} {b : List β} {step : Int → Option (Int ⊕ Jx Unit Bool)} {eq : α → β → Option Bool} (P : α → β → Prop)
  (hl : (a.length : Int) < 9223372036854775807) (hab : a.length = b.length)
  (heq : ∀ (k : Nat) x y, a[k]? = some x → b[k]? = some y → ∃ r, eq x y = some r ∧ (r = true ↔ P x y))
  (hstep : ∀ s, step s = bif decide (s < (a.length : Int)) then (at? a s).bind fun x1 => (at? b s).bind fun x2 => (eq x1 x2).bind fun x3 => bif (!x3) then some (.inr (.ret false)) else some (.inl (w64 (s + 1))) else some (.inr (.go ()))) :
  (loopO step 0 = some (.go ()) ∧ ∀ (k : Nat) x y, a[k]? = some x → b[k]? = some y → P x y) ∨ (loopO step 0 = some (.ret false) ∧ ¬ ∀ (k : Nat) x y, a[k]? = some x → b[k]? = some y → P x y) := by
 rcases all_loop (l := a) (step := step) (fun k x => ∀ y, b[k]? = some y → P x y) (no := .ret false) (yes := .go ()) (fun k x hk hp => by
  have hlt := (List.getElem?_eq_some_iff.1 hk).1
  have hat : at? a (k : Int) = some x := by rw [at?_nat hlt]; rw [List.getElem?_eq_getElem hlt] at hk; exact hk
  have hbt : at? b (k : Int) = some (b[k]'(by omega)) := at?_nat (by omega)
  have hbk : b[k]? = some (b[k]'(by omega)) := List.getElem?_eq_getElem (by omega)
  obtain ⟨r, h1, h2⟩ := heq k x _ hk hbk
  rw [hstep, dec_t (show (k : Int) < a.length by omega), cond_true, hat, hbt, w64_id (show _ by omega)]
  simp only [Option.bind_some, h1]
  cases r with
  | true => exact .inl ⟨rfl, fun y hy => by rw [hbk] at hy; cases hy; exact h2.1 rfl⟩
  | false => exact .inr ⟨rfl, fun h => by have := h2.2 (h _ hbk); cases this⟩) (by
  rw [hstep, dec_f (by omega)]; rfl) with ⟨h1, h2⟩ | ⟨h1, h2⟩
 ·exact .inl ⟨h1, fun k x y hx hy => h2 k x hx y hy⟩
 ·exact .inr ⟨h1, fun h => h2 fun k x hx y hy => h k x y hx hy⟩

theorem shifted_iff {a b : List Span} {d : Int} (hl : a.length = b.length) : (∀ (k : Nat) x y, a[k]? = some x → b[k]? = some y → y.From - x.From = d ∧ y.To - x.To = d) ↔ b = a.map (shiftS d) := by
 constructor
 ·intro h
  apply List.ext_getElem?
  intro k
  by_cases hk : k < a.length
  ·have h1 : a[k]? = some a[k] := List.getElem?_eq_getElem hk
   have h2 : b[k]? = some (b[k]'(by omega)) := List.getElem?_eq_getElem (by omega)
   rw [h2, List.getElem?_map, h1]
   obtain ⟨q1, q2⟩ := h k _ _ h1 h2
   simp only [Option.map_some, shiftS, Option.some.injEq]
   generalize b[k]'(by omega) = y at q1 q2 ⊢
   obtain ⟨y1, y2⟩ := y
   simp only at q1 q2
   simp only [Span.mk.injEq]
   omega
  ·rw [List.getElem?_eq_none (by omega), List.getElem?_eq_none (by simp; omega)]
 ·rintro rfl k x y hx hy
  rw [List.getElem?_map, hx] at hy
  simp only [Option.map_some, Option.some.injEq] at hy
  subst hy
  simp only [shiftS]
  omega

theorem canon_shifted_eq {a b : List Span} {d : Int} (ha : RightL a) (hb : RightL b) (hl : Len a) : ∃ r, canon_shifted a b d = some r ∧ (r = true ↔ b = a.map (shiftS d)) := by
 have hl' : (a.length : Int) < 9223372036854775807 := by have := reach_eq; unfold Len at hl; omega
 unfold canon_shifted slices_EqualFunc_SSpan_SSpan_Span_Span
 by_cases hlen : a.length = b.length
 ·rw [bne_f (by omega), cond_false]
  have tk : ∀ {l : List Span}, RightL l → ∀ (k : Nat) s, l[k]? = some s → tickP s.From ∧ tickP s.To := fun {l} h k s hs => by
   have := rightL_iff.1 h k s hs
   unfold goodSpan at this
   exact ⟨this.1, this.2.1⟩
  rcases eqf_loop (a := a) (b := b) (step := slices_EqualFunc_SSpan_SSpan_Span_Span.s0 a b (fun z0 z1 => some (canon_shifted_1 z0 z1 d))) (eq := fun z0 z1 => some (canon_shifted_1 z0 z1 d)) (fun x y => y.From - x.From = d ∧ y.To - x.To = d) hl' hlen (fun k x y hx hy => by
   refine ⟨_, rfl, ?_⟩
   obtain ⟨x1, x2⟩ := tk ha k x hx
   obtain ⟨y1, y2⟩ := tk hb k y hy
   unfold tickP at x1 x2 y1 y2
   unfold canon_shifted_1
   rw [w64_id (by omega), w64_id (by omega)]
   simp) (fun s => rfl) with ⟨h1, h2⟩ | ⟨h1, h2⟩
  ·rw [h1]
   exact ⟨true, rfl, ⟨fun _ => (shifted_iff hlen).1 h2, fun _ => rfl⟩⟩
  ·rw [h1]
   refine ⟨false, rfl, by simp only [Bool.false_eq_true, false_iff]; exact fun h => h2 ((shifted_iff hlen).2 h)⟩
 ·rw [bne_t (by omega), cond_true]
  refine ⟨false, rfl, by simp only [Bool.false_eq_true, false_iff]; rintro rfl; exact hlen (by simp)⟩

end Go.Dn

set_option linter.unusedVariables false
set_option linter.unusedSimpArgs false
namespace Go.Dn
open Go

noncomputable def cs (f : Form) (i : Int) : List Span := (coreAt f i).map (shiftS (perAt f i))

theorem shift_shift (l : List Span) (a b : Int) : (l.map (shiftS a)).map (shiftS b) = l.map (shiftS (a + b)) := by
 rw [List.map_map]
 congr 1
 funext s
 simp only [Function.comp, shiftS, Span.mk.injEq]
 omega

theorem shift_inj {a b : List Span} {d : Int} (h : a.map (shiftS d) = b.map (shiftS d)) : a = b := by
 have := congrArg (List.map (shiftS (-d))) h
 rw [shift_shift, shift_shift, Int.add_right_neg, shift0, shift0] at this
 exact this

theorem cs_period {f : Form} (h0 : f.Count ≠ 0) (i : Int) : cs f (i + f.Count) = (cs f i).map (shiftS f.Period) := by
 unfold cs coreAt perAt
 rw [shift_shift, Int.add_emod_right, Int.add_ediv_of_dvd_right (Int.dvd_refl _), Int.ediv_self h0, Int.add_mul, Int.one_mul]

theorem cs_periods {f : Form} (h0 : f.Count ≠ 0) (i k : Int) : cs f (i + f.Count * k) = (cs f i).map (shiftS (k * f.Period)) := by
 unfold cs coreAt perAt
 rw [shift_shift, Int.add_mul_emod_self_left, Int.add_mul_ediv_left _ _ h0, Int.add_mul]

theorem cs_small {f : Form} {i : Int} (h0 : 0 ≤ i) (h1 : i < f.Count) : cs f i = f.Core.getD i.toNat [] := by
 unfold cs coreAt perAt
 rw [Int.emod_eq_of_lt h0 h1, Int.ediv_eq_zero_of_lt h0 h1, Int.zero_mul, shift0]

def TurnZ (f : Form) (d q : Int) : Prop := ∀ i, cs f (i + d) = (cs f i).map (shiftS q)

theorem turn_of {f : Form} (h0 : 0 < f.Count) {d q : Int} (h : ∀ i, 0 ≤ i → i < f.Count → cs f (i + d) = (cs f i).map (shiftS q)) : TurnZ f d q := by
 intro i
 have e : i = i % f.Count + f.Count * (i / f.Count) := (Int.emod_add_mul_ediv i f.Count).symm
 have h1 := h (i % f.Count) (Int.emod_nonneg i (by omega)) (Int.emod_lt_of_pos i h0)
 have e2 : i + d = (i % f.Count + d) + f.Count * (i / f.Count) := by omega
 rw [e2, cs_periods (by omega), h1]
 conv => rhs; rw [e, cs_periods (by omega)]
 rw [shift_shift, shift_shift, Int.add_comm]

def wrapI (f : Form) (d k : Int) : Int := if k + d ≥ f.Count then k + d - f.Count else k + d
def wrapP (f : Form) (d k : Int) : Int := if k + d ≥ f.Count then f.Period else 0

theorem wrap_cs {f : Form} {d k : Int} (hd : 1 ≤ d) (hdn : d ≤ f.Count) (h0 : 0 ≤ k) (h1 : k < f.Count) : 0 ≤ wrapI f d k ∧ wrapI f d k < f.Count ∧ cs f (k + d) = (cs f (wrapI f d k)).map (shiftS (wrapP f d k)) := by
 unfold wrapI wrapP
 by_cases h : k + d ≥ f.Count
 ·rw [if_pos h, if_pos h]
  refine ⟨by omega, by omega, ?_⟩
  rw [← cs_period (by omega)]
  congr 1; omega
 ·rw [if_neg h, if_neg h, shift0]
  exact ⟨by omega, by omega, rfl⟩

theorem canon_turn_eq {f : Form} (hl : Lim f) (hs : Shape f) {d q : Int} (hd : 1 ≤ d) (hdn : d ≤ f.Count) (hq : 0 ≤ q ∧ q ≤ 1099511627776) : ∃ r, canon_turn f d q = some r ∧ (r = true ↔ TurnZ f d q) := by
 have hcl : (f.Core.length : Int) < 4611686018427387904 := len_lt (b := 23) hl.core
 have hcnt := hs.count
 have key : ∀ k : Int, 0 ≤ k → k < f.Count → (cs f (wrapI f d k) = (cs f k).map (shiftS (q - wrapP f d k)) ↔ cs f (k + d) = (cs f k).map (shiftS q)) := fun k k0 k1 => by
  obtain ⟨_, _, h⟩ := wrap_cs hd hdn k0 k1
  rw [h]
  constructor
  ·intro e
   rw [e, shift_shift]
   congr 2; omega
  ·intro e
   apply shift_inj (d := wrapP f d k)
   rw [e, shift_shift]
   congr 2; omega
 unfold canon_turn
 rcases all_loop (l := f.Core) (step := canon_turn.s0 f d q) (fun k x => cs f (wrapI f d k) = x.map (shiftS (q - wrapP f d k))) (no := .ret false) (yes := .go ()) (fun k x hk hp => by
  have hlt := (List.getElem?_eq_some_iff.1 hk).1
  have hat : at? f.Core (k : Int) = some x := by rw [at?_nat hlt]; rw [List.getElem?_eq_getElem hlt] at hk; exact hk
  obtain ⟨w0, w1, _⟩ := wrap_cs (f := f) (k := (k : Int)) hd hdn (by omega) (by omega)
  have hx := hs.core x (List.mem_of_getElem? hk)
  have hlx := (hl.sets x (List.mem_of_getElem? hk)).1
  have hwl : (wrapI f d k).toNat < f.Core.length := by omega
  have hgw : cs f (wrapI f d k) = f.Core[(wrapI f d k).toNat] := by rw [cs_small w0 w1, List.getD_eq_getElem?_getD, List.getElem?_eq_getElem hwl]; rfl
  have hy := hs.core _ (List.getElem_mem hwl)
  have hat2 : at? f.Core (wrapI f d k) = some f.Core[(wrapI f d k).toNat] := at?_lt w0 (by omega)
  have hpk : (bif decide (w64 ((k : Int) + d) ≥ f.Count) then some (w64 (w64 ((k : Int) + d) - f.Count), f.Period) else some (w64 ((k : Int) + d), 0)) = some (wrapI f d k, wrapP f d k) := by
   rw [w64_id (show _ by omega)]
   unfold wrapI wrapP
   by_cases h : (k : Int) + d ≥ f.Count
   ·rw [dec_t h, cond_true, if_pos h, if_pos h, w64_id (show _ by omega)]
   ·rw [dec_f h, cond_false, if_neg h, if_neg h]
  obtain ⟨r, h1, h2⟩ := canon_shifted_eq (d := q - wrapP f d k) hx hy hlx
  have hwp : 0 ≤ wrapP f d k ∧ wrapP f d k ≤ 1099511627776 := by have := hs.per; unfold wrapP; split <;> omega
  unfold canon_turn.s0
  rw [dec_t (show (k : Int) < f.Core.length by omega), cond_true, hat]
  simp only [Option.bind_some, hpk, hat2]
  rw [w64_id (show _ by omega), h1]
  simp only [Option.bind_some]
  rw [hgw]
  cases r with
  | true => exact .inl ⟨by simp only [Bool.not_true, cond_false, Option.bind_some, Jx.elim]; rw [w64_id (show _ by omega)], h2.1 rfl⟩
  | false => exact .inr ⟨rfl, fun h => by have := h2.2 h; cases this⟩) (by
  unfold canon_turn.s0; rw [dec_f (by omega)]; rfl) with ⟨h1, h2⟩ | ⟨h1, h2⟩
 ·rw [h1]
  refine ⟨true, rfl, ⟨fun _ => turn_of (by omega) fun i i0 i1 => ?_, fun _ => rfl⟩⟩
  have hlt : i.toNat < f.Core.length := by omega
  have := h2 i.toNat _ (List.getElem?_eq_getElem hlt)
  rw [Int.toNat_of_nonneg i0] at this
  refine (key i i0 i1).1 ?_
  rw [this, cs_small i0 i1, List.getD_eq_getElem?_getD, List.getElem?_eq_getElem hlt]; rfl
 ·rw [h1]
  refine ⟨false, rfl, ⟨(fun h => nomatch h), fun ht => absurd (fun k x hk => ?_) h2⟩⟩
  have hlt := (List.getElem?_eq_some_iff.1 hk).1
  have := (key k (by omega) (by omega)).2 (ht k)
  rw [this, cs_small (by omega) (by omega), List.getD_eq_getElem?_getD, Int.toNat_natCast, hk]; rfl

end Go.Dn

set_option linter.unusedVariables false
set_option linter.unusedSimpArgs false
namespace Go.Dn
open Go

structure Good (f : Form) (d : Int) : Prop where
 pos : 1 ≤ d
 dvd : d ∣ f.Count
 rest : f.Period % (f.Count / d) = 0
 turn : TurnZ f d (f.Period / (f.Count / d))

theorem good_self {f : Form} (h0 : 0 < f.Count) : Good f f.Count := by
 have e : f.Count / f.Count = 1 := Int.ediv_self (by omega)
 exact ⟨by omega, Int.dvd_refl _, by rw [e]; omega, by rw [e, Int.ediv_one]; exact cs_period (by omega)⟩

theorem copy_loop {x4 : List (List Span)} (hc : x4.length * 24 ≤ reachBytes) (hs : ∀ l ∈ x4, Len l) : loopO (canon_core.s1 x4) (0, []) = some x4 := by
 have hcl : (x4.length : Int) < 4611686018427387904 := len_lt (b := 23) hc
 have hr := reach_eq
 have hro := room_eq
 refine loopO_val (I := fun s r => r = x4 ∧ ∃ k : Nat, k ≤ x4.length ∧ s = ((k : Int), x4.take k)) (fun s => x4.length - s.1.toNat) ?_ ⟨rfl, 0, Nat.zero_le _, rfl⟩
 rintro s r ⟨rfl, k, hk, rfl⟩
 unfold canon_core.s1
 by_cases hlt : k < r.length
 ·left
  have hl := hs _ (List.getElem_mem hlt)
  unfold Len at hl
  have hcp : clone? 16 r[k] = some r[k] := by unfold clone?; rw [if_pos (by omega)]
  have hap : app? 24 (r.take k) [r[k]] = some (r.take (k + 1)) := by
   rw [app?_ok (by simp only [List.length_take, List.length_cons, List.length_nil]; have : min k r.length + 1 ≤ r.length := (by omega); have := Nat.mul_le_mul_right 24 this; omega)]
   rw [List.take_append_getElem hlt]
  refine ⟨((k : Int) + 1, r.take (k + 1)), ?_, ⟨rfl, k + 1, hlt, by push_cast; rfl⟩, by simp; omega⟩
  rw [dec_t (show (k : Int) < r.length by omega), cond_true, at?_nat hlt]
  simp only [Option.bind_some, hcp, hap]
  rw [w64_id (show _ by omega)]
 ·right
  have : k = r.length := by omega
  subst this
  rw [dec_f (show ¬ ((r.length : Int) < r.length) by omega), cond_false, List.take_length]

theorem core_b0_eq {f : Form} (hl : Lim f) (hs : Shape f) {d : Int} (hd : 1 ≤ d) (hdn : d ∣ f.Count) (h0 : 0 < f.Count) :
  (Good f d ∧ canon_core.b0 f ([], 0, 0) d = some ((f.Core.take d.toNat, f.Period / (f.Count / d), d), 1)) ∨ (¬ Good f d ∧ canon_core.b0 f ([], 0, 0) d = some (([], 0, 0), 0)) := by
 have hle : d ≤ f.Count := Int.le_of_dvd h0 hdn
 have hcl : (f.Core.length : Int) < 4611686018427387904 := len_lt (b := 23) hl.core
 have hcnt := hs.count
 have hm : 0 < f.Count / d := Int.ediv_pos_of_pos_of_dvd h0 (by omega) hdn
 have hmle : f.Count / d ≤ f.Count := Int.ediv_le_self _ (by omega)
 have htd : f.Count.tdiv d = f.Count / d := Int.tdiv_eq_ediv_of_nonneg (by omega)
 have hq : 0 ≤ f.Period / (f.Count / d) ∧ f.Period / (f.Count / d) ≤ 1099511627776 := by
  have h1 := hs.per
  have h2 : f.Period / (f.Count / d) ≤ f.Period := Int.ediv_le_self _ h1.1
  have h3 : 0 ≤ f.Period / (f.Count / d) := Int.ediv_nonneg h1.1 (by omega)
  omega
 have hfl : safe_Floor f.Period (w64 (f.Count.tdiv d)) = some (f.Period / (f.Count / d), f.Period % (f.Count / d), 0) := by
  rw [htd, w64_id (show _ by omega), safe_Floor_eq hl.period (by unfold In64; omega), floorS_pos hm]
 unfold canon_core.b0
 rw [nz?_ok (by omega), hfl]
 simp only [Option.bind_some]
 by_cases hr : f.Period % (f.Count / d) = 0
 ·rw [bne_f hr, cond_false]
  obtain ⟨r, h1, h2⟩ := canon_turn_eq hl hs hd hle hq
  rw [h1]
  cases r with
  | true =>
   left
   refine ⟨⟨hd, hdn, hr, h2.1 rfl⟩, ?_⟩
   have hcut : cut? f.Core 0 d = some (f.Core.take d.toNat) := by
    unfold cut?
    rw [if_pos ⟨by omega, by omega, by omega⟩]
    rfl
   simp only [Option.bind_some, Bool.not_true, cond_false, hcut]
   have := copy_loop (x4 := f.Core.take d.toNat) (by have := hl.core; simp only [List.length_take]; have h := Nat.mul_le_mul_right 24 (Nat.min_le_right d.toNat f.Core.length); omega) (fun l hl' => (hl.sets l (List.mem_of_mem_take hl')).1)
   rw [this]
   rfl
  | false =>
   right
   exact ⟨fun g => (by have := h2.2 g.turn; cases this), rfl⟩
 ·right
  refine ⟨fun g => hr g.rest, ?_⟩
  rw [bne_t hr]
  rfl

theorem least_good {f : Form} (h0 : 0 < f.Count) : ∃ d, Good f d ∧ ∀ d', Good f d' → d ≤ d' := by
 have : ∃ n : Nat, Good f n := ⟨f.Count.toNat, by rw [Int.toNat_of_nonneg (by omega)]; exact good_self h0⟩
 obtain ⟨n, hn⟩ := this
 induction n using Nat.strongRecOn with
 | _ n ih =>
  by_cases h : ∃ m : Nat, m < n ∧ Good f m
  ·obtain ⟨m, h1, h2⟩ := h
   exact ih m h1 h2
  ·refine ⟨n, hn, fun d' hd' => ?_⟩
   apply Classical.byContradiction
   intro hlt
   have := hd'.pos
   exact h ⟨d'.toNat, by omega, by rw [Int.toNat_of_nonneg (by omega)]; exact hd'⟩

theorem canon_bare_eq {f : Form} (hl : Lim f) : canon_bare f = gran_bare f := by
 unfold canon_bare gran_bare
 rfl

theorem canon_core_eq {f : Form} (hl : Lim f) (hs : Shape f) : (Bare f ∧ canon_core f = some (Form.mk 0 0 [] [])) ∨
  (¬ Bare f ∧ 0 < f.Count ∧ ∃ d, Good f d ∧ (∀ d', Good f d' → d ≤ d') ∧ canon_core f = some (Form.mk (f.Period / (f.Count / d)) d (f.Core.take d.toNat) [])) := by
 have hcl : (f.Core.length : Int) < 4611686018427387904 := len_lt (b := 23) hl.core
 have hcnt := hs.count
 obtain ⟨b, h1, h2⟩ := gran_bare_eq hl
 unfold canon_core
 rw [canon_bare_eq hl, h1]
 cases b with
 | true => exact .inl ⟨h2.1 rfl, rfl⟩
 | false =>
  right
  have hnb : ¬ Bare f := fun h => by have := h2.2 h; cases this
  have h0 : 0 < f.Count := by
   rcases Nat.eq_zero_or_pos f.Core.length with h | h
   ·exact absurd (fun l hl' => by rw [List.length_eq_zero_iff.1 h] at hl'; cases hl') hnb
   ·omega
  obtain ⟨d, hg, hmin⟩ := least_good h0
  refine ⟨hnb, h0, d, hg, hmin, ?_⟩
  have hdn : d ≤ f.Count := Int.le_of_dvd h0 hg.dvd
  have hd1 := hg.pos
  have hloop : loopO (canon_divisors_1.s0 f.Count (rangeY (canon_core.b0 f))) (1, (([], 0, 0), 0)) = some (.ret ((f.Core.take d.toNat, f.Period / (f.Count / d), d), 1)) := by
   refine loopO_val (I := fun s r => r = .ret ((f.Core.take d.toNat, f.Period / (f.Count / d), d), 1) ∧ ∃ k : Int, 1 ≤ k ∧ k ≤ d ∧ s = (k, (([], 0, 0), 0))) (fun s => (d - s.1).toNat) ?_ ⟨rfl, 1, by omega, hd1, rfl⟩
   rintro s r ⟨rfl, k, k1, k2, rfl⟩
   unfold canon_divisors_1.s0
   rw [dec_t (show k ≤ f.Count by omega), cond_true, nz?_ok (by omega)]
   simp only [Option.bind_some]
   by_cases hkd : k ∣ f.Count
   ·rw [beq_t (show f.Count.tmod k = 0 from Int.tmod_eq_zero_of_dvd hkd), cond_true]
    rcases core_b0_eq hl hs k1 hkd h0 with ⟨g, e⟩ | ⟨g, e⟩
    ·have : k = d := by have := hmin k g; omega
     subst this
     right
     simp only [rangeY, if_true, e, Option.map_some, Option.bind_some]
     rfl
    ·left
     have hne : k ≠ d := fun h => g (h ▸ hg)
     refine ⟨(k + 1, (([], 0, 0), 0)), ?_, ⟨trivial, k + 1, by omega, by omega, rfl⟩, by simp; omega⟩
     simp only [rangeY, if_true, e, Option.map_some, Option.bind_some]
     rw [w64_id (show _ by omega)]
     rfl
   ·left
    have hne : k ≠ d := fun h => hkd (h ▸ hg.dvd)
    refine ⟨(k + 1, (([], 0, 0), 0)), ?_, ⟨trivial, k + 1, by omega, by omega, rfl⟩, by simp; omega⟩
    rw [beq_f (fun h => hkd (Int.dvd_of_tmod_eq_zero h)), cond_false]
    simp only [Option.bind_some, cond_false]
    rw [w64_id (show _ by omega)]
  unfold canon_divisors_1
  rw [hloop]
  rfl

end Go.Dn

set_option linter.unusedVariables false
set_option linter.unusedSimpArgs false
namespace Go.Dn
open Go

def Turn (h : Int → List Span) (d q : Int) : Prop := ∀ i, h (i + d) = (h i).map (shiftS q)

theorem Turn.neg {h : Int → List Span} {d q : Int} (t : Turn h d q) : Turn h (-d) (-q) := fun i => by
 have := t (i + -d)
 rw [show i + -d + d = i by omega] at this
 rw [this, shift_shift, Int.add_right_neg, shift0]

theorem Turn.add {h : Int → List Span} {d q d' q' : Int} (t : Turn h d q) (t' : Turn h d' q') : Turn h (d + d') (q + q') := fun i => by
 rw [show i + (d + d') = (i + d) + d' by omega, t', t, shift_shift]

theorem Turn.zero (h : Int → List Span) : Turn h 0 0 := fun i => by rw [Int.add_zero, shift0]

theorem Turn.nat {h : Int → List Span} {d q : Int} (t : Turn h d q) : ∀ k : Nat, Turn h (k * d) (k * q)
 | 0 => by simpa using Turn.zero h
 | k + 1 => by
  have := (Turn.nat t k).add t
  push_cast
  rw [Int.add_mul, Int.one_mul, Int.add_mul, Int.one_mul]
  exact this

theorem Turn.mul {h : Int → List Span} {d q : Int} (t : Turn h d q) (k : Int) : Turn h (k * d) (k * q) := by
 rcases Int.natAbs_eq k with e | e
 ·rw [e]; exact t.nat _
 ·rw [e, Int.neg_mul, Int.neg_mul]; exact (t.nat _).neg

theorem Turn.agree {h h' : Int → List Span} {d q a : Int} (t : Turn h d q) (t' : Turn h' d q) (hd : 0 < d) (he : ∀ i, a ≤ i → i < a + d → h i = h' i) : h = h' := by
 funext i
 have e : i = ((i - a) % d + a) + (i - a) / d * d := by
  have := Int.emod_add_mul_ediv (i - a) d
  rw [Int.mul_comm] at this
  omega
 have h1 := Int.emod_nonneg (i - a) (show d ≠ 0 by omega)
 have h2 := Int.emod_lt_of_pos (i - a) hd
 rw [e, t.mul, t'.mul, he _ (by omega) (by omega)]

noncomputable def csz (f : Form) (i : Int) : List Span := if f.Count = 0 then [] else cs f i

theorem csz_pos {f : Form} (h0 : 0 < f.Count) : csz f = cs f := by funext i; exact if_neg (by omega)
theorem setAt_csz {f : Form} {i : Int} (h : ¬ isOdd f i) : setAt f i = csz f i := by
 unfold csz
 by_cases h0 : f.Count = 0
 ·rw [if_pos h0, setAt_none h h0]
 ·rw [if_neg h0, setAt_core h h0]; rfl
theorem csz_bare {f : Form} (hs : Shape f) (hb : Bare f) (i : Int) : csz f i = [] := by
 unfold csz
 by_cases h0 : f.Count = 0
 ·rw [if_pos h0]
 ·rw [if_neg h0]; unfold cs; rw [hb _ (coreAt_get hs h0 i).2]; rfl

def CoreOf (f c : Form) : Prop := (Bare f ∧ c = Form.mk 0 0 [] []) ∨ (¬ Bare f ∧ 0 < f.Count ∧ ∃ d, Good f d ∧ (∀ d', Good f d' → d ≤ d') ∧ c = Form.mk (f.Period / (f.Count / d)) d (f.Core.take d.toNat) [])

theorem canon_core_ok {f : Form} (hl : Lim f) (hs : Shape f) : ∃ c, canon_core f = some c ∧ CoreOf f c := by
 rcases canon_core_eq hl hs with ⟨h1, h2⟩ | ⟨h1, h2, d, h3, h4, h5⟩
 ·exact ⟨_, h2, .inl ⟨h1, rfl⟩⟩
 ·exact ⟨_, h5, .inr ⟨h1, h2, d, h3, h4, rfl⟩⟩

theorem CoreOf.odd {f c : Form} (h : CoreOf f c) : c.Odd = [] := by
 rcases h with ⟨_, rfl⟩ | ⟨_, _, d, _, _, rfl⟩ <;> rfl

theorem CoreOf.csz {f c : Form} (hs : Shape f) (h : CoreOf f c) : csz c = csz f := by
 rcases h with ⟨hb, rfl⟩ | ⟨hb, h0, d, hg, _, rfl⟩
 ·funext i; rw [csz_bare hs hb]; rfl
 ·have hd := hg.pos
  have hdn : d ≤ f.Count := Int.le_of_dvd h0 hg.dvd
  have hcnt := hs.count
  rw [csz_pos h0, csz_pos (show 0 < (Form.mk (f.Period / (f.Count / d)) d (f.Core.take d.toNat) []).Count by show 0 < d; omega)]
  refine Turn.agree (a := 0) (d := d) (q := f.Period / (f.Count / d)) (cs_period (f := Form.mk (f.Period / (f.Count / d)) d (f.Core.take d.toNat) []) (show d ≠ 0 by omega)) hg.turn (by omega) (fun i i0 i1 => ?_)
  rw [cs_small i0 (show i < d by omega), cs_small i0 (by omega)]
  show (f.Core.take d.toNat).getD i.toNat [] = _
  rw [List.getD_eq_getElem?_getD, List.getD_eq_getElem?_getD, List.getElem?_take_of_lt (by omega)]

theorem CoreOf.shape {f c : Form} (hs : Shape f) (h : CoreOf f c) : Shape c := by
 rcases h with ⟨hb, rfl⟩ | ⟨hb, h0, d, hg, _, rfl⟩
 ·exact ⟨rfl, by simp, by simp, by simp, by simp, fun j k a b _ h => by simp at h⟩
 ·have hd := hg.pos
  have hdn : d ≤ f.Count := Int.le_of_dvd h0 hg.dvd
  have hcnt := hs.count
  have hm : 0 < f.Count / d := Int.ediv_pos_of_pos_of_dvd h0 (by omega) hg.dvd
  have hp : 0 < f.Period := by
   have := hs.per; have := hs.zero
   rcases Int.lt_or_le 0 f.Period with h | h
   ·exact h
   ·have : f.Period = 0 := by omega
    have := hs.zero.2 this
    omega
  have hq : 0 < f.Period / (f.Count / d) := Int.ediv_pos_of_pos_of_dvd hp (by omega) (Int.dvd_of_emod_eq_zero hg.rest)
  have hq2 : f.Period / (f.Count / d) ≤ f.Period := Int.ediv_le_self _ (by omega)
  refine ⟨?_, ?_, ?_, ?_, by simp, fun j k a b _ h => by simp at h⟩
  ·simp only [List.length_take]; omega
  ·simp only; omega
  ·simp only; have := hs.per; omega
  ·intro l hl'; exact hs.core l (List.mem_of_mem_take hl')

theorem CoreOf.lim {f c : Form} (hl : Lim f) (hs : Shape f) (h : CoreOf f c) : Lim c := by
 have hsc := h.shape hs
 have hn : c.Core.length ≤ f.Core.length ∧ ∀ l ∈ c.Core, l ∈ f.Core := by
  rcases h with ⟨hb, rfl⟩ | ⟨hb, h0, d, hg, _, rfl⟩
  ·exact ⟨Nat.zero_le _, fun l hl' => by cases hl'⟩
  ·exact ⟨by simp only [List.length_take]; omega, fun l hl' => List.mem_of_mem_take hl'⟩
 have hc := hl.core
 have h24 := Nat.mul_le_mul_right 24 hn.1
 have hp := hsc.per
 have hcnt := hsc.count
 have hcl : (f.Core.length : Int) < 4611686018427387904 := len_lt (b := 23) hl.core
 exact ⟨by omega, fun l hl' => hl.sets l (hn.2 l hl'), by rw [h.odd]; simp [reach_eq], by rw [h.odd]; simp, by unfold In64; omega, by unfold In64; omega⟩

theorem CoreOf.setAt {f c : Form} (hs : Shape f) (h : CoreOf f c) (i : Int) : setAt c i = Go.Dn.csz f i := by
 rw [setAt_csz (by rintro ⟨g, hg, _⟩; rw [h.odd] at hg; cases hg), h.csz hs]

theorem canon_plain_eq {f c : Form} (hl : Lim f) (hs : Shape f) (h : CoreOf f c) {g : Granule} (hg : g ∈ f.Odd) : ∃ r, canon_plain c g = some r ∧ (r = true ↔ csz f g.Index = g.Ticks) := by
 obtain ⟨hr, ht⟩ := hs.odd g hg
 have hlc := h.lim hl hs
 have hsc := h.shape hs
 unfold canon_plain
 rw [gran_Get_eq hlc hsc (tick64 ht)]
 by_cases hf : fits c g.Index
 ·rw [if_pos ⟨ht, hf⟩]
  obtain ⟨r, h1, h2⟩ := spans_Same_eq (a := Go.Dn.setAt c g.Index) (b := g.Ticks) (setAt_len hlc hsc _)
  refine ⟨r, ?_, ?_⟩
  ·simp only [Option.bind_some]
   rw [beq_t rfl, cond_true, h1]; rfl
  ·rw [h2, h.setAt hs]
 ·rw [if_neg (fun h' => hf h'.2)]
  refine ⟨false, rfl, ⟨(fun h' => nomatch h'), fun e => absurd (fun s hs' => ?_) hf⟩⟩
  rw [h.setAt hs, e] at hs'
  obtain ⟨k, hk⟩ := List.getElem?_of_mem hs'
  have := rightL_iff.1 hr k s hk
  exact ⟨this.1, this.2.1⟩

open Classical in
noncomputable def oddly (f : Form) (g : Granule) : Bool := decide (¬ csz f g.Index = g.Ticks)

noncomputable def canonF (f c : Form) : Form := Form.mk c.Period c.Count c.Core (f.Odd.filter (oddly f))

theorem canon_Form_eq {f : Form} (hl : Lim f) (hs : Shape f) : ∃ c, CoreOf f c ∧ canon_Form f = some (canonF f c) := by
 obtain ⟨c, h1, hc⟩ := canon_core_ok hl hs
 refine ⟨c, hc, ?_⟩
 unfold canon_Form
 rw [h1]
 simp only [Option.bind_some]
 have hol : (f.Odd.length : Int) < 4611686018427387904 := len_lt (b := 31) hl.odd
 have hr := reach_eq
 have hro := room_eq
 have : loopO (canon_Form.s0 f c) (0, []) = some (f.Odd.filter (oddly f)) := by
  refine loopO_val (I := fun s r => r = f.Odd.filter (oddly f) ∧ ∃ k : Nat, k ≤ f.Odd.length ∧ s = ((k : Int), (f.Odd.take k).filter (oddly f))) (fun s => f.Odd.length - s.1.toNat) ?_ ⟨rfl, 0, Nat.zero_le _, rfl⟩
  rintro s r ⟨rfl, k, hk, rfl⟩
  unfold canon_Form.s0
  by_cases hlt : k < f.Odd.length
  ·left
   have hmem := List.getElem_mem hlt
   obtain ⟨r, p1, p2⟩ := canon_plain_eq hl hs hc hmem
   have htk : f.Odd.take (k + 1) = f.Odd.take k ++ [f.Odd[k]] := (List.take_append_getElem hlt).symm
   have hlen := (hl.ticks _ hmem).2.1
   unfold Len at hlen
   refine ⟨((k : Int) + 1, (f.Odd.take (k + 1)).filter (oddly f)), ?_, ⟨rfl, k + 1, hlt, by push_cast; rfl⟩, by simp; omega⟩
   rw [dec_t (show (k : Int) < f.Odd.length by omega), cond_true, at?_nat hlt]
   simp only [Option.bind_some, p1]
   rw [w64_id (show _ by omega), htk, List.filter_append]
   cases r with
   | true =>
    have : oddly f f.Odd[k] = false := by unfold oddly; rw [decide_eq_false_iff_not]; exact fun h => h (p2.1 rfl)
    simp only [Bool.not_true, cond_false, Option.bind_some, List.filter_cons, this, Bool.false_eq_true, if_false, List.filter_nil, List.append_nil]
   | false =>
    have : oddly f f.Odd[k] = true := by unfold oddly; rw [decide_eq_true_iff]; exact fun h => by have := p2.2 h; cases this
    have hcp : clone? 16 f.Odd[k].Ticks = some f.Odd[k].Ticks := by unfold clone?; rw [if_pos (by omega)]
    have hfl : ((f.Odd.take k).filter (oddly f)).length ≤ k := by
     have := List.length_filter_le (oddly f) (f.Odd.take k)
     simp only [List.length_take] at this
     omega
    have hap : app? 32 ((f.Odd.take k).filter (oddly f)) [Granule.mk f.Odd[k].Index f.Odd[k].Ticks] = some ((f.Odd.take k).filter (oddly f) ++ [f.Odd[k]]) := by
     rw [app?_ok (by simp only [List.length_cons, List.length_nil]; have h3 := hl.odd; have := Nat.mul_le_mul_right 32 (show ((f.Odd.take k).filter (oddly f)).length + 1 ≤ f.Odd.length by omega); omega)]
    simp only [Bool.not_false, cond_true, Option.bind_some, hcp, hap, List.filter_cons, this, if_true, List.filter_nil]
  ·right
   have : k = f.Odd.length := by omega
   subst this
   rw [dec_f (show ¬ ((f.Odd.length : Int) < f.Odd.length) by omega), cond_false, List.take_length]
 rw [this]
 rfl

end Go.Dn

set_option linter.unusedVariables false
set_option linter.unusedSimpArgs false
namespace Go.Dn
open Go

end Go.Dn

set_option linter.unusedVariables false
set_option linter.unusedSimpArgs false
namespace Go.Dn
open Go

theorem inc_pairwise {l : List Granule} : Inc l ↔ l.Pairwise (fun a b => a.Index < b.Index) := by
 rw [List.pairwise_iff_getElem]
 constructor
 ·intro h i j hi hj hij
  exact h i j _ _ hij (List.getElem?_eq_getElem hi) (List.getElem?_eq_getElem hj)
 ·intro h j k a b hjk ha hb
  obtain ⟨h1, rfl⟩ := List.getElem?_eq_some_iff.1 ha
  obtain ⟨h2, rfl⟩ := List.getElem?_eq_some_iff.1 hb
  exact h j k h1 h2 hjk

theorem Inc.filter {l : List Granule} (h : Inc l) (p : Granule → Bool) : Inc (l.filter p) := inc_pairwise.2 ((inc_pairwise.1 h).filter p)

theorem canonF_csz {f c : Form} (hs : Shape f) (h : CoreOf f c) : csz (canonF f c) = csz f := by
 rw [← h.csz hs]; rfl

theorem oddly_iff {f : Form} {g : Granule} : oddly f g = true ↔ ¬ csz f g.Index = g.Ticks := by unfold oddly; rw [decide_eq_true_iff]

theorem canonF_mem {f c : Form} {g : Granule} : g ∈ (canonF f c).Odd ↔ g ∈ f.Odd ∧ oddly f g = true := List.mem_filter

theorem canonF_setAt {f c : Form} (hs : Shape f) (h : CoreOf f c) : setAt (canonF f c) = setAt f := by
 funext i
 by_cases ho : isOdd f i
 ·obtain ⟨g, hg, rfl⟩ := ho
  rw [setAt_odd hs.inc hg]
  by_cases hod : oddly f g = true
  ·exact setAt_odd (hs.inc.filter _) (canonF_mem.2 ⟨hg, hod⟩)
  ·have he : csz f g.Index = g.Ticks := Classical.byContradiction fun hn => hod (oddly_iff.2 hn)
   rw [setAt_csz (f := canonF f c), canonF_csz hs h, he]
   rintro ⟨g', hg', e⟩
   obtain ⟨m1, m2⟩ := canonF_mem.1 hg'
   have := hs.inc.uniq m1 hg e
   subst this
   exact hod m2
 ·rw [setAt_csz ho, setAt_csz (f := canonF f c), canonF_csz hs h]
  rintro ⟨g', hg', e⟩
  exact ho ⟨g', (canonF_mem.1 hg').1, e⟩

theorem canonF_shape {f c : Form} (hs : Shape f) (h : CoreOf f c) : Shape (canonF f c) := by
 have := h.shape hs
 exact ⟨this.count, this.zero, this.per, this.core, fun g hg => hs.odd g (canonF_mem.1 hg).1, hs.inc.filter _⟩

theorem canonF_lim {f c : Form} (hl : Lim f) (hs : Shape f) (h : CoreOf f c) : Lim (canonF f c) := by
 have := h.lim hl hs
 refine ⟨this.core, this.sets, ?_, fun g hg => hl.ticks g (canonF_mem.1 hg).1, this.count, this.period⟩
 have h1 : (canonF f c).Odd.length ≤ f.Odd.length := List.length_filter_le _ _
 have := hl.odd
 have := Nat.mul_le_mul_right 32 h1
 omega

theorem turns_of {f : Form} (hs : Shape f) (h : 0 < f.Count → ∀ i k, i < k → cs f i ≠ [] → cs f k ≠ [] → lstT (cs f i) < fstT (cs f k)) : Turns f := by
 have hcnt := hs.count
 have at_ : ∀ (j : Nat) (a : List Span), f.Core[j]? = some a → cs f j = a := fun j a ha => by
  have := (List.getElem?_eq_some_iff.1 ha).1
  rw [cs_small (by omega) (by omega), List.getD_eq_getElem?_getD, Int.toNat_natCast, ha]; rfl
 have hpw : f.Core.Pairwise (fun a b => a ≠ [] → b ≠ [] → lstT a < fstT b) := by
  rw [List.pairwise_iff_getElem]
  intro i j hi hj hij na nb
  have h1 := at_ i _ (List.getElem?_eq_getElem hi)
  have h2 := at_ j _ (List.getElem?_eq_getElem hj)
  have := h (by omega) i j (by omega) (by rw [h1]; exact na) (by rw [h2]; exact nb)
  rw [h1, h2] at this
  exact this
 constructor
 ·intro k a b ha hb
  have hp := hpw.filter (fun l => decide (l.length > 0))
  rw [List.pairwise_iff_getElem] at hp
  obtain ⟨h1, rfl⟩ := List.getElem?_eq_some_iff.1 ha
  obtain ⟨h2, rfl⟩ := List.getElem?_eq_some_iff.1 hb
  exact hp k (k + 1) h1 h2 (by omega) (full_mem.1 (List.getElem_mem h1)).2 (full_mem.1 (List.getElem_mem h2)).2
 ·intro a b ha hb
  obtain ⟨ma, na⟩ := full_mem.1 (List.mem_of_getLast? ha)
  obtain ⟨mb, nb⟩ := full_mem.1 (List.mem_of_head? hb)
  obtain ⟨j, hj⟩ := List.getElem?_of_mem ma
  obtain ⟨k, hk⟩ := List.getElem?_of_mem mb
  have hjl := (List.getElem?_eq_some_iff.1 hj).1
  have h1 := at_ j _ hj
  have h2 := at_ k _ hk
  have h3 : cs f ((k : Int) + f.Count) = b.map (shiftS f.Period) := by rw [cs_period (by omega), h2]
  have := h (by omega) j ((k : Int) + f.Count) (by omega) (by rw [h1]; exact na) (by rw [h3]; simpa using nb)
  rw [h1, h3, (lst_shift _ nb).2] at this
  exact this

theorem csz_order {f : Form} (hs : Shape f) (ht : Turns f) {i k : Int} (hik : i < k) (ni : csz f i ≠ []) (nk : csz f k ≠ []) : lstT (csz f i) < fstT (csz f k) := by
 have h0 : f.Count ≠ 0 := fun h => ni (by unfold csz; rw [if_pos h])
 unfold csz at ni nk ⊢
 rw [if_neg h0] at ni nk ⊢
 rw [if_neg h0]
 have n1 : coreAt f i ≠ [] := fun h => ni (by unfold cs; rw [h]; rfl)
 have n2 : coreAt f k ≠ [] := fun h => nk (by unfold cs; rw [h]; rfl)
 have := core_order hs ht h0 hik n1 n2
 unfold cs
 rw [(lst_shift _ n1).1, (lst_shift _ n2).2]
 exact this

theorem beside_congr {f g : Form} (h : setAt g = setAt f) {i : Int} (hb : Beside f i) : Beside g i := by
 intro lo hi hlo hhi
 have hu : Under f i lo := by unfold Under at hlo ⊢; rw [h] at hlo; exact hlo
 have ha : Above f i hi := by unfold Above at hhi ⊢; rw [h] at hhi; exact hhi
 have := hb lo hi hu ha
 unfold BesideR fits at this ⊢
 rw [h]
 exact this

theorem canonF_right {f c : Form} (hr : RightF f) (h : CoreOf f c) : RightF (canonF f c) := by
 have hs := hr.shape
 refine ⟨canonF_shape hs h, turns_of (canonF_shape hs h) (fun h0 i k hik ni nk => ?_), fun g hg => beside_congr (canonF_setAt hs h) (hr.beside g (canonF_mem.1 hg).1)⟩
 rw [← csz_pos h0, canonF_csz hs h] at ni nk ⊢
 exact csz_order hs hr.turns hik ni nk

end Go.Dn

set_option linter.unusedVariables false
set_option linter.unusedSimpArgs false
namespace Go.Dn
open Go

theorem sum_take_le {α : Type} (g : α → Nat) : ∀ (n : Nat) (l : List α), ((l.take n).map g).sum ≤ (l.map g).sum
 | 0, l => by simp
 | n + 1, [] => by simp
 | n + 1, x :: l => by
  have := sum_take_le g n l
  simp only [List.take_succ_cons, List.map_cons, List.sum_cons]; omega

theorem coreOf_le {f c : Form} (hs : Shape f) (h : CoreOf f c) : c.Count ≤ f.Count ∧ c.Period ≤ f.Period ∧ c.Core.length ≤ f.Core.length ∧ (c.Core.map List.length).sum ≤ (f.Core.map List.length).sum := by
 have hp := hs.per
 have hcnt := hs.count
 rcases h with ⟨hb, rfl⟩ | ⟨hb, h0, d, hg, hmin, rfl⟩
 ·exact ⟨by simp only; omega, by simp only; omega, Nat.zero_le _, Nat.zero_le _⟩
 ·exact ⟨Int.le_of_dvd h0 hg.dvd, Int.ediv_le_self _ hp.1, by simp only [List.length_take]; omega, sum_take_le _ _ _⟩

end Go.Dn

set_option linter.unusedVariables false
set_option linter.unusedSimpArgs false
namespace Go.Dn
open Go

theorem shift_ne {l : List Span} (hn : l ≠ []) {a b : Int} (h : l.map (shiftS a) = l.map (shiftS b)) : a = b := by
 cases l with
 | nil => exact absurd rfl hn
 | cons s l =>
  simp only [List.map_cons, List.cons.injEq, shiftS, Span.mk.injEq] at h
  omega

theorem Turn.uniq {h : Int → List Span} {d q q' : Int} (t : Turn h d q) (t' : Turn h d q') {i : Int} (hn : h i ≠ []) : q = q' := shift_ne hn ((t i).symm.trans (t' i))

theorem core_turn_self {f : Form} (h0 : 0 < f.Count) : Turn (cs f) f.Count f.Period := cs_period (by omega)

theorem cs_some {f : Form} (hs : Shape f) (hb : ¬ Bare f) (h0 : 0 < f.Count) (a : Int) : ∃ i, a ≤ i ∧ i < a + f.Count ∧ cs f i ≠ [] := by
 apply Classical.byContradiction
 intro hn
 apply hb
 have hz : cs f = fun _ => [] := Turn.agree (a := a) (core_turn_self h0) (fun i => rfl) h0 (fun i i0 i1 => Classical.byContradiction fun h => hn ⟨i, i0, i1, h⟩)
 intro l hl
 obtain ⟨k, hk⟩ := List.getElem?_of_mem hl
 have hkl := (List.getElem?_eq_some_iff.1 hk).1
 have hcnt := hs.count
 have := congrFun hz (k : Int)
 rw [cs_small (by omega) (by omega), List.getD_eq_getElem?_getD, Int.toNat_natCast, hk] at this
 exact this

def NearF (f : Form) (m : Int) : Prop := ∀ g ∈ f.Odd, -m ≤ g.Index ∧ g.Index ≤ m

end Go.Dn

set_option linter.unusedVariables false
set_option linter.unusedSimpArgs false
namespace Go.Dn
open Go

end Go.Dn

set_option linter.unusedVariables false
set_option linter.unusedSimpArgs false
namespace Go.Dn
open Go

theorem pigeon : ∀ (l : List Int) (c : Nat → Int), (∀ a b, c a = c b → a = b) → ∃ k, k ≤ l.length ∧ c k ∉ l
 | [], c, _ => ⟨0, Nat.le_refl _, by simp⟩
 | x :: l, c, hc => by
  by_cases h : ∃ k0, c k0 = x
  ·obtain ⟨k0, rfl⟩ := h
   obtain ⟨k, h1, h2⟩ := pigeon l (fun k => if k < k0 then c k else c (k + 1)) (fun a b hab => by
    split at hab <;> split at hab <;> have := hc _ _ hab <;> omega)
   split at h2
   ·rename_i hk
    refine ⟨k, by simp; omega, ?_⟩
    rw [List.mem_cons]
    rintro (h | h)
    ·have := hc _ _ h; omega
    ·exact h2 h
   ·rename_i hk
    refine ⟨k + 1, by simp; omega, ?_⟩
    rw [List.mem_cons]
    rintro (h | h)
    ·have := hc _ _ h; omega
    ·exact h2 h
  ·obtain ⟨k, h1, h2⟩ := pigeon l c hc
   refine ⟨k, by simp; omega, ?_⟩
   rw [List.mem_cons]
   rintro (h' | h')
   ·exact h ⟨k, h'⟩
   ·exact h2 h'

theorem free_core {f : Form} (hs : Shape f) (hb : ¬ Bare f) (h0 : 0 < f.Count) (ho : f.Odd.length ≤ 8) (a : Int) : ∃ j, a ≤ j ∧ j < a + f.Count * 9 ∧ ¬ isOdd f j ∧ setAt f j ≠ [] := by
 obtain ⟨i, h1, h2, h3⟩ := cs_some hs hb h0 a
 obtain ⟨k, hk, hn⟩ := pigeon (f.Odd.map (·.Index)) (fun k => i + f.Count * k) (fun a b hab => by
  have h4 : f.Count * (a : Int) = f.Count * b := by omega
  have := Int.eq_of_mul_eq_mul_left (by omega) h4
  omega)
 rw [List.length_map] at hk
 have hk9 : (k : Int) + 1 ≤ 9 := by omega
 have hkc : f.Count * ((k : Int) + 1) ≤ f.Count * 9 := Int.mul_le_mul_of_nonneg_left hk9 (by omega)
 rw [Int.mul_add, Int.mul_one] at hkc
 have hkn : 0 ≤ f.Count * (k : Int) := Int.mul_nonneg (by omega) (by omega)
 have hno : ¬ isOdd f (i + f.Count * k) := by
  rintro ⟨g, hg, he⟩
  exact hn (List.mem_map.2 ⟨g, hg, he⟩)
 refine ⟨i + f.Count * k, by omega, by omega, hno, ?_⟩
 rw [setAt_csz hno, csz_pos h0, cs_periods (by omega)]
 intro h
 rw [List.map_eq_nil_iff] at h
 exact h3 h

end Go.Dn

set_option linter.unusedVariables false
set_option linter.unusedSimpArgs false
namespace Go.Dn
open Go

def Mid (x : Int) : Prop := -1000000000000000000 ≤ x ∧ x ≤ 1000000000000000000

end Go.Dn

set_option linter.unusedVariables false
set_option linter.unusedSimpArgs false
namespace Go.Dn
open Go

end Go.Dn

set_option linter.unusedVariables false
set_option linter.unusedSimpArgs false
namespace Go.Dn
open Go

theorem search_eq {n : Int} (h0 : 0 ≤ n) (hn : n ≤ 4611686018427387904) {f : Int → Option Bool} {p : Int → Bool} (hf : ∀ z, 0 ≤ z → z < n → f z = some (p z)) (hm : ∀ a b, 0 ≤ a → a ≤ b → b < n → p a = true → p b = true) :
  ∃ r, sort_Search n f = some r ∧ 0 ≤ r ∧ r ≤ n ∧ (∀ z, 0 ≤ z → z < r → p z = false) ∧ (∀ z, r ≤ z → z < n → p z = true) := by
 unfold sort_Search
 obtain ⟨r, h1, h2⟩ := loopO_inv (step := sort_Search.s0 f)
  (fun s => 0 ≤ s.1 ∧ s.1 ≤ s.2 ∧ s.2 ≤ n ∧ (∀ z, 0 ≤ z → z < s.1 → p z = false) ∧ (∀ z, s.2 ≤ z → z < n → p z = true))
  (fun s => (s.2 - s.1).toNat) (fun r => 0 ≤ r ∧ r ≤ n ∧ (∀ z, 0 ≤ z → z < r → p z = false) ∧ (∀ z, r ≤ z → z < n → p z = true)) (by
   rintro ⟨i, j⟩ ⟨a1, a2, a3, a4, a5⟩
   simp only at a1 a2 a3 a4 a5
   unfold sort_Search.s0
   simp only
   by_cases hlt : i < j
   ·left
    rw [dec_t hlt, cond_true]
    have e : w64 ((IntKind.u64.wrap (w64 (i + j))).fdiv (2 ^ 1)) = (i + j) / 2 := by
     rw [w64_id (x := i + j) (by omega), wrap_u64, Int.fdiv_eq_ediv_of_nonneg _ (by decide)]
     have : (2 ^ 1 : Int) = 2 := rfl
     rw [this, w64_id (by omega)]
     omega
    rw [e, hf _ (by omega) (by omega)]
    simp only [Option.bind_some]
    cases hp : p ((i + j) / 2) with
    | false =>
     simp only [Bool.not_false, cond_true, Option.bind_some]
     rw [w64_id (by omega)]
     refine ⟨_, rfl, ⟨by simp only; omega, by simp only; omega, a3, ?_, a5⟩, by simp only; omega⟩
     intro z z0 z1
     cases hz : p z with
     | false => rfl
     | true =>
      have := hm z ((i + j) / 2) z0 (by simp only at z1; omega) (by omega) hz
      rw [hp] at this; cases this
    | true =>
     simp only [Bool.not_true, cond_false, Option.bind_some]
     refine ⟨_, rfl, ⟨a1, by simp only; omega, by simp only; omega, a4, ?_⟩, by simp only; omega⟩
     intro z z0 z1
     exact hm ((i + j) / 2) z (by omega) z0 z1 hp
   ·right
    rw [dec_f hlt, cond_false]
    exact ⟨_, rfl, a1, by omega, a4, fun z z0 z1 => a5 z (by omega) z1⟩) (0, n) ⟨by simp, h0, by simp, fun z z0 z1 => by simp only at z1; omega, fun z z0 z1 => by simp only at z0; omega⟩
 rw [h1]
 exact ⟨r, rfl, h2⟩

theorem hull_eq {l : List Span} (hl : Len l) : spans_Hull l = some (if l = [] then (⟨0, 0⟩, false) else (⟨fstT l, lstT l⟩, true)) := by
 have hlen := len_lt (b := 15) hl
 unfold spans_Hull
 by_cases h : l = []
 ·subst h; rfl
 ·have hp : 0 < l.length := List.length_pos_iff.2 h
  rw [if_neg h, beq_f (by omega), cond_false, w64_id (by omega)]
  have e1 : at? l 0 = some (l.head h) := by
   have := at?_nat (l := l) (k := 0) hp
   rw [show ((0 : Nat) : Int) = 0 from rfl] at this
   rw [this, List.head_eq_getElem]
  have e2 : at? l ((l.length : Int) - 1) = some (l.getLast h) := by
   have := at?_nat (l := l) (k := l.length - 1) (by omega)
   rw [show ((l.length - 1 : Nat) : Int) = (l.length : Int) - 1 by omega] at this
   rw [this, List.getLast_eq_getElem]
  rw [e1, e2]
  simp only [Option.bind_some]
  unfold fstT lstT
  rw [List.head?_eq_some_head h, List.getLast?_eq_some_getLast h]
  rfl

def spotOf (g : Form) (j : Nat) : Option size_spot := if g.Core.getD j [] = [] then none else some ⟨(j : Int), ⟨fstT (g.Core.getD j []), lstT (g.Core.getD j [])⟩⟩
def spotsUp (g : Form) (k : Nat) : List size_spot := (List.range k).filterMap (spotOf g)
theorem spotsUp_succ (g : Form) (k : Nat) : spotsUp g (k + 1) = spotsUp g k ++ (spotOf g k).toList := by
 unfold spotsUp
 rw [List.range_succ, List.filterMap_append]
 cases h : spotOf g k <;> simp [h]
theorem spotsUp_len (g : Form) (k : Nat) : (spotsUp g k).length ≤ k := by
 have := List.length_filterMap_le (spotOf g) (List.range k)
 rw [List.length_range] at this
 exact this
abbrev spotsOf (g : Form) : List size_spot := spotsUp g g.Core.length

theorem made_eq {f g : Form} (hg : canon_Form f = some g) (hl : Lim g) (hc : g.Core.length ≤ 12) : size_made f = some ⟨g, spotsOf g⟩ := by
 have hr := room_eq
 unfold size_made
 rw [hg]
 simp only [Option.bind_some]
 have : loopO (size_made.s0 g) (0, []) = some (spotsOf g) := by
  refine loopO_val (I := fun s r => r = spotsOf g ∧ ∃ k : Nat, k ≤ g.Core.length ∧ s = ((k : Int), spotsUp g k)) (fun s => g.Core.length - s.1.toNat) ?_ ⟨rfl, 0, Nat.zero_le _, rfl⟩
  rintro s r ⟨rfl, k, hk, rfl⟩
  unfold size_made.s0
  by_cases hlt : k < g.Core.length
  ·left
   have hm := List.getElem_mem hlt
   have hgd : g.Core.getD k [] = g.Core[k] := by rw [List.getD_eq_getElem?_getD, List.getElem?_eq_getElem hlt]; rfl
   have hul := spotsUp_len g k
   simp only
   rw [dec_t (show (k : Int) < g.Core.length by omega), cond_true, at?_nat hlt]
   simp only [Option.bind_some]
   rw [hull_eq (hl.sets _ hm).1]
   simp only [Option.bind_some]
   have hsp := spotsUp_succ g k
   unfold spotOf at hsp
   rw [hgd] at hsp
   by_cases hne : g.Core[k] = []
   ·rw [if_pos hne]
    rw [if_pos hne] at hsp
    simp only [cond_false, Option.bind_some]
    rw [w64_id (by omega)]
    exact ⟨_, rfl, ⟨trivial, k + 1, hlt, by rw [hsp]; push_cast; simp⟩, by simp only; omega⟩
   ·rw [if_neg hne]
    rw [if_neg hne] at hsp
    simp only [cond_true]
    rw [app?_ok (by simp only [List.length_cons, List.length_nil]; omega)]
    simp only [Option.bind_some]
    rw [w64_id (by omega)]
    exact ⟨_, rfl, ⟨trivial, k + 1, hlt, by rw [hsp]; push_cast; simp⟩, by simp only; omega⟩
  ·right
   have : k = g.Core.length := by omega
   subst this
   rw [dec_f (by simp only; omega), cond_false]
 rw [this]
 rfl

structure Spots (g : Form) (l : List size_spot) : Prop where
 mem : ∀ s ∈ l, 0 ≤ s.index ∧ s.index < g.Count ∧ cs g s.index ≠ [] ∧ s.place.first = fstT (cs g s.index) ∧ s.place.last = lstT (cs g s.index)
 all : ∀ j, 0 ≤ j → j < g.Count → cs g j ≠ [] → ∃ s ∈ l, s.index = j
 inc : l.Pairwise (fun a b => a.index < b.index)

theorem spots_ok {g : Form} (hs : Shape g) : Spots g (spotsOf g) := by
 have hcnt := hs.count
 have hcs : ∀ j : Nat, j < g.Core.length → cs g j = g.Core.getD j [] := fun j hj => by
  rw [cs_small (by omega) (by omega)]; rfl
 refine ⟨?_, ?_, ?_⟩
 ·intro s hs'
  obtain ⟨j, hj, hjs⟩ := List.mem_filterMap.1 hs'
  have hj := List.mem_range.1 hj
  unfold spotOf at hjs
  split at hjs
  ·cases hjs
  ·rename_i hne
   cases hjs
   refine ⟨by simp only; omega, by simp only; omega, ?_, ?_, ?_⟩ <;> simp only <;> rw [hcs j hj]
   exact hne
 ·intro j h0 h1 hne
  have hj : j.toNat < g.Core.length := by omega
  have e : ((j.toNat : Nat) : Int) = j := by omega
  have := hcs j.toNat hj
  rw [e] at this
  rw [this] at hne
  refine ⟨⟨(j.toNat : Int), ⟨fstT (g.Core.getD j.toNat []), lstT (g.Core.getD j.toNat [])⟩⟩, List.mem_filterMap.2 ⟨j.toNat, List.mem_range.2 hj, ?_⟩, e⟩
  unfold spotOf
  rw [if_neg hne]
 ·unfold spotsOf spotsUp
  rw [List.pairwise_filterMap]
  refine List.Pairwise.imp ?_ List.pairwise_lt_range
  intro a b hab x hx y hy
  unfold spotOf at hx hy
  split at hx <;> split at hy <;> simp_all
  subst hx hy
  simp only; omega

theorem cs_order {g : Form} (hs : Shape g) (ht : Turns g) (h0 : 0 < g.Count) {i k : Int} (hik : i < k) (ni : cs g i ≠ []) (nk : cs g k ≠ []) : lstT (cs g i) < fstT (cs g k) := by
 have := csz_order hs ht hik (by rw [csz_pos h0]; exact ni) (by rw [csz_pos h0]; exact nk)
 rwa [csz_pos h0] at this
theorem cs_right {g : Form} (hs : Shape g) (h0 : 0 < g.Count) {j : Int} (j0 : 0 ≤ j) (j1 : j < g.Count) : RightL (cs g j) := by
 rw [cs_small j0 j1]
 have := hs.count
 have hj : j.toNat < g.Core.length := by omega
 rw [List.getD_eq_getElem?_getD, List.getElem?_eq_getElem hj]
 exact hs.core _ (List.getElem_mem hj)
theorem cs_turn {g : Form} (h0 : 0 < g.Count) (i q : Int) : cs g (i + g.Count * q) = (cs g i).map (shiftS (q * g.Period)) := cs_periods (by omega) i q

def LastC (g : Form) (t i : Int) : Prop := cs g i ≠ [] ∧ fstT (cs g i) ≤ t ∧ ∀ k, i < k → cs g k ≠ [] → t < fstT (cs g k)
def FirstC (g : Form) (t i : Int) : Prop := cs g i ≠ [] ∧ t ≤ lstT (cs g i) ∧ ∀ k, k < i → cs g k ≠ [] → lstT (cs g k) < t

theorem at?_get {α : Type} {l : List α} {i : Int} (h0 : 0 ≤ i) (h1 : i < l.length) : ∃ x, at? l i = some x ∧ l[i.toNat]? = some x ∧ x ∈ l := by
 have h : i.toNat < l.length := by omega
 exact ⟨l[i.toNat], at?_lt h0 h1, List.getElem?_eq_getElem h, List.getElem_mem h⟩

theorem spots_get {g : Form} {l : List size_spot} (h : Spots g l) {a b : Nat} {x y : size_spot} (ha : l[a]? = some x) (hb : l[b]? = some y) (hab : a < b) : x.index < y.index := by
 have h1 := (List.getElem?_eq_some_iff.1 ha)
 have h2 := (List.getElem?_eq_some_iff.1 hb)
 obtain ⟨l1, e1⟩ := h1
 obtain ⟨l2, e2⟩ := h2
 have := List.pairwise_iff_getElem.1 h.inc a b l1 l2 hab
 rw [e1, e2] at this
 exact this

structure Fit (g : Form) : Prop where
 lim : Lim g
 shape : Shape g
 turns : Turns g
 few : g.Core.length ≤ 12
 odds : g.Odd.length ≤ 8

theorem Fit.per {g : Form} (h : Fit g) (h0 : 0 < g.Count) : 0 < g.Period := by
 have h1 := h.shape.per
 have h2 := h.shape.zero
 omega

def BigT (t : Int) : Prop := -4398046511104 ≤ t ∧ t ≤ 4398046511104

theorem turn_split {g : Form} (h0 : 0 < g.Count) (k : Int) : ∃ j q, 0 ≤ j ∧ j < g.Count ∧ k = j + g.Count * q ∧ cs g k = (cs g j).map (shiftS (q * g.Period)) := by
 have e : k = k % g.Count + g.Count * (k / g.Count) := (Int.emod_add_mul_ediv k g.Count).symm
 refine ⟨k % g.Count, k / g.Count, Int.emod_nonneg k (by omega), Int.emod_lt_of_pos k h0, e, ?_⟩
 conv => lhs; rw [e]
 exact cs_turn h0 _ _

theorem quot_bound {n p : Int} (hp : 0 < p) (hn : -8796093022208 ≤ n ∧ n ≤ 8796093022208) : -8796093022208 ≤ n / p ∧ n / p ≤ 8796093022208 := by
 constructor
 ·have : -8796093022208 ≤ n / p ↔ -8796093022208 * p ≤ n := Int.le_ediv_iff_mul_le hp
  rw [this]
  have : -8796093022208 * p ≤ -8796093022208 * 1 := by omega
  omega
 ·by_cases h : 0 ≤ n
  ·have := Int.ediv_le_self p h; omega
  ·have := Int.ediv_neg_of_neg_of_pos (show n < 0 by omega) hp; omega

theorem prod_bound {q c : Int} (hq : -8796093022208 ≤ q ∧ q ≤ 8796093022208) (hc : 0 ≤ c ∧ c ≤ 12) : -105553116266496 ≤ q * c ∧ q * c ≤ 105553116266496 := by
 constructor
 ·have := Int.mul_le_mul_of_nonneg_right hq.1 hc.1
  omega
 ·have := Int.mul_le_mul_of_nonneg_right hq.2 hc.1
  omega

theorem core_down_eq {g : Form} (h : Fit g) (h0 : 0 < g.Count) {sp : List size_spot} (hsp : Spots g sp) (hn : sp ≠ []) (hln : sp.length ≤ 12) {t : Int} (ht : BigT t) :
  ∃ i, size_form_core ⟨g, sp⟩ t false = some i ∧ LastC g t i ∧ -211106232532992 ≤ i ∧ i ≤ 211106232532992 := by
 unfold BigT at ht
 have hs := h.shape
 have hper := h.per h0
 have hper2 := hs.per
 have hcnt := hs.count
 have hfew := h.few
 have hlen : 0 < sp.length := List.length_pos_iff.2 hn
 obtain ⟨x5, a1, a2, a3⟩ := at?_get (l := sp) (i := 0) (by omega) (by omega)
 obtain ⟨b1, b2, b3, b4, b5⟩ := hsp.mem x5 a3
 have r5 := lst_tick (cs_right hs h0 b1 b2) b3
 rw [← b4, ← b5] at r5
 unfold tickP at r5
 unfold size_form_core
 rw [cond_false]
 simp only
 rw [a1]
 simp only [Option.bind_some]
 rw [w64_id (x := t - x5.place.first) (by omega), safe_Floor_eq (by unfold In64; omega) (by unfold In64; omega), floorS_pos hper]
 simp only [Option.bind_some]
 have qb := quot_bound hper (n := t - x5.place.first) (by omega)
 have qm := Int.emod_add_mul_ediv (t - x5.place.first) g.Period
 have q0 := Int.emod_nonneg (t - x5.place.first) (show g.Period ≠ 0 by omega)
 have q1 := Int.emod_lt_of_pos (t - x5.place.first) hper
 generalize (t - x5.place.first) / g.Period = q at *
 have qp : -10995116277760 ≤ q * g.Period ∧ q * g.Period ≤ 10995116277760 := by rw [Int.mul_comm]; omega
 obtain ⟨r, s1, s2, s3, s4, s5⟩ := search_eq (n := (sp.length : Int)) (by omega) (by omega)
  (f := fun z0 => size_form_core_2 z0 ⟨g, sp⟩ q t) (p := fun z => match sp[z.toNat]? with | some s => decide (s.place.first + q * g.Period > t) | none => true) (by
   intro z z0 z1
   obtain ⟨x, e1, e2, e3⟩ := at?_get (l := sp) z0 z1
   obtain ⟨c1, c2, c3, c4, c5⟩ := hsp.mem x e3
   have rx := lst_tick (cs_right hs h0 c1 c2) c3
   rw [← c4, ← c5] at rx
   unfold tickP at rx
   unfold size_form_core_2
   simp only
   rw [e1, e2]
   simp only [Option.bind_some]
   rw [w64_id (x := q * g.Period) (by omega), w64_id (by omega)]) (by
   intro a b a0 hab hb hp
   obtain ⟨x, e1, e2, e3⟩ := at?_get (l := sp) a0 (by omega)
   obtain ⟨y, f1, f2, f3⟩ := at?_get (l := sp) (show 0 ≤ b by omega) hb
   simp only [e2, f2, decide_eq_true_eq] at hp ⊢
   by_cases hne : a = b
   ·subst hne; rw [e2] at f2; cases f2; exact hp
   ·have hlt := spots_get hsp e2 f2 (by omega)
    obtain ⟨c1, c2, c3, c4, c5⟩ := hsp.mem x e3
    obtain ⟨d1, d2, d3, d4, d5⟩ := hsp.mem y f3
    have o1 := cs_order hs h.turns h0 hlt c3 d3
    have o2 := fst_le_lst (cs_right hs h0 c1 c2) c3
    omega)
 rw [s1]
 simp only [Option.bind_some]
 have r1 : 1 ≤ r := by
  by_cases hr : 1 ≤ r
  ·exact hr
  ·have : r = 0 := by omega
   subst this
   have := s5 0 (by omega) (by omega)
   rw [show (0 : Int).toNat = 0 from rfl] at this
   rw [show (0 : Int).toNat = 0 from rfl] at a2
   simp only [a2, decide_eq_true_eq] at this
   rw [Int.mul_comm] at this
   omega
 rw [w64_id (x := r - 1) (by omega)]
 obtain ⟨x8, e1, e2, e3⟩ := at?_get (l := sp) (i := r - 1) (by omega) (by omega)
 rw [e1]
 simp only [Option.bind_some]
 obtain ⟨c1, c2, c3, c4, c5⟩ := hsp.mem x8 e3
 have hqc := prod_bound qb (c := g.Count) (by omega)
 rw [w64_id (x := q * g.Count) (by omega), w64_id (by omega)]
 refine ⟨_, rfl, ⟨?_, ?_, ?_⟩, by omega, by omega⟩
 ·rw [Int.mul_comm q, cs_turn h0]; simpa using c3
 ·rw [Int.mul_comm q, cs_turn h0, (lst_shift _ c3).2, ← c4]
  have := s4 (r - 1) (by omega) (by omega)
  simp only [e2, decide_eq_false_iff_not] at this
  omega
 ·intro k hk hkn
  obtain ⟨j, q', j0, j1, rfl, ek⟩ := turn_split h0 k
  rw [ek] at hkn ⊢
  have hjn : cs g j ≠ [] := fun h => hkn (by rw [h]; rfl)
  rw [(lst_shift _ hjn).2]
  obtain ⟨y, y1, rfl⟩ := hsp.all j j0 j1 hjn
  obtain ⟨d1, d2, d3, d4, d5⟩ := hsp.mem y y1
  obtain ⟨z, hz⟩ := List.getElem?_of_mem y1
  have hz2 := (List.getElem?_eq_some_iff.1 hz).1
  have fy : x5.place.first ≤ y.place.first := by
   by_cases hz0 : z = 0
   ·subst hz0
    rw [show (0 : Int).toNat = 0 from rfl] at a2
    rw [a2] at hz; cases hz; exact Int.le_refl _
   ·have hlt := spots_get hsp a2 hz (by omega)
    have o1 := cs_order hs h.turns h0 hlt b3 d3
    have o2 := fst_le_lst (cs_right hs h0 b1 b2) b3
    omega
  rw [← d4]
  by_cases hqq : q' ≤ q
  ·have hqe : q' = q := by
    by_cases h' : q' = q
    ·exact h'
    ·have : g.Count * (q' + 1) ≤ g.Count * q := Int.mul_le_mul_of_nonneg_left (by omega) (by omega)
     rw [Int.mul_add, Int.mul_one] at this
     rw [Int.mul_comm q] at hk
     omega
   subst hqe
   rw [Int.mul_comm q'] at hk
   have hyi : x8.index < y.index := by omega
   have hzr : r ≤ (z : Int) := by
    by_cases h' : r ≤ (z : Int)
    ·exact h'
    ·by_cases h'' : z = (r - 1).toNat
     ·subst h''; rw [e2] at hz; cases hz; omega
     ·have := spots_get hsp hz e2 (by omega); omega
   have := s5 z hzr (by omega)
   rw [Int.toNat_natCast] at this
   simp only [hz, decide_eq_true_eq] at this
   omega
  ·have : g.Period * (q + 1) ≤ g.Period * q' := Int.mul_le_mul_of_nonneg_left (by omega) (by omega)
   rw [Int.mul_add, Int.mul_one] at this
   rw [Int.mul_comm q']
   omega

end Go.Dn

set_option linter.unusedVariables false
set_option linter.unusedSimpArgs false
namespace Go.Dn
open Go

theorem core_up_eq {g : Form} (h : Fit g) (h0 : 0 < g.Count) {sp : List size_spot} (hsp : Spots g sp) (hn : sp ≠ []) (hln : sp.length ≤ 12) {t : Int} (ht : BigT t) :
  ∃ i, size_form_core ⟨g, sp⟩ t true = some i ∧ FirstC g t i ∧ -211106232532992 ≤ i ∧ i ≤ 211106232532992 := by
 unfold BigT at ht
 have hs := h.shape
 have hper := h.per h0
 have hper2 := hs.per
 have hcnt := hs.count
 have hfew := h.few
 have hlen : 0 < sp.length := List.length_pos_iff.2 hn
 obtain ⟨x5, a1, a2, a3⟩ := at?_get (l := sp) (i := (sp.length : Int) - 1) (by omega) (by omega)
 obtain ⟨b1, b2, b3, b4, b5⟩ := hsp.mem x5 a3
 have r5 := lst_tick (cs_right hs h0 b1 b2) b3
 rw [← b4, ← b5] at r5
 unfold tickP at r5
 unfold size_form_core
 rw [cond_true]
 simp only
 rw [w64_id (x := (sp.length : Int) - 1) (by omega), a1]
 simp only [Option.bind_some]
 rw [w64_id (x := x5.place.last - t) (by omega), safe_Floor_eq (by unfold In64; omega) (by unfold In64; omega), floorS_pos hper]
 simp only [Option.bind_some]
 have qb := quot_bound hper (n := x5.place.last - t) (by omega)
 have qm := Int.emod_add_mul_ediv (x5.place.last - t) g.Period
 have q0 := Int.emod_nonneg (x5.place.last - t) (show g.Period ≠ 0 by omega)
 have q1 := Int.emod_lt_of_pos (x5.place.last - t) hper
 generalize (x5.place.last - t) / g.Period = q at *
 have qp : -10995116277760 ≤ q * g.Period ∧ q * g.Period ≤ 10995116277760 := by rw [Int.mul_comm]; omega
 obtain ⟨r, s1, s2, s3, s4, s5⟩ := search_eq (n := (sp.length : Int)) (by omega) (by omega)
  (f := fun z0 => size_form_core_1 z0 ⟨g, sp⟩ q t) (p := fun z => match sp[z.toNat]? with | some s => decide (s.place.last - q * g.Period ≥ t) | none => true) (by
   intro z z0 z1
   obtain ⟨x, e1, e2, e3⟩ := at?_get (l := sp) z0 z1
   obtain ⟨c1, c2, c3, c4, c5⟩ := hsp.mem x e3
   have rx := lst_tick (cs_right hs h0 c1 c2) c3
   rw [← c4, ← c5] at rx
   unfold tickP at rx
   unfold size_form_core_1
   simp only
   rw [e1, e2]
   simp only [Option.bind_some]
   rw [w64_id (x := q * g.Period) (by omega), w64_id (by omega)]) (by
   intro a b a0 hab hb hp
   obtain ⟨x, e1, e2, e3⟩ := at?_get (l := sp) a0 (by omega)
   obtain ⟨y, f1, f2, f3⟩ := at?_get (l := sp) (show 0 ≤ b by omega) hb
   simp only [e2, f2, decide_eq_true_eq] at hp ⊢
   by_cases hne : a = b
   ·subst hne; rw [e2] at f2; cases f2; exact hp
   ·have hlt := spots_get hsp e2 f2 (by omega)
    obtain ⟨c1, c2, c3, c4, c5⟩ := hsp.mem x e3
    obtain ⟨d1, d2, d3, d4, d5⟩ := hsp.mem y f3
    have o1 := cs_order hs h.turns h0 hlt c3 d3
    have o2 := fst_le_lst (cs_right hs h0 d1 d2) d3
    omega)
 rw [s1]
 simp only [Option.bind_some]
 have r1 : r < sp.length := by
  by_cases hr : r < sp.length
  ·exact hr
  ·have := s4 ((sp.length : Int) - 1) (by omega) (by omega)
   simp only [a2, decide_eq_false_iff_not] at this
   rw [Int.mul_comm] at this
   omega
 obtain ⟨x8, e1, e2, e3⟩ := at?_get (l := sp) (i := r) (by omega) (by omega)
 rw [e1]
 simp only [Option.bind_some]
 obtain ⟨c1, c2, c3, c4, c5⟩ := hsp.mem x8 e3
 have hqc := prod_bound qb (c := g.Count) (by omega)
 rw [w64_id (x := q * g.Count) (by omega), w64_id (by omega)]
 have ei : x8.index - q * g.Count = x8.index + g.Count * (-q) := by rw [Int.mul_neg, Int.mul_comm]; omega
 refine ⟨_, rfl, ⟨?_, ?_, ?_⟩, by omega, by omega⟩
 ·rw [ei, cs_turn h0]; simpa using c3
 ·rw [ei, cs_turn h0, (lst_shift _ c3).1, ← c5]
  have := s5 r (by omega) (by omega)
  simp only [e2, decide_eq_true_eq] at this
  rw [Int.neg_mul]
  omega
 ·intro k hk hkn
  obtain ⟨j, q', j0, j1, rfl, ek⟩ := turn_split h0 k
  rw [ek] at hkn ⊢
  have hjn : cs g j ≠ [] := fun h => hkn (by rw [h]; rfl)
  rw [(lst_shift _ hjn).1]
  obtain ⟨y, y1, rfl⟩ := hsp.all j j0 j1 hjn
  obtain ⟨d1, d2, d3, d4, d5⟩ := hsp.mem y y1
  obtain ⟨z, hz⟩ := List.getElem?_of_mem y1
  have hz2 := (List.getElem?_eq_some_iff.1 hz).1
  have fy : y.place.last ≤ x5.place.last := by
   by_cases hz0 : z = ((sp.length : Int) - 1).toNat
   ·subst hz0
    rw [a2] at hz; cases hz; exact Int.le_refl _
   ·have hlt := spots_get hsp hz a2 (by omega)
    have o1 := cs_order hs h.turns h0 hlt d3 b3
    have o2 := fst_le_lst (cs_right hs h0 b1 b2) b3
    omega
  rw [← d5]
  by_cases hqq : -q ≤ q'
  ·have hqe : q' = -q := by
    by_cases h' : q' = -q
    ·exact h'
    ·have : g.Count * (-q + 1) ≤ g.Count * q' := Int.mul_le_mul_of_nonneg_left (by omega) (by omega)
     rw [Int.mul_add, Int.mul_one] at this
     rw [ei] at hk
     omega
   subst hqe
   rw [ei] at hk
   have hyi : y.index < x8.index := by omega
   have hzr : (z : Int) < r := by
    by_cases h' : (z : Int) < r
    ·exact h'
    ·by_cases h'' : z = r.toNat
     ·subst h''; rw [e2] at hz; cases hz; omega
     ·have := spots_get hsp e2 hz (by omega); omega
   have := s4 z (by omega) hzr
   rw [Int.toNat_natCast] at this
   simp only [hz, decide_eq_false_iff_not] at this
   rw [Int.neg_mul]
   omega
  ·have : g.Period * q' ≤ g.Period * (-q - 1) := Int.mul_le_mul_of_nonneg_left (by omega) (by omega)
   rw [Int.mul_sub, Int.mul_one, Int.mul_neg] at this
   rw [Int.mul_comm q']
   omega

def putB (b : Int × Bool) (n : Int) : Int × Bool := if b.2 = false ∨ n > b.1 then (n, true) else b
structure Best (S : Int → Prop) (b : Int × Bool) : Prop where
 yes : b.2 = true → S b.1 ∧ ∀ n, S n → n ≤ b.1
 no : b.2 = false → b.1 = 0 ∧ ∀ n, ¬ S n
theorem Best.put {S S' : Int → Prop} {b : Int × Bool} {n : Int} (h : Best S b) (hS : ∀ m, S' m ↔ S m ∨ m = n) : Best S' (putB b n) := by
 unfold putB
 split
 ·rename_i hc
  refine ⟨fun _ => ⟨(hS n).2 (.inr rfl), fun m hm => ?_⟩, fun h => by cases h⟩
  rcases (hS m).1 hm with h1 | h1
  ·cases hb : b.2 with
   | false => exact absurd h1 ((h.no hb).2 m)
   | true =>
    have := (h.yes hb).2 m h1
    rcases hc with h2 | h2
    ·rw [hb] at h2; cases h2
    ·simp only; omega
  ·subst h1; exact Int.le_refl _
 ·rename_i hc
  have hb : b.2 = true := by cases hb : b.2 <;> simp_all
  refine ⟨fun _ => ⟨(hS b.1).2 (.inl (h.yes hb).1), fun m hm => ?_⟩, fun h => by rw [hb] at h; cases h⟩
  rcases (hS m).1 hm with h1 | h1
  ·exact (h.yes hb).2 m h1
  ·subst h1
   have : ¬ (m > b.1) := fun h => hc (.inr h)
   omega
theorem Best.congr {S S' : Int → Prop} {b : Int × Bool} (h : Best S b) (hS : ∀ m, S' m ↔ S m) : Best S' b :=
 ⟨fun hb => ⟨(hS _).2 (h.yes hb).1, fun n hn => (h.yes hb).2 n ((hS n).1 hn)⟩, fun hb => ⟨(h.no hb).1, fun n hn => (h.no hb).2 n ((hS n).1 hn)⟩⟩
theorem Best.none {S : Int → Prop} (h : ∀ n, ¬ S n) : Best S (0, false) := ⟨fun h => by (cases h), fun _ => ⟨rfl, h⟩⟩
theorem put_size_form_reach_s1 (n b : Int) (c : Bool) : loopO (size_form_reach.s1) (([n].length : Int), 0, [n], b, c) = some ([n], putB (b, c) n) := by
 rw [loopO_eq]
 have e1 : size_form_reach.s1 (([n].length : Int), 0, [n], b, c) = some (.inl (([n].length : Int), 1, [n], putB (b, c) n)) := by
  unfold size_form_reach.s1
  simp only
  rw [dec_t (show (0 : Int) < ([n].length : Int) by simp), cond_true, show at? [n] 0 = some n from rfl]
  simp only [Option.bind_some]
  unfold putB
  cases c with
  | false => rfl
  | true =>
   by_cases h : n > b
   ·simp only [h, decide_true, Bool.or_true, cond_true, or_true, if_true]; rfl
   ·simp only [h, decide_false, Bool.not_true, Bool.or_false, cond_false, Bool.true_eq_false, or_self, if_false]; rfl
 rw [e1]
 simp only
 rw [loopO_eq]
 have e2 : size_form_reach.s1 (([n].length : Int), 1, [n], putB (b, c) n) = some (.inr ([n], putB (b, c) n)) := by
  unfold size_form_reach.s1
  simp only
  rw [dec_f (show ¬ (1 : Int) < ([n].length : Int) by simp), cond_false]
 rw [e2]
theorem put_size_form_reach_s3 (n b : Int) (c : Bool) : loopO (size_form_reach.s3) (([n].length : Int), 0, [n], b, c) = some ([n], putB (b, c) n) := by
 rw [loopO_eq]
 have e1 : size_form_reach.s3 (([n].length : Int), 0, [n], b, c) = some (.inl (([n].length : Int), 1, [n], putB (b, c) n)) := by
  unfold size_form_reach.s3
  simp only
  rw [dec_t (show (0 : Int) < ([n].length : Int) by simp), cond_true, show at? [n] 0 = some n from rfl]
  simp only [Option.bind_some]
  unfold putB
  cases c with
  | false => rfl
  | true =>
   by_cases h : n > b
   ·simp only [h, decide_true, Bool.or_true, cond_true, or_true, if_true]; rfl
   ·simp only [h, decide_false, Bool.not_true, Bool.or_false, cond_false, Bool.true_eq_false, or_self, if_false]; rfl
 rw [e1]
 simp only
 rw [loopO_eq]
 have e2 : size_form_reach.s3 (([n].length : Int), 1, [n], putB (b, c) n) = some (.inr ([n], putB (b, c) n)) := by
  unfold size_form_reach.s3
  simp only
  rw [dec_f (show ¬ (1 : Int) < ([n].length : Int) by simp), cond_false]
 rw [e2]
theorem put_size_far_s1 (n b : Int) (c : Bool) : loopO (size_far.s1) (([n].length : Int), 0, [n], b, c) = some ([n], putB (b, c) n) := by
 rw [loopO_eq]
 have e1 : size_far.s1 (([n].length : Int), 0, [n], b, c) = some (.inl (([n].length : Int), 1, [n], putB (b, c) n)) := by
  unfold size_far.s1
  simp only
  rw [dec_t (show (0 : Int) < ([n].length : Int) by simp), cond_true, show at? [n] 0 = some n from rfl]
  simp only [Option.bind_some]
  unfold putB
  cases c with
  | false => rfl
  | true =>
   by_cases h : n > b
   ·simp only [h, decide_true, Bool.or_true, cond_true, or_true, if_true]; rfl
   ·simp only [h, decide_false, Bool.not_true, Bool.or_false, cond_false, Bool.true_eq_false, or_self, if_false]; rfl
 rw [e1]
 simp only
 rw [loopO_eq]
 have e2 : size_far.s1 (([n].length : Int), 1, [n], putB (b, c) n) = some (.inr ([n], putB (b, c) n)) := by
  unfold size_far.s1
  simp only
  rw [dec_f (show ¬ (1 : Int) < ([n].length : Int) by simp), cond_false]
 rw [e2]
theorem put_size_far_s3 (n b : Int) (c : Bool) : loopO (size_far.s3) (([n].length : Int), 0, [n], b, c) = some ([n], putB (b, c) n) := by
 rw [loopO_eq]
 have e1 : size_far.s3 (([n].length : Int), 0, [n], b, c) = some (.inl (([n].length : Int), 1, [n], putB (b, c) n)) := by
  unfold size_far.s3
  simp only
  rw [dec_t (show (0 : Int) < ([n].length : Int) by simp), cond_true, show at? [n] 0 = some n from rfl]
  simp only [Option.bind_some]
  unfold putB
  cases c with
  | false => rfl
  | true =>
   by_cases h : n > b
   ·simp only [h, decide_true, Bool.or_true, cond_true, or_true, if_true]; rfl
   ·simp only [h, decide_false, Bool.not_true, Bool.or_false, cond_false, Bool.true_eq_false, or_self, if_false]; rfl
 rw [e1]
 simp only
 rw [loopO_eq]
 have e2 : size_far.s3 (([n].length : Int), 1, [n], putB (b, c) n) = some (.inr ([n], putB (b, c) n)) := by
  unfold size_far.s3
  simp only
  rw [dec_f (show ¬ (1 : Int) < ([n].length : Int) by simp), cond_false]
 rw [e2]
theorem put_size_far_s4 (n b : Int) (c : Bool) : loopO (size_far.s4) (([n].length : Int), 0, [n], b, c) = some ([n], putB (b, c) n) := by
 rw [loopO_eq]
 have e1 : size_far.s4 (([n].length : Int), 0, [n], b, c) = some (.inl (([n].length : Int), 1, [n], putB (b, c) n)) := by
  unfold size_far.s4
  simp only
  rw [dec_t (show (0 : Int) < ([n].length : Int) by simp), cond_true, show at? [n] 0 = some n from rfl]
  simp only [Option.bind_some]
  unfold putB
  cases c with
  | false => rfl
  | true =>
   by_cases h : n > b
   ·simp only [h, decide_true, Bool.or_true, cond_true, or_true, if_true]; rfl
   ·simp only [h, decide_false, Bool.not_true, Bool.or_false, cond_false, Bool.true_eq_false, or_self, if_false]; rfl
 rw [e1]
 simp only
 rw [loopO_eq]
 have e2 : size_far.s4 (([n].length : Int), 1, [n], putB (b, c) n) = some (.inr ([n], putB (b, c) n)) := by
  unfold size_far.s4
  simp only
  rw [dec_f (show ¬ (1 : Int) < ([n].length : Int) by simp), cond_false]
 rw [e2]

end Go.Dn
