/- Part 3 of what the row stands on. -/
import Derived.Test.YtliohipholncpaaM2
set_option linter.unusedVariables false
set_option linter.unusedSimpArgs false
namespace Go.Dn
open Go Go.Proofs
abbrev vl {α : Type} (c : α → List FV) (x : List α) : PV := .v (.sl (x.map c))
abbrev vi (x : Int) : PV := .v (.int .i64 x)
abbrev vu (x : Int) : PV := .v (.int .u64 x)
abbrev vb (x : Bool) : PV := .v (.bool x)

set_option maxRecDepth 100000 in
set_option maxHeartbeats 4000000 in
theorem gran_Size_fn {f : Form} {r : Int} (h : gran_Size f = some r) : Fn CX 48 [(.agg (vs (Form.cs f)))] (vi r) := by
 refine Fn.ends Try.func48 rfl rfl rfl rfl rfl rfl ?_
 have H : Hs (⟨0, fun _ => .none⟩ : Heap) [] := Has.nil (Nat.le_refl _)
 generalize (⟨0, fun _ => .none⟩ : Heap) = σ at H ⊢
 unfold gran_Size at h
 apply Runs.then
 refine Runs.regionH 2 rfl H ?_; intro b1 σ H
 refine Ops.boxH (v := (.agg [(vi f.Period), (vi f.Count), (vl (cL Span.cs) f.Core), (vl Granule.cs f.Odd)])) (cs := [(vi f.Period), (vi f.Count), (vl (cL Span.cs) f.Core), (vl Granule.cs f.Odd)]) H (by omega) (by omega) rfl rfl rfl ?_; intro σ H
 refine Ops.assign (v := (vi 0)) rfl rfl ?_
 apply Ops.nil
 replace H := H.all
 apply Runs.then
 refine Runs.regionH 1 rfl H ?_; intro b2 σ H
 refine Ops.assign (v := (vi 0)) rfl rfl ?_
 apply Ops.nil
 replace H := H.all
 apply Runs.then
 apply Runs.then
 refine Runs.regionH 4 rfl H ?_; intro b3 σ H
 refine Ops.fieldAddrH (off := 0) (fo := 2) H 0 rfl rfl rfl rfl rfl nofun rfl ?_
 refine Ops.loadH (off := 2) (v := (vl (cL Span.cs) f.Core)) H 0 rfl rfl rfl rfl rfl nofun rfl ?_
 refine Ops.lenPt (c := (cL Span.cs)) (xs := f.Core) rfl rfl rfl ?_
 refine Ops.move (v := (vi 0)) rfl rfl ?_
 apply Ops.nil
 replace H := H.all
 apply Runs.inBlock
 obtain ⟨y1, hj1, h⟩ := bind_some h
 obtain ⟨n1, hj1⟩ := loopO_iff.1 hj1
 refine Runs.mono (Runs.loopO hj1 (fun s1 e σ => EnvHas e [(1, (.ptr (b1 + 0) 4 0)), (3, (vi s1.1)), (9, (vl (cL Span.cs) f.Core)), (10, (vi (f.Core.length : Int))), (11, (vi s1.2))] ∧ Hs σ [.blk (b1 + 0) 25 [(vi f.Period), (vi f.Count), (vl (cL Span.cs) f.Core), (vl Granule.cs f.Odd)]]) (fun y1 x e σ => x = .exit 0 ∧ EnvHas e [(1, (.ptr (b1 + 0) 4 0)), (3, (vi y1))] ∧ Hs σ [.blk (b1 + 0) 25 [(vi f.Period), (vi f.Count), (vl (cL Span.cs) f.Core), (vl Granule.cs f.Odd)]]) ⟨⟨rfl, rfl, rfl, rfl, rfl, trivial⟩, H⟩ ?_) ?_
 ·intro s1 e σ hI z h
  obtain ⟨he, H⟩ := hI
  obtain ⟨e, rfl⟩ := he.ex
  unfold gran_Size.s0 at h
  apply Runs.then
  refine Runs.regionH 1 rfl H ?_; intro b4 σ H
  refine Ops.int (m := s1.2) (m' := (f.Core.length : Int)) (r := .bool (decide (s1.2 < (f.Core.length : Int)))) rfl rfl rfl rfl rfl ?_
  apply Ops.nil
  replace H := H.all
  apply Runs.then
  refine Runs.whether (v := (decide (s1.2 < (f.Core.length : Int)))) rfl ?_ ?_ <;> intro hc1
  ·replace h := cond_T hc1 h
   apply Runs.skip
   apply Runs.then
   apply Runs.inBlock
   apply Runs.then
   refine Runs.regionH 3 rfl H ?_; intro b5 σ H
   obtain ⟨x1, q1, h⟩ := bind_some h
   refine Ops.indexP (c := (cL Span.cs)) (u := x1) rfl rfl q1 rfl rfl rfl rfl ?_
   refine Ops.loadP (u := (.sl (x1.map Span.cs))) rfl rfl rfl rfl ?_
   refine Ops.assign (v := (vl Span.cs x1)) rfl rfl ?_
   apply Ops.nil
   replace H := H.all
   refine Runs.regionH 5 rfl H ?_; intro b6 σ H
   refine Ops.move (v := (vi s1.1)) rfl rfl ?_
   refine Ops.move (v := (vl Span.cs x1)) rfl rfl ?_
   refine Ops.lenPt (c := Span.cs) (xs := x1) rfl rfl rfl ?_
   refine Ops.int (m := s1.1) (m' := (x1.length : Int)) (r := .int .i64 (w64 (s1.1 + (x1.length : Int)))) rfl rfl rfl rfl rfl ?_
   refine Ops.assign (v := (vi (w64 (s1.1 + (x1.length : Int))))) rfl rfl ?_
   apply Ops.nil
   replace H := H.all
   refine Runs.regionH 2 rfl H ?_; intro b7 σ H
   refine Ops.int (m := s1.2) (m' := 1) (r := .int .i64 (w64 (s1.2 + 1))) rfl rfl rfl rfl rfl ?_
   refine Ops.move (v := (vi (w64 (s1.2 + 1)))) rfl rfl ?_
   apply Ops.nil
   replace H := H.all
   replace h := Option.some.inj h; subst h
   exact ⟨rfl, ⟨rfl, rfl, rfl, rfl, rfl, trivial⟩, H⟩
  ·replace h := cond_F hc1 h
   apply Runs.exit
   replace h := Option.some.inj h; subst h
   exact ⟨nofun, ⟨rfl, ⟨rfl, rfl, trivial⟩, H⟩⟩
 ·rintro x e σ ⟨rfl, he, H⟩
  obtain ⟨e, rfl⟩ := he.ex
  apply Runs.then
  apply Runs.then
  refine Runs.regionH 4 rfl H ?_; intro b8 σ H
  refine Ops.fieldAddrH (off := 0) (fo := 3) H 0 rfl rfl rfl rfl rfl nofun rfl ?_
  refine Ops.loadH (off := 3) (v := (vl Granule.cs f.Odd)) H 0 rfl rfl rfl rfl rfl nofun rfl ?_
  refine Ops.lenPt (c := Granule.cs) (xs := f.Odd) rfl rfl rfl ?_
  refine Ops.move (v := (vi 0)) rfl rfl ?_
  apply Ops.nil
  replace H := H.all
  apply Runs.inBlock
  obtain ⟨y2, hj2, h⟩ := bind_some h
  obtain ⟨n2, hj2⟩ := loopO_iff.1 hj2
  refine Runs.mono (Runs.loopO hj2 (fun s2 e σ => EnvHas e [(3, (vi s2.1)), (21, (vl Granule.cs f.Odd)), (22, (vi (f.Odd.length : Int))), (23, (vi s2.2))] ∧ Hs σ []) (fun y2 x e σ => x = .exit 2 ∧ EnvHas e [(3, (vi y2))] ∧ Hs σ []) ⟨⟨rfl, rfl, rfl, rfl, trivial⟩, (H.erase 0)⟩ ?_) ?_
  ·intro s2 e σ hI z h
   obtain ⟨he, H⟩ := hI
   obtain ⟨e, rfl⟩ := he.ex
   unfold gran_Size.s1 at h
   apply Runs.then
   refine Runs.regionH 1 rfl H ?_; intro b9 σ H
   refine Ops.int (m := s2.2) (m' := (f.Odd.length : Int)) (r := .bool (decide (s2.2 < (f.Odd.length : Int)))) rfl rfl rfl rfl rfl ?_
   apply Ops.nil
   replace H := H.all
   apply Runs.then
   refine Runs.whether (v := (decide (s2.2 < (f.Odd.length : Int)))) rfl ?_ ?_ <;> intro hc2
   ·replace h := cond_T hc2 h
    apply Runs.skip
    apply Runs.then
    apply Runs.inBlock
    apply Runs.then
    refine Runs.regionH 4 rfl H ?_; intro b10 σ H
    obtain ⟨x2, q2, h⟩ := bind_some h
    refine Ops.indexP (c := Granule.cs) (u := x2) rfl rfl q2 rfl rfl rfl rfl ?_
    refine Ops.loadPA (cs := [(.int .i64 x2.Index), (.sl (x2.Ticks.map Span.cs))]) rfl rfl rfl rfl rfl rfl ?_
    refine Ops.allocH (cs := [(vi 0), .nils]) H (by omega) (by omega) rfl rfl ?_; intro σ H
    refine Ops.storeH (off := 0) (v := (.agg [(vi x2.Index), (vl Span.cs x2.Ticks)])) (ys := [(vi x2.Index), (vl Span.cs x2.Ticks)]) (cells' := [(vi x2.Index), (vl Span.cs x2.Ticks)]) H 0 rfl rfl rfl rfl rfl rfl rfl rfl rfl nofun ?_; intro σ H
    apply Ops.nil
    replace H := H.all
    refine Runs.regionH 6 rfl H ?_; intro b11 σ H
    refine Ops.move (v := (vi s2.1)) rfl rfl ?_
    refine Ops.fieldAddrH (off := 0) (fo := 1) H 0 rfl rfl rfl rfl rfl nofun rfl ?_
    refine Ops.loadH (off := 1) (v := (vl Span.cs x2.Ticks)) H 0 rfl rfl rfl rfl rfl nofun rfl ?_
    refine Ops.lenPt (c := Span.cs) (xs := x2.Ticks) rfl rfl rfl ?_
    refine Ops.int (m := s2.1) (m' := (x2.Ticks.length : Int)) (r := .int .i64 (w64 (s2.1 + (x2.Ticks.length : Int)))) rfl rfl rfl rfl rfl ?_
    refine Ops.assign (v := (vi (w64 (s2.1 + (x2.Ticks.length : Int))))) rfl rfl ?_
    apply Ops.nil
    replace H := H.all
    refine Runs.regionH 2 rfl H ?_; intro b12 σ H
    refine Ops.int (m := s2.2) (m' := 1) (r := .int .i64 (w64 (s2.2 + 1))) rfl rfl rfl rfl rfl ?_
    refine Ops.move (v := (vi (w64 (s2.2 + 1)))) rfl rfl ?_
    apply Ops.nil
    replace H := H.all
    replace h := Option.some.inj h; subst h
    exact ⟨rfl, ⟨rfl, rfl, rfl, rfl, trivial⟩, (H.erase 0)⟩
   ·replace h := cond_F hc2 h
    apply Runs.exit
    replace h := Option.some.inj h; subst h
    exact ⟨nofun, ⟨rfl, ⟨rfl, trivial⟩, H⟩⟩
  ·rintro x e σ ⟨rfl, he, H⟩
   obtain ⟨e, rfl⟩ := he.ex
   apply Runs.then
   refine Runs.regionH 2 rfl H ?_; intro b13 σ H
   refine Ops.move (v := (vi y2)) rfl rfl ?_
   refine Ops.assign (v := (vi y2)) rfl rfl ?_
   apply Ops.nil
   replace H := H.all
   apply Runs.ret
   replace h := Option.some.inj h; subst h
   exact (Ends.H (xs := [(vi y2)]) (.inr rfl) H (.tmp (v := (vi y2)) rfl .nil) (.one (.c (.v _))))

set_option maxRecDepth 100000 in
set_option maxHeartbeats 4000000 in
theorem epactlaw05_Small_fn {f : Form} {r : Bool} (h : epactlaw05_Small f = some r) : Fn CX 39 [(.agg (vs (Form.cs f)))] (vb r) := by
 refine Fn.ends Try.func39 rfl rfl rfl rfl rfl rfl ?_
 have H : Hs (⟨0, fun _ => .none⟩ : Heap) [] := Has.nil (Nat.le_refl _)
 generalize (⟨0, fun _ => .none⟩ : Heap) = σ at H ⊢
 unfold epactlaw05_Small at h
 apply Runs.then
 refine Runs.regionH 2 rfl H ?_; intro b1 σ H
 refine Ops.boxH (v := (.agg [(vi f.Period), (vi f.Count), (vl (cL Span.cs) f.Core), (vl Granule.cs f.Odd)])) (cs := [(vi f.Period), (vi f.Count), (vl (cL Span.cs) f.Core), (vl Granule.cs f.Odd)]) H (by omega) (by omega) rfl rfl rfl ?_; intro σ H
 refine Ops.assign (v := (vb false)) rfl rfl ?_
 apply Ops.nil
 replace H := H.all
 apply Runs.then
 refine Runs.regionH 16 rfl H ?_; intro b2 σ H
 refine Ops.fieldAddrH (off := 0) (fo := 2) H 0 rfl rfl rfl rfl rfl nofun rfl ?_
 refine Ops.loadH (off := 2) (v := (vl (cL Span.cs) f.Core)) H 0 rfl rfl rfl rfl rfl nofun rfl ?_
 refine Ops.lenPt (c := (cL Span.cs)) (xs := f.Core) rfl rfl rfl ?_
 refine Ops.int (m := (f.Core.length : Int)) (m' := 12) (r := .bool (decide ((f.Core.length : Int) ≤ 12))) rfl rfl rfl rfl rfl ?_
 refine Ops.move (v := (vb (decide ((f.Core.length : Int) ≤ 12)))) rfl rfl ?_
 refine Ops.mid 5 (K1 := fun e σ => EnvHas e [(12, (vb ((decide ((f.Core.length : Int) ≤ 12)) && (decide ((f.Odd.length : Int) ≤ 8))))), (1, (.ptr (b1 + 0) 4 0))] ∧ Has σ (b2 + 10) (b2 + 16) [.blk (b1 + 0) 25 [(vi f.Period), (vi f.Count), (vl (cL Span.cs) f.Core), (vl Granule.cs f.Odd)]]) rfl ?_ ?_
 ·refine Ops.split rfl rfl ?_ ?_ <;> intro hc1
  ·skip
   refine Ops.wanted rfl rfl ?_
   refine Ops.fieldAddrH (off := 0) (fo := 3) H 0 rfl rfl rfl rfl rfl nofun rfl ?_
   refine Ops.wanted rfl rfl ?_
   refine Ops.loadH (off := 3) (v := (vl Granule.cs f.Odd)) H 0 rfl rfl rfl rfl rfl nofun rfl ?_
   refine Ops.wanted rfl rfl ?_
   refine Ops.lenPt (c := Granule.cs) (xs := f.Odd) rfl rfl rfl ?_
   refine Ops.wanted rfl rfl ?_
   refine Ops.int (m := (f.Odd.length : Int)) (m' := 8) (r := .bool (decide ((f.Odd.length : Int) ≤ 8))) rfl rfl rfl rfl rfl ?_
   refine Ops.pickT (v := (vb (decide ((f.Odd.length : Int) ≤ 8)))) rfl rfl rfl ?_
   apply Ops.nil
   exact ⟨⟨and_T hc1, rfl, trivial⟩, H.weak (by omega) (Nat.le_refl _)⟩
  ·skip
   refine Ops.pass rfl rfl rfl ?_
   refine Ops.pass rfl rfl rfl ?_
   refine Ops.pass rfl rfl rfl ?_
   refine Ops.pass rfl rfl rfl ?_
   refine Ops.pickF (v := (vb false)) rfl rfl rfl ?_
   apply Ops.nil
   exact ⟨⟨and_F hc1, rfl, trivial⟩, H.weak (by omega) (Nat.le_refl _)⟩
 ·rintro e σ ⟨he, H⟩
  obtain ⟨e, rfl⟩ := he.ex
  refine Ops.move (v := (vb ((decide ((f.Core.length : Int) ≤ 12)) && (decide ((f.Odd.length : Int) ≤ 8))))) rfl rfl ?_
  obtain ⟨y1, hj1, h⟩ := bind_some h
  refine Ops.mid 4 (K1 := fun e σ => EnvHas e [(17, (vb y1))] ∧ Has σ (b2 + 15) (b2 + 16) []) rfl ?_ ?_
  ·refine Ops.split rfl rfl ?_ ?_ <;> intro hc2
   ·replace h := cond_T hc2 hj1
    refine Ops.wanted rfl rfl ?_
    refine Ops.loadHA (off := 0) (cs := [(vi f.Period), (vi f.Count), (vl (cL Span.cs) f.Core), (vl Granule.cs f.Odd)]) H 0 rfl rfl rfl rfl rfl rfl rfl nofun rfl ?_
    refine Ops.wanted rfl rfl ?_
    obtain ⟨x1, q1, h⟩ := bind_some h
    refine Ops.call (ys := [(.agg [(vi f.Period), (vi f.Count), (vl (cL Span.cs) f.Core), (vl Granule.cs f.Odd)])]) (r := (vi x1)) rfl (gran_Size_fn q1) rfl ?_
    refine Ops.wanted rfl rfl ?_
    refine Ops.int (m := x1) (m' := 60) (r := .bool (decide (x1 ≤ 60))) rfl rfl rfl rfl rfl ?_
    refine Ops.pickT (v := (vb (decide (x1 ≤ 60)))) rfl rfl rfl ?_
    apply Ops.nil
    replace h := Option.some.inj h; subst h
    exact ⟨⟨rfl, trivial⟩, (H.erase 0).weak (by omega) (Nat.le_refl _)⟩
   ·replace h := cond_F hc2 hj1
    refine Ops.pass rfl rfl rfl ?_
    refine Ops.pass rfl rfl rfl ?_
    refine Ops.pass rfl rfl rfl ?_
    refine Ops.pickF (v := (vb false)) rfl rfl rfl ?_
    apply Ops.nil
    replace h := Option.some.inj h; subst h
    exact ⟨⟨rfl, trivial⟩, (H.erase 0).weak (by omega) (Nat.le_refl _)⟩
  ·rintro e σ ⟨he, H⟩
   obtain ⟨e, rfl⟩ := he.ex
   refine Ops.assign (v := (vb y1)) rfl rfl ?_
   apply Ops.nil
   replace H := H.all
   apply Runs.ret
   replace h := Option.some.inj h; subst h
   exact (Ends.H (xs := [(vb y1)]) (.inr rfl) H (.tmp (v := (vb y1)) rfl .nil) (.one (.c (.v _))))

set_option maxRecDepth 100000 in
set_option maxHeartbeats 4000000 in
theorem spans_tick_fn {t : Int} {r : Bool} (h : spans_tick t = r) : Fn CX 84 [(vi t)] (vb r) := by
 refine Fn.ends Try.func84 rfl rfl rfl rfl rfl rfl ?_
 have H : Hs (⟨0, fun _ => .none⟩ : Heap) [] := Has.nil (Nat.le_refl _)
 generalize (⟨0, fun _ => .none⟩ : Heap) = σ at H ⊢
 unfold spans_tick at h
 apply Runs.then
 refine Runs.regionH 1 rfl H ?_; intro b1 σ H
 refine Ops.assign (v := (vb false)) rfl rfl ?_
 apply Ops.nil
 replace H := H.all
 apply Runs.then
 refine Runs.regionH 7 rfl H ?_; intro b2 σ H
 refine Ops.move (v := (vi t)) rfl rfl ?_
 refine Ops.int (m := t) (m' := (-1099511627776)) (r := .bool (decide (t ≥ (-1099511627776)))) rfl rfl rfl rfl rfl ?_
 refine Ops.move (v := (vb (decide (t ≥ (-1099511627776))))) rfl rfl ?_
 refine Ops.mid 3 (K1 := fun e σ => EnvHas e [(8, (vb ((decide (t ≥ (-1099511627776))) && (decide (t ≤ 1099511627776)))))] ∧ Has σ (b2 + 6) (b2 + 7) []) rfl ?_ ?_
 ·refine Ops.split rfl rfl ?_ ?_ <;> intro hc1
  ·skip
   refine Ops.wanted rfl rfl ?_
   refine Ops.move (v := (vi t)) rfl rfl ?_
   refine Ops.wanted rfl rfl ?_
   refine Ops.int (m := t) (m' := 1099511627776) (r := .bool (decide (t ≤ 1099511627776))) rfl rfl rfl rfl rfl ?_
   refine Ops.pickT (v := (vb (decide (t ≤ 1099511627776)))) rfl rfl rfl ?_
   apply Ops.nil
   exact ⟨⟨and_T hc1, trivial⟩, H.weak (by omega) (Nat.le_refl _)⟩
  ·skip
   refine Ops.pass rfl rfl rfl ?_
   refine Ops.pass rfl rfl rfl ?_
   refine Ops.pickF (v := (vb false)) rfl rfl rfl ?_
   apply Ops.nil
   exact ⟨⟨and_F hc1, trivial⟩, H.weak (by omega) (Nat.le_refl _)⟩
 ·rintro e σ ⟨he, H⟩
  obtain ⟨e, rfl⟩ := he.ex
  refine Ops.assign (v := (vb ((decide (t ≥ (-1099511627776))) && (decide (t ≤ 1099511627776))))) rfl rfl ?_
  apply Ops.nil
  replace H := H.all
  apply Runs.ret
  subst h
  exact (Ends.H (xs := [(vb ((decide (t ≥ (-1099511627776))) && (decide (t ≤ 1099511627776))))]) (.inr rfl) H (.tmp (v := (vb ((decide (t ≥ (-1099511627776))) && (decide (t ≤ 1099511627776))))) rfl .nil) (.one (.c (.v _))))

set_option maxRecDepth 100000 in
set_option maxHeartbeats 4000000 in
theorem spans_Right_fn {l : (List Span)} {r : Bool} (h : spans_Right l = some r) : Fn CX 70 [(vl Span.cs l)] (vb r) := by
 refine Fn.ends Try.func70 rfl rfl rfl rfl rfl rfl ?_
 have H : Hs (⟨0, fun _ => .none⟩ : Heap) [] := Has.nil (Nat.le_refl _)
 generalize (⟨0, fun _ => .none⟩ : Heap) = σ at H ⊢
 unfold spans_Right at h
 apply Runs.then
 refine Runs.regionH 1 rfl H ?_; intro b1 σ H
 refine Ops.assign (v := (vb false)) rfl rfl ?_
 apply Ops.nil
 replace H := H.all
 apply Runs.then
 apply Runs.then
 refine Runs.regionH 3 rfl H ?_; intro b2 σ H
 refine Ops.move (v := (vl Span.cs l)) rfl rfl ?_
 refine Ops.lenPt (c := Span.cs) (xs := l) rfl rfl rfl ?_
 refine Ops.move (v := (vi 0)) rfl rfl ?_
 apply Ops.nil
 replace H := H.all
 apply Runs.inBlock
 obtain ⟨y1, hj1, h⟩ := bind_some h
 obtain ⟨n1, hj1⟩ := loopO_iff.1 hj1
 refine Runs.mono (Runs.loopO hj1 (fun s1 e σ => EnvHas e [(0, (vl Span.cs l)), (5, (vl Span.cs l)), (6, (vi (l.length : Int))), (7, (vi s1))] ∧ Hs σ []) (fun y1 x e σ => (∃ a1, y1 = (.go a1) ∧ x = .exit 0 ∧ EnvHas e [] ∧ Hs σ []) ∨ (∃ r', y1 = (.ret r') ∧ x = .ret ∧ Ends CX Try.f70.results.toList (vb r') x e σ)) ⟨⟨rfl, rfl, rfl, rfl, trivial⟩, H⟩ ?_) ?_
 ·intro s1 e σ hI z h
  obtain ⟨he, H⟩ := hI
  obtain ⟨e, rfl⟩ := he.ex
  unfold spans_Right.s0 at h
  apply Runs.then
  refine Runs.regionH 1 rfl H ?_; intro b3 σ H
  refine Ops.int (m := s1) (m' := (l.length : Int)) (r := .bool (decide (s1 < (l.length : Int)))) rfl rfl rfl rfl rfl ?_
  apply Ops.nil
  replace H := H.all
  apply Runs.then
  refine Runs.whether (v := (decide (s1 < (l.length : Int)))) rfl ?_ ?_ <;> intro hc1
  ·replace h := cond_T hc1 h
   apply Runs.skip
   apply Runs.then
   apply Runs.inBlock
   apply Runs.then
   refine Runs.regionH 6 rfl H ?_; intro b4 σ H
   refine Ops.move (v := (vi s1)) rfl rfl ?_
   obtain ⟨x1, q1, h⟩ := bind_some h
   refine Ops.indexP (c := Span.cs) (u := x1) rfl rfl q1 rfl rfl rfl rfl ?_
   refine Ops.loadPA (cs := [(.int .i64 x1.From), (.int .i64 x1.To)]) rfl rfl rfl rfl rfl rfl ?_
   refine Ops.allocH (cs := [(vi 0), (vi 0)]) H (by omega) (by omega) rfl rfl ?_; intro σ H
   refine Ops.assign (v := (vi s1)) rfl rfl ?_
   refine Ops.storeH (off := 0) (v := (.agg [(vi x1.From), (vi x1.To)])) (ys := [(vi x1.From), (vi x1.To)]) (cells' := [(vi x1.From), (vi x1.To)]) H 0 rfl rfl rfl rfl rfl rfl rfl rfl rfl nofun ?_; intro σ H
   apply Ops.nil
   replace H := H.all
   apply Runs.then
   refine Runs.drawnH 33 rfl (by kernel_rfl) H ?_; intro b5 σ H B5
   refine Ops.fieldAddrH (off := 0) (fo := 0) H 0 rfl rfl rfl rfl rfl (fun _ => .inl ⟨B5 0 _ rfl _ rfl, nofun⟩) rfl ?_
   refine Ops.loadH (off := 0) (v := (vi x1.From)) H 0 rfl rfl rfl rfl rfl (fun _ => .inl ⟨B5 0 _ rfl _ rfl, nofun⟩) rfl ?_
   refine Ops.call (ys := [(vi x1.From)]) (r := (vb (spans_tick x1.From))) rfl (spans_tick_fn rfl) rfl ?_
   refine Ops.not (b := (spans_tick x1.From)) rfl rfl ?_
   refine Ops.move (v := (vb (!(spans_tick x1.From)))) rfl rfl ?_
   refine Ops.mid 5 (K1 := fun e σ => EnvHas e [(21, (vb ((!(spans_tick x1.From)) || (!(spans_tick x1.To))))), (0, (vl Span.cs l)), (3, (vi s1)), (4, (.ptr (b4 + 3) 2 0)), (5, (vl Span.cs l)), (6, (vi (l.length : Int))), (7, (vi s1))] ∧ Has σ (b5 + 10) (b5 + 33) [.blk (b4 + 3) 43 [(vi x1.From), (vi x1.To)]]) rfl ?_ ?_
   ·refine Ops.split rfl rfl ?_ ?_ <;> intro hc2
    ·skip
     refine Ops.pass rfl rfl rfl ?_
     refine Ops.pass rfl rfl rfl ?_
     refine Ops.pass rfl rfl rfl ?_
     refine Ops.pass rfl rfl rfl ?_
     refine Ops.pickT (v := (vb true)) rfl rfl rfl ?_
     apply Ops.nil
     exact ⟨⟨or_T hc2, rfl, rfl, rfl, rfl, rfl, rfl, trivial⟩, H.weak (by omega) (Nat.le_refl _)⟩
    ·skip
     refine Ops.wanted rfl rfl ?_
     refine Ops.fieldAddrH (off := 0) (fo := 1) H 0 rfl rfl rfl rfl rfl (fun _ => .inl ⟨B5 0 _ rfl _ rfl, nofun⟩) rfl ?_
     refine Ops.wanted rfl rfl ?_
     refine Ops.loadH (off := 1) (v := (vi x1.To)) H 0 rfl rfl rfl rfl rfl (fun _ => .inl ⟨B5 0 _ rfl _ rfl, nofun⟩) rfl ?_
     refine Ops.wanted rfl rfl ?_
     refine Ops.call (ys := [(vi x1.To)]) (r := (vb (spans_tick x1.To))) rfl (spans_tick_fn rfl) rfl ?_
     refine Ops.wanted rfl rfl ?_
     refine Ops.not (b := (spans_tick x1.To)) rfl rfl ?_
     refine Ops.pickF (v := (vb (!(spans_tick x1.To)))) rfl rfl rfl ?_
     apply Ops.nil
     exact ⟨⟨or_F hc2, rfl, rfl, rfl, rfl, rfl, rfl, trivial⟩, H.weak (by omega) (Nat.le_refl _)⟩
   ·rintro e σ ⟨he, H⟩
    obtain ⟨e, rfl⟩ := he.ex
    refine Ops.move (v := (vb ((!(spans_tick x1.From)) || (!(spans_tick x1.To))))) rfl rfl ?_
    refine Ops.mid 6 (K1 := fun e σ => EnvHas e [(28, (vb (((!(spans_tick x1.From)) || (!(spans_tick x1.To))) || (decide (x1.From > x1.To))))), (0, (vl Span.cs l)), (3, (vi s1)), (4, (.ptr (b4 + 3) 2 0)), (5, (vl Span.cs l)), (6, (vi (l.length : Int))), (7, (vi s1))] ∧ Has σ (b5 + 17) (b5 + 33) [.blk (b4 + 3) 43 [(vi x1.From), (vi x1.To)]]) rfl ?_ ?_
    ·refine Ops.split rfl rfl ?_ ?_ <;> intro hc3
     ·skip
      refine Ops.pass rfl rfl rfl ?_
      refine Ops.pass rfl rfl rfl ?_
      refine Ops.pass rfl rfl rfl ?_
      refine Ops.pass rfl rfl rfl ?_
      refine Ops.pass rfl rfl rfl ?_
      refine Ops.pickT (v := (vb true)) rfl rfl rfl ?_
      apply Ops.nil
      exact ⟨⟨or_T hc3, rfl, rfl, rfl, rfl, rfl, rfl, trivial⟩, H.weak (by omega) (Nat.le_refl _)⟩
     ·skip
      refine Ops.wanted rfl rfl ?_
      refine Ops.fieldAddrH (off := 0) (fo := 0) H 0 rfl rfl rfl rfl rfl (fun _ => .inl ⟨B5 0 _ rfl _ rfl, nofun⟩) rfl ?_
      refine Ops.wanted rfl rfl ?_
      refine Ops.loadH (off := 0) (v := (vi x1.From)) H 0 rfl rfl rfl rfl rfl (fun _ => .inl ⟨B5 0 _ rfl _ rfl, nofun⟩) rfl ?_
      refine Ops.wanted rfl rfl ?_
      refine Ops.fieldAddrH (off := 0) (fo := 1) H 0 rfl rfl rfl rfl rfl (fun _ => .inl ⟨B5 0 _ rfl _ rfl, nofun⟩) rfl ?_
      refine Ops.wanted rfl rfl ?_
      refine Ops.loadH (off := 1) (v := (vi x1.To)) H 0 rfl rfl rfl rfl rfl (fun _ => .inl ⟨B5 0 _ rfl _ rfl, nofun⟩) rfl ?_
      refine Ops.wanted rfl rfl ?_
      refine Ops.int (m := x1.From) (m' := x1.To) (r := .bool (decide (x1.From > x1.To))) rfl rfl rfl rfl rfl ?_
      refine Ops.pickF (v := (vb (decide (x1.From > x1.To)))) rfl rfl rfl ?_
      apply Ops.nil
      exact ⟨⟨or_F hc3, rfl, rfl, rfl, rfl, rfl, rfl, trivial⟩, H.weak (by omega) (Nat.le_refl _)⟩
    ·rintro e σ ⟨he, H⟩
     obtain ⟨e, rfl⟩ := he.ex
     refine Ops.move (v := (vb (((!(spans_tick x1.From)) || (!(spans_tick x1.To))) || (decide (x1.From > x1.To))))) rfl rfl ?_
     obtain ⟨y2, hj2, h⟩ := bind_some h
     refine Ops.mid 15 (K1 := fun e σ => EnvHas e [(44, (vb y2)), (0, (vl Span.cs l)), (5, (vl Span.cs l)), (6, (vi (l.length : Int))), (7, (vi s1))] ∧ Has σ (b5 + 33) (b5 + 33) []) rfl ?_ ?_
     ·refine Ops.split rfl rfl ?_ ?_ <;> intro hc4
      ·replace h := cond_T hc4 hj2
       refine Ops.pass rfl rfl rfl ?_
       refine Ops.pass rfl rfl rfl ?_
       refine Ops.pass rfl rfl rfl ?_
       refine Ops.passU rfl rfl rfl ?_
       refine Ops.passU rfl rfl rfl ?_
       refine Ops.passU rfl rfl rfl ?_
       refine Ops.passU rfl rfl rfl ?_
       refine Ops.passU rfl rfl rfl ?_
       refine Ops.passU rfl rfl rfl ?_
       refine Ops.passU rfl rfl rfl ?_
       refine Ops.passU rfl rfl rfl ?_
       refine Ops.passU rfl rfl rfl ?_
       refine Ops.passU rfl rfl rfl ?_
       refine Ops.pass rfl rfl rfl ?_
       refine Ops.pickT (v := (vb true)) rfl rfl rfl ?_
       apply Ops.nil
       replace h := Option.some.inj h; subst h
       exact ⟨⟨rfl, rfl, rfl, rfl, rfl, trivial⟩, (H.erase 0).weak (by omega) (Nat.le_refl _)⟩
      ·replace h := cond_F hc4 hj2
       refine Ops.wanted rfl rfl ?_
       refine Ops.move (v := (vi s1)) rfl rfl ?_
       refine Ops.wanted rfl rfl ?_
       refine Ops.int (m := s1) (m' := 0) (r := .bool (decide (s1 > 0))) rfl rfl rfl rfl rfl ?_
       refine Ops.wanted rfl rfl ?_
       refine Ops.move (v := (vb (decide (s1 > 0)))) rfl rfl ?_
       obtain ⟨y3, hj3, h⟩ := bind_some h
       refine Ops.mid 11 (K1 := fun e σ => EnvHas e [(43, (vb y3)), (0, (vl Span.cs l)), (5, (vl Span.cs l)), (6, (vi (l.length : Int))), (7, (vi s1)), (29, (vb false))] ∧ Has σ (b5 + 32) (b5 + 33) []) rfl ?_ ?_
       ·refine Ops.split rfl rfl ?_ ?_ <;> intro hc5
        ·replace h := cond_T hc5 hj3
         refine Ops.wanted rfl rfl ?_
         refine Ops.fieldAddrH (off := 0) (fo := 0) H 0 rfl rfl rfl rfl rfl (fun _ => .inl ⟨B5 0 _ rfl _ rfl, nofun⟩) rfl ?_
         refine Ops.wanted rfl rfl ?_
         refine Ops.loadH (off := 0) (v := (vi x1.From)) H 0 rfl rfl rfl rfl rfl (fun _ => .inl ⟨B5 0 _ rfl _ rfl, nofun⟩) rfl ?_
         refine Ops.wanted rfl rfl ?_
         refine Ops.move (v := (vl Span.cs l)) rfl rfl ?_
         refine Ops.wanted rfl rfl ?_
         refine Ops.move (v := (vi s1)) rfl rfl ?_
         refine Ops.wanted rfl rfl ?_
         refine Ops.int (m := s1) (m' := 1) (r := .int .i64 (w64 (s1 - 1))) rfl rfl rfl rfl rfl ?_
         refine Ops.wanted rfl rfl ?_
         obtain ⟨x2, q2, h⟩ := bind_some h
         refine Ops.indexP (c := Span.cs) (u := x2) rfl rfl q2 rfl rfl rfl rfl ?_
         refine Ops.wanted rfl rfl ?_
         refine Ops.fieldAddrP rfl rfl rfl rfl ?_
         refine Ops.wanted rfl rfl ?_
         refine Ops.loadP (u := (.int .i64 x2.To)) rfl rfl rfl rfl ?_
         refine Ops.wanted rfl rfl ?_
         refine Ops.int (m := x2.To) (m' := 2) (r := .int .i64 (w64 (x2.To + 2))) rfl rfl rfl rfl rfl ?_
         refine Ops.wanted rfl rfl ?_
         refine Ops.int (m := x1.From) (m' := (w64 (x2.To + 2))) (r := .bool (decide (x1.From < (w64 (x2.To + 2))))) rfl rfl rfl rfl rfl ?_
         refine Ops.wanted rfl rfl ?_
         refine Ops.pickT (v := (vb (decide (x1.From < (w64 (x2.To + 2)))))) rfl rfl rfl ?_
         apply Ops.nil
         replace h := Option.some.inj h; subst h
         exact ⟨⟨rfl, rfl, rfl, rfl, rfl, rfl, trivial⟩, (H.erase 0).weak (by omega) (Nat.le_refl _)⟩
        ·replace h := cond_F hc5 hj3
         refine Ops.pass rfl rfl rfl ?_
         refine Ops.pass rfl rfl rfl ?_
         refine Ops.pass rfl rfl rfl ?_
         refine Ops.pass rfl rfl rfl ?_
         refine Ops.pass rfl rfl rfl ?_
         refine Ops.pass rfl rfl rfl ?_
         refine Ops.pass rfl rfl rfl ?_
         refine Ops.pass rfl rfl rfl ?_
         refine Ops.pass rfl rfl rfl ?_
         refine Ops.pass rfl rfl rfl ?_
         refine Ops.wanted rfl rfl ?_
         refine Ops.pickF (v := (vb false)) rfl rfl rfl ?_
         apply Ops.nil
         replace h := Option.some.inj h; subst h
         exact ⟨⟨rfl, rfl, rfl, rfl, rfl, rfl, trivial⟩, (H.erase 0).weak (by omega) (Nat.le_refl _)⟩
       ·rintro e σ ⟨he, H⟩
        obtain ⟨e, rfl⟩ := he.ex
        refine Ops.pickF (v := (vb y3)) rfl rfl rfl ?_
        apply Ops.nil
        replace h := Option.some.inj h; subst h
        exact ⟨⟨rfl, rfl, rfl, rfl, rfl, trivial⟩, H.weak (by omega) (Nat.le_refl _)⟩
     ·rintro e σ ⟨he, H⟩
      obtain ⟨e, rfl⟩ := he.ex
      apply Ops.nil
      replace H := H.all
      refine Runs.whether (v := y2) rfl ?_ ?_ <;> intro hc6
      ·replace h := cond_T hc6 h
       apply Runs.then
       refine Runs.regionH 1 rfl H ?_; intro b6 σ H
       refine Ops.assign (v := (vb false)) rfl rfl ?_
       apply Ops.nil
       replace H := H.all
       apply Runs.ret
       replace h := Option.some.inj h; subst h
       exact ⟨nofun, (.inr ⟨_, rfl, rfl, (Ends.H (xs := [(vb false)]) (.inr rfl) H (.tmp (v := (vb false)) rfl .nil) (.one (.c (.v _))))⟩)⟩
      ·replace h := cond_F hc6 h
       apply Runs.skip
       refine Runs.regionH 2 rfl H ?_; intro b7 σ H
       refine Ops.int (m := s1) (m' := 1) (r := .int .i64 (w64 (s1 + 1))) rfl rfl rfl rfl rfl ?_
       refine Ops.move (v := (vi (w64 (s1 + 1)))) rfl rfl ?_
       apply Ops.nil
       replace H := H.all
       replace h := Option.some.inj h; subst h
       exact ⟨rfl, ⟨rfl, rfl, rfl, rfl, trivial⟩, H⟩
  ·replace h := cond_F hc1 h
   apply Runs.exit
   replace h := Option.some.inj h; subst h
   exact ⟨nofun, (.inl ⟨_, rfl, rfl, trivial, H⟩)⟩
 ·rintro x e σ (⟨a2, rfl, rfl, he, H⟩ | ⟨r', rfl, rfl, hE⟩)
  ·skip
   replace h := jgo h
   obtain ⟨e, rfl⟩ := he.ex
   apply Runs.then
   refine Runs.regionH 1 rfl H ?_; intro b8 σ H
   refine Ops.assign (v := (vb true)) rfl rfl ?_
   apply Ops.nil
   replace H := H.all
   apply Runs.ret
   replace h := Option.some.inj h; subst h
   exact (Ends.H (xs := [(vb true)]) (.inr rfl) H (.tmp (v := (vb true)) rfl .nil) (.one (.c (.v _))))
  ·skip
   replace h := jret h
   replace h := Option.some.inj h; subst h
   exact hE

set_option maxRecDepth 100000 in
set_option maxHeartbeats 4000000 in
theorem gran_inRange_fn {i : Int} {r : Bool} (h : gran_inRange i = r) : Fn CX 55 [(vi i)] (vb r) := by
 refine Fn.ends Try.func55 rfl rfl rfl rfl rfl rfl ?_
 have H : Hs (⟨0, fun _ => .none⟩ : Heap) [] := Has.nil (Nat.le_refl _)
 generalize (⟨0, fun _ => .none⟩ : Heap) = σ at H ⊢
 unfold gran_inRange at h
 apply Runs.then
 refine Runs.regionH 1 rfl H ?_; intro b1 σ H
 refine Ops.assign (v := (vb false)) rfl rfl ?_
 apply Ops.nil
 replace H := H.all
 apply Runs.then
 refine Runs.regionH 7 rfl H ?_; intro b2 σ H
 refine Ops.move (v := (vi i)) rfl rfl ?_
 refine Ops.int (m := i) (m' := (-1099511627776)) (r := .bool (decide (i ≥ (-1099511627776)))) rfl rfl rfl rfl rfl ?_
 refine Ops.move (v := (vb (decide (i ≥ (-1099511627776))))) rfl rfl ?_
 refine Ops.mid 3 (K1 := fun e σ => EnvHas e [(8, (vb ((decide (i ≥ (-1099511627776))) && (decide (i ≤ 1099511627776)))))] ∧ Has σ (b2 + 6) (b2 + 7) []) rfl ?_ ?_
 ·refine Ops.split rfl rfl ?_ ?_ <;> intro hc1
  ·skip
   refine Ops.wanted rfl rfl ?_
   refine Ops.move (v := (vi i)) rfl rfl ?_
   refine Ops.wanted rfl rfl ?_
   refine Ops.int (m := i) (m' := 1099511627776) (r := .bool (decide (i ≤ 1099511627776))) rfl rfl rfl rfl rfl ?_
   refine Ops.pickT (v := (vb (decide (i ≤ 1099511627776)))) rfl rfl rfl ?_
   apply Ops.nil
   exact ⟨⟨and_T hc1, trivial⟩, H.weak (by omega) (Nat.le_refl _)⟩
  ·skip
   refine Ops.pass rfl rfl rfl ?_
   refine Ops.pass rfl rfl rfl ?_
   refine Ops.pickF (v := (vb false)) rfl rfl rfl ?_
   apply Ops.nil
   exact ⟨⟨and_F hc1, trivial⟩, H.weak (by omega) (Nat.le_refl _)⟩
 ·rintro e σ ⟨he, H⟩
  obtain ⟨e, rfl⟩ := he.ex
  refine Ops.assign (v := (vb ((decide (i ≥ (-1099511627776))) && (decide (i ≤ 1099511627776))))) rfl rfl ?_
  apply Ops.nil
  replace H := H.all
  apply Runs.ret
  subst h
  exact (Ends.H (xs := [(vb ((decide (i ≥ (-1099511627776))) && (decide (i ≤ 1099511627776))))]) (.inr rfl) H (.tmp (v := (vb ((decide (i ≥ (-1099511627776))) && (decide (i ≤ 1099511627776))))) rfl .nil) (.one (.c (.v _))))

set_option maxRecDepth 100000 in
set_option maxHeartbeats 4000000 in
theorem gran_shape_fn {f : Form} {r : Bool} (h : gran_shape f = some r) : Fn CX 49 [(.agg (vs (Form.cs f)))] (vb r) := by
 refine Fn.ends Try.func49 rfl rfl rfl rfl rfl rfl ?_
 have H : Hs (⟨0, fun _ => .none⟩ : Heap) [] := Has.nil (Nat.le_refl _)
 generalize (⟨0, fun _ => .none⟩ : Heap) = σ at H ⊢
 unfold gran_shape at h
 apply Runs.then
 refine Runs.regionH 2 rfl H ?_; intro b1 σ H
 refine Ops.boxH (v := (.agg [(vi f.Period), (vi f.Count), (vl (cL Span.cs) f.Core), (vl Granule.cs f.Odd)])) (cs := [(vi f.Period), (vi f.Count), (vl (cL Span.cs) f.Core), (vl Granule.cs f.Odd)]) H (by omega) (by omega) rfl rfl rfl ?_; intro σ H
 refine Ops.assign (v := (vb false)) rfl rfl ?_
 apply Ops.nil
 replace H := H.all
 apply Runs.then
 apply Runs.then
 refine Runs.regionH 25 rfl H ?_; intro b2 σ H
 refine Ops.fieldAddrH (off := 0) (fo := 1) H 0 rfl rfl rfl rfl rfl nofun rfl ?_
 refine Ops.loadH (off := 1) (v := (vi f.Count)) H 0 rfl rfl rfl rfl rfl nofun rfl ?_
 refine Ops.fieldAddrH (off := 0) (fo := 2) H 0 rfl rfl rfl rfl rfl nofun rfl ?_
 refine Ops.loadH (off := 2) (v := (vl (cL Span.cs) f.Core)) H 0 rfl rfl rfl rfl rfl nofun rfl ?_
 refine Ops.lenPt (c := (cL Span.cs)) (xs := f.Core) rfl rfl rfl ?_
 refine Ops.int (m := f.Count) (m' := (f.Core.length : Int)) (r := .bool (f.Count != (f.Core.length : Int))) rfl rfl rfl rfl rfl ?_
 refine Ops.move (v := (vb (f.Count != (f.Core.length : Int)))) rfl rfl ?_
 refine Ops.mid 8 (K1 := fun e σ => EnvHas e [(21, (vb ((f.Count != (f.Core.length : Int)) || ((f.Count == 0) != (f.Period == 0))))), (1, (.ptr (b1 + 0) 4 0))] ∧ Has σ (b2 + 15) (b2 + 25) [.blk (b1 + 0) 25 [(vi f.Period), (vi f.Count), (vl (cL Span.cs) f.Core), (vl Granule.cs f.Odd)]]) rfl ?_ ?_
 ·refine Ops.split rfl rfl ?_ ?_ <;> intro hc1
  ·skip
   refine Ops.pass rfl rfl rfl ?_
   refine Ops.pass rfl rfl rfl ?_
   refine Ops.pass rfl rfl rfl ?_
   refine Ops.pass rfl rfl rfl ?_
   refine Ops.pass rfl rfl rfl ?_
   refine Ops.pass rfl rfl rfl ?_
   refine Ops.pass rfl rfl rfl ?_
   refine Ops.pickT (v := (vb true)) rfl rfl rfl ?_
   apply Ops.nil
   exact ⟨⟨or_T hc1, rfl, trivial⟩, H.weak (by omega) (Nat.le_refl _)⟩
  ·skip
   refine Ops.wanted rfl rfl ?_
   refine Ops.fieldAddrH (off := 0) (fo := 1) H 0 rfl rfl rfl rfl rfl nofun rfl ?_
   refine Ops.wanted rfl rfl ?_
   refine Ops.loadH (off := 1) (v := (vi f.Count)) H 0 rfl rfl rfl rfl rfl nofun rfl ?_
   refine Ops.wanted rfl rfl ?_
   refine Ops.int (m := f.Count) (m' := 0) (r := .bool (f.Count == 0)) rfl rfl rfl rfl rfl ?_
   refine Ops.wanted rfl rfl ?_
   refine Ops.fieldAddrH (off := 0) (fo := 0) H 0 rfl rfl rfl rfl rfl nofun rfl ?_
   refine Ops.wanted rfl rfl ?_
   refine Ops.loadH (off := 0) (v := (vi f.Period)) H 0 rfl rfl rfl rfl rfl nofun rfl ?_
   refine Ops.wanted rfl rfl ?_
   refine Ops.int (m := f.Period) (m' := 0) (r := .bool (f.Period == 0)) rfl rfl rfl rfl rfl ?_
   refine Ops.wanted rfl rfl ?_
   refine Ops.neB (b := (f.Count == 0)) (b' := (f.Period == 0)) rfl rfl rfl rfl ?_
   refine Ops.pickF (v := (vb ((f.Count == 0) != (f.Period == 0)))) rfl rfl rfl ?_
   apply Ops.nil
   exact ⟨⟨or_F hc1, rfl, trivial⟩, H.weak (by omega) (Nat.le_refl _)⟩
 ·rintro e σ ⟨he, H⟩
  obtain ⟨e, rfl⟩ := he.ex
  refine Ops.move (v := (vb ((f.Count != (f.Core.length : Int)) || ((f.Count == 0) != (f.Period == 0))))) rfl rfl ?_
  refine Ops.mid 4 (K1 := fun e σ => EnvHas e [(26, (vb (((f.Count != (f.Core.length : Int)) || ((f.Count == 0) != (f.Period == 0))) || (decide (f.Period < 0))))), (1, (.ptr (b1 + 0) 4 0))] ∧ Has σ (b2 + 20) (b2 + 25) [.blk (b1 + 0) 25 [(vi f.Period), (vi f.Count), (vl (cL Span.cs) f.Core), (vl Granule.cs f.Odd)]]) rfl ?_ ?_
  ·refine Ops.split rfl rfl ?_ ?_ <;> intro hc2
   ·skip
    refine Ops.pass rfl rfl rfl ?_
    refine Ops.pass rfl rfl rfl ?_
    refine Ops.pass rfl rfl rfl ?_
    refine Ops.pickT (v := (vb true)) rfl rfl rfl ?_
    apply Ops.nil
    exact ⟨⟨or_T hc2, rfl, trivial⟩, H.weak (by omega) (Nat.le_refl _)⟩
   ·skip
    refine Ops.wanted rfl rfl ?_
    refine Ops.fieldAddrH (off := 0) (fo := 0) H 0 rfl rfl rfl rfl rfl nofun rfl ?_
    refine Ops.wanted rfl rfl ?_
    refine Ops.loadH (off := 0) (v := (vi f.Period)) H 0 rfl rfl rfl rfl rfl nofun rfl ?_
    refine Ops.wanted rfl rfl ?_
    refine Ops.int (m := f.Period) (m' := 0) (r := .bool (decide (f.Period < 0))) rfl rfl rfl rfl rfl ?_
    refine Ops.pickF (v := (vb (decide (f.Period < 0)))) rfl rfl rfl ?_
    apply Ops.nil
    exact ⟨⟨or_F hc2, rfl, trivial⟩, H.weak (by omega) (Nat.le_refl _)⟩
  ·rintro e σ ⟨he, H⟩
   obtain ⟨e, rfl⟩ := he.ex
   refine Ops.move (v := (vb (((f.Count != (f.Core.length : Int)) || ((f.Count == 0) != (f.Period == 0))) || (decide (f.Period < 0))))) rfl rfl ?_
   refine Ops.mid 4 (K1 := fun e σ => EnvHas e [(31, (vb ((((f.Count != (f.Core.length : Int)) || ((f.Count == 0) != (f.Period == 0))) || (decide (f.Period < 0))) || (decide (f.Period > 1099511627776))))), (1, (.ptr (b1 + 0) 4 0))] ∧ Has σ (b2 + 25) (b2 + 25) [.blk (b1 + 0) 25 [(vi f.Period), (vi f.Count), (vl (cL Span.cs) f.Core), (vl Granule.cs f.Odd)]]) rfl ?_ ?_
   ·refine Ops.split rfl rfl ?_ ?_ <;> intro hc3
    ·skip
     refine Ops.pass rfl rfl rfl ?_
     refine Ops.pass rfl rfl rfl ?_
     refine Ops.pass rfl rfl rfl ?_
     refine Ops.pickT (v := (vb true)) rfl rfl rfl ?_
     apply Ops.nil
     exact ⟨⟨or_T hc3, rfl, trivial⟩, H.weak (by omega) (Nat.le_refl _)⟩
    ·skip
     refine Ops.wanted rfl rfl ?_
     refine Ops.fieldAddrH (off := 0) (fo := 0) H 0 rfl rfl rfl rfl rfl nofun rfl ?_
     refine Ops.wanted rfl rfl ?_
     refine Ops.loadH (off := 0) (v := (vi f.Period)) H 0 rfl rfl rfl rfl rfl nofun rfl ?_
     refine Ops.wanted rfl rfl ?_
     refine Ops.int (m := f.Period) (m' := 1099511627776) (r := .bool (decide (f.Period > 1099511627776))) rfl rfl rfl rfl rfl ?_
     refine Ops.pickF (v := (vb (decide (f.Period > 1099511627776)))) rfl rfl rfl ?_
     apply Ops.nil
     exact ⟨⟨or_F hc3, rfl, trivial⟩, H.weak (by omega) (Nat.le_refl _)⟩
   ·rintro e σ ⟨he, H⟩
    obtain ⟨e, rfl⟩ := he.ex
    apply Ops.nil
    replace H := H.all
    refine Runs.whether (v := ((((f.Count != (f.Core.length : Int)) || ((f.Count == 0) != (f.Period == 0))) || (decide (f.Period < 0))) || (decide (f.Period > 1099511627776)))) rfl ?_ ?_ <;> intro hc4
    ·replace h := cond_T hc4 h
     apply Runs.then
     refine Runs.regionH 1 rfl H ?_; intro b3 σ H
     refine Ops.assign (v := (vb false)) rfl rfl ?_
     apply Ops.nil
     replace H := H.all
     apply Runs.ret
     replace h := Option.some.inj h; subst h
     exact (Ends.H (xs := [(vb false)]) (.inr rfl) H (.tmp (v := (vb false)) rfl .nil) (.one (.c (.v _))))
    ·replace h := cond_F hc4 h
     apply Runs.skip
     apply Runs.then
     apply Runs.then
     refine Runs.regionH 4 rfl H ?_; intro b4 σ H
     refine Ops.fieldAddrH (off := 0) (fo := 2) H 0 rfl rfl rfl rfl rfl nofun rfl ?_
     refine Ops.loadH (off := 2) (v := (vl (cL Span.cs) f.Core)) H 0 rfl rfl rfl rfl rfl nofun rfl ?_
     refine Ops.lenPt (c := (cL Span.cs)) (xs := f.Core) rfl rfl rfl ?_
     refine Ops.move (v := (vi 0)) rfl rfl ?_
     apply Ops.nil
     replace H := H.all
     apply Runs.inBlock
     obtain ⟨y1, hj1, h⟩ := bind_some h
     obtain ⟨n1, hj1⟩ := loopO_iff.1 hj1
     refine Runs.mono (Runs.loopO hj1 (fun s1 e σ => EnvHas e [(1, (.ptr (b1 + 0) 4 0)), (33, (vl (cL Span.cs) f.Core)), (34, (vi (f.Core.length : Int))), (35, (vi s1))] ∧ Hs σ [.blk (b1 + 0) 25 [(vi f.Period), (vi f.Count), (vl (cL Span.cs) f.Core), (vl Granule.cs f.Odd)]]) (fun y1 x e σ => (∃ a1, y1 = (.go a1) ∧ x = .exit 0 ∧ EnvHas e [(1, (.ptr (b1 + 0) 4 0))] ∧ Hs σ [.blk (b1 + 0) 25 [(vi f.Period), (vi f.Count), (vl (cL Span.cs) f.Core), (vl Granule.cs f.Odd)]]) ∨ (∃ r', y1 = (.ret r') ∧ x = .ret ∧ Ends CX Try.f49.results.toList (vb r') x e σ)) ⟨⟨rfl, rfl, rfl, rfl, trivial⟩, H⟩ ?_) ?_
     ·intro s1 e σ hI z h
      obtain ⟨he, H⟩ := hI
      obtain ⟨e, rfl⟩ := he.ex
      unfold gran_shape.s0 at h
      apply Runs.then
      refine Runs.regionH 1 rfl H ?_; intro b5 σ H
      refine Ops.int (m := s1) (m' := (f.Core.length : Int)) (r := .bool (decide (s1 < (f.Core.length : Int)))) rfl rfl rfl rfl rfl ?_
      apply Ops.nil
      replace H := H.all
      apply Runs.then
      refine Runs.whether (v := (decide (s1 < (f.Core.length : Int)))) rfl ?_ ?_ <;> intro hc5
      ·replace h := cond_T hc5 h
       apply Runs.skip
       apply Runs.then
       apply Runs.inBlock
       apply Runs.then
       refine Runs.regionH 3 rfl H ?_; intro b6 σ H
       obtain ⟨x1, q1, h⟩ := bind_some h
       refine Ops.indexP (c := (cL Span.cs)) (u := x1) rfl rfl q1 rfl rfl rfl rfl ?_
       refine Ops.loadP (u := (.sl (x1.map Span.cs))) rfl rfl rfl rfl ?_
       refine Ops.assign (v := (vl Span.cs x1)) rfl rfl ?_
       apply Ops.nil
       replace H := H.all
       apply Runs.then
       refine Runs.regionH 3 rfl H ?_; intro b7 σ H
       refine Ops.move (v := (vl Span.cs x1)) rfl rfl ?_
       obtain ⟨x2, q2, h⟩ := bind_some h
       refine Ops.call (ys := [(vl Span.cs x1)]) (r := (vb x2)) rfl (spans_Right_fn q2) rfl ?_
       refine Ops.not (b := x2) rfl rfl ?_
       apply Ops.nil
       replace H := H.all
       refine Runs.whether (v := (!x2)) rfl ?_ ?_ <;> intro hc6
       ·replace h := cond_T hc6 h
        apply Runs.then
        refine Runs.regionH 1 rfl H ?_; intro b8 σ H
        refine Ops.assign (v := (vb false)) rfl rfl ?_
        apply Ops.nil
        replace H := H.all
        apply Runs.ret
        replace h := Option.some.inj h; subst h
        exact ⟨nofun, (.inr ⟨_, rfl, rfl, (Ends.H (xs := [(vb false)]) (.inr rfl) H (.tmp (v := (vb false)) rfl .nil) (.one (.c (.v _))))⟩)⟩
       ·replace h := cond_F hc6 h
        apply Runs.skip
        refine Runs.regionH 2 rfl H ?_; intro b9 σ H
        refine Ops.int (m := s1) (m' := 1) (r := .int .i64 (w64 (s1 + 1))) rfl rfl rfl rfl rfl ?_
        refine Ops.move (v := (vi (w64 (s1 + 1)))) rfl rfl ?_
        apply Ops.nil
        replace H := H.all
        replace h := Option.some.inj h; subst h
        exact ⟨rfl, ⟨rfl, rfl, rfl, rfl, trivial⟩, H⟩
      ·replace h := cond_F hc5 h
       apply Runs.exit
       replace h := Option.some.inj h; subst h
       exact ⟨nofun, (.inl ⟨_, rfl, rfl, ⟨rfl, trivial⟩, H⟩)⟩
     ·rintro x e σ (⟨a2, rfl, rfl, he, H⟩ | ⟨r', rfl, rfl, hE⟩)
      ·skip
       replace h := jgo h
       obtain ⟨e, rfl⟩ := he.ex
       apply Runs.then
       apply Runs.then
       refine Runs.regionH 4 rfl H ?_; intro b10 σ H
       refine Ops.fieldAddrH (off := 0) (fo := 3) H 0 rfl rfl rfl rfl rfl nofun rfl ?_
       refine Ops.loadH (off := 3) (v := (vl Granule.cs f.Odd)) H 0 rfl rfl rfl rfl rfl nofun rfl ?_
       refine Ops.lenPt (c := Granule.cs) (xs := f.Odd) rfl rfl rfl ?_
       refine Ops.move (v := (vi 0)) rfl rfl ?_
       apply Ops.nil
       replace H := H.all
       apply Runs.inBlock
       obtain ⟨y2, hj2, h⟩ := bind_some h
       obtain ⟨n2, hj2⟩ := loopO_iff.1 hj2
       refine Runs.mono (Runs.loopO hj2 (fun s2 e σ => EnvHas e [(1, (.ptr (b1 + 0) 4 0)), (44, (vl Granule.cs f.Odd)), (45, (vi (f.Odd.length : Int))), (46, (vi s2))] ∧ Hs σ [.blk (b1 + 0) 25 [(vi f.Period), (vi f.Count), (vl (cL Span.cs) f.Core), (vl Granule.cs f.Odd)]]) (fun y2 x e σ => (∃ a3, y2 = (.go a3) ∧ x = .exit 2 ∧ EnvHas e [] ∧ Hs σ []) ∨ (∃ r', y2 = (.ret r') ∧ x = .ret ∧ Ends CX Try.f49.results.toList (vb r') x e σ)) ⟨⟨rfl, rfl, rfl, rfl, trivial⟩, H⟩ ?_) ?_
       ·intro s2 e σ hI z h
        obtain ⟨he, H⟩ := hI
        obtain ⟨e, rfl⟩ := he.ex
        unfold gran_shape.s1 at h
        apply Runs.then
        refine Runs.regionH 1 rfl H ?_; intro b11 σ H
        refine Ops.int (m := s2) (m' := (f.Odd.length : Int)) (r := .bool (decide (s2 < (f.Odd.length : Int)))) rfl rfl rfl rfl rfl ?_
        apply Ops.nil
        replace H := H.all
        apply Runs.then
        refine Runs.whether (v := (decide (s2 < (f.Odd.length : Int)))) rfl ?_ ?_ <;> intro hc7
        ·replace h := cond_T hc7 h
         apply Runs.skip
         apply Runs.then
         apply Runs.inBlock
         apply Runs.then
         refine Runs.regionH 6 rfl H ?_; intro b12 σ H
         refine Ops.move (v := (vi s2)) rfl rfl ?_
         obtain ⟨x3, q3, h⟩ := bind_some h
         refine Ops.indexP (c := Granule.cs) (u := x3) rfl rfl q3 rfl rfl rfl rfl ?_
         refine Ops.loadPA (cs := [(.int .i64 x3.Index), (.sl (x3.Ticks.map Span.cs))]) rfl rfl rfl rfl rfl rfl ?_
         refine Ops.allocH (cs := [(vi 0), .nils]) H (by omega) (by omega) rfl rfl ?_; intro σ H
         refine Ops.assign (v := (vi s2)) rfl rfl ?_
         refine Ops.storeH (off := 0) (v := (.agg [(vi x3.Index), (vl Span.cs x3.Ticks)])) (ys := [(vi x3.Index), (vl Span.cs x3.Ticks)]) (cells' := [(vi x3.Index), (vl Span.cs x3.Ticks)]) H 0 rfl rfl rfl rfl rfl rfl rfl rfl rfl nofun ?_; intro σ H
         apply Ops.nil
         replace H := H.all
         apply Runs.then
         refine Runs.drawnH 26 rfl (by kernel_rfl) H ?_; intro b13 σ H B13
         refine Ops.fieldAddrH (off := 0) (fo := 1) H 0 rfl rfl rfl rfl rfl (fun _ => .inl ⟨B13 0 _ rfl _ rfl, nofun⟩) rfl ?_
         refine Ops.loadH (off := 1) (v := (vl Span.cs x3.Ticks)) H 0 rfl rfl rfl rfl rfl (fun _ => .inl ⟨B13 0 _ rfl _ rfl, nofun⟩) rfl ?_
         obtain ⟨x4, q4, h⟩ := bind_some h
         refine Ops.call (ys := [(vl Span.cs x3.Ticks)]) (r := (vb x4)) rfl (spans_Right_fn q4) rfl ?_
         refine Ops.not (b := x4) rfl rfl ?_
         refine Ops.move (v := (vb (!x4))) rfl rfl ?_
         refine Ops.mid 5 (K1 := fun e σ => EnvHas e [(60, (vb ((!x4) || (!(gran_inRange x3.Index))))), (1, (.ptr (b1 + 0) 4 0)), (5, (vi s2)), (6, (.ptr (b12 + 3) 2 0)), (44, (vl Granule.cs f.Odd)), (45, (vi (f.Odd.length : Int))), (46, (vi s2))] ∧ Has σ (b13 + 10) (b13 + 26) [.blk (b12 + 3) 76 [(vi x3.Index), (vl Span.cs x3.Ticks)], .blk (b1 + 0) 25 [(vi f.Period), (vi f.Count), (vl (cL Span.cs) f.Core), (vl Granule.cs f.Odd)]]) rfl ?_ ?_
         ·refine Ops.split rfl rfl ?_ ?_ <;> intro hc8
          ·skip
           refine Ops.pass rfl rfl rfl ?_
           refine Ops.pass rfl rfl rfl ?_
           refine Ops.pass rfl rfl rfl ?_
           refine Ops.pass rfl rfl rfl ?_
           refine Ops.pickT (v := (vb true)) rfl rfl rfl ?_
           apply Ops.nil
           exact ⟨⟨or_T hc8, rfl, rfl, rfl, rfl, rfl, rfl, trivial⟩, H.weak (by omega) (Nat.le_refl _)⟩
          ·skip
           refine Ops.wanted rfl rfl ?_
           refine Ops.fieldAddrH (off := 0) (fo := 0) H 0 rfl rfl rfl rfl rfl (fun _ => .inl ⟨B13 0 _ rfl _ rfl, nofun⟩) rfl ?_
           refine Ops.wanted rfl rfl ?_
           refine Ops.loadH (off := 0) (v := (vi x3.Index)) H 0 rfl rfl rfl rfl rfl (fun _ => .inl ⟨B13 0 _ rfl _ rfl, nofun⟩) rfl ?_
           refine Ops.wanted rfl rfl ?_
           refine Ops.call (ys := [(vi x3.Index)]) (r := (vb (gran_inRange x3.Index))) rfl (gran_inRange_fn rfl) rfl ?_
           refine Ops.wanted rfl rfl ?_
           refine Ops.not (b := (gran_inRange x3.Index)) rfl rfl ?_
           refine Ops.pickF (v := (vb (!(gran_inRange x3.Index)))) rfl rfl rfl ?_
           apply Ops.nil
           exact ⟨⟨or_F hc8, rfl, rfl, rfl, rfl, rfl, rfl, trivial⟩, H.weak (by omega) (Nat.le_refl _)⟩
         ·rintro e σ ⟨he, H⟩
          obtain ⟨e, rfl⟩ := he.ex
          refine Ops.move (v := (vb ((!x4) || (!(gran_inRange x3.Index))))) rfl rfl ?_
          obtain ⟨y3, hj3, h⟩ := bind_some h
          refine Ops.mid 15 (K1 := fun e σ => EnvHas e [(76, (vb y3)), (1, (.ptr (b1 + 0) 4 0)), (44, (vl Granule.cs f.Odd)), (45, (vi (f.Odd.length : Int))), (46, (vi s2))] ∧ Has σ (b13 + 26) (b13 + 26) [.blk (b1 + 0) 25 [(vi f.Period), (vi f.Count), (vl (cL Span.cs) f.Core), (vl Granule.cs f.Odd)]]) rfl ?_ ?_
          ·refine Ops.split rfl rfl ?_ ?_ <;> intro hc9
           ·replace h := cond_T hc9 hj3
            refine Ops.pass rfl rfl rfl ?_
            refine Ops.pass rfl rfl rfl ?_
            refine Ops.pass rfl rfl rfl ?_
            refine Ops.passU rfl rfl rfl ?_
            refine Ops.passU rfl rfl rfl ?_
            refine Ops.passU rfl rfl rfl ?_
            refine Ops.passU rfl rfl rfl ?_
            refine Ops.passU rfl rfl rfl ?_
            refine Ops.passU rfl rfl rfl ?_
            refine Ops.passU rfl rfl rfl ?_
            refine Ops.passU rfl rfl rfl ?_
            refine Ops.passU rfl rfl rfl ?_
            refine Ops.passU rfl rfl rfl ?_
            refine Ops.pass rfl rfl rfl ?_
            refine Ops.pickT (v := (vb true)) rfl rfl rfl ?_
            apply Ops.nil
            replace h := Option.some.inj h; subst h
            exact ⟨⟨rfl, rfl, rfl, rfl, rfl, trivial⟩, (H.erase 0).weak (by omega) (Nat.le_refl _)⟩
           ·replace h := cond_F hc9 hj3
            refine Ops.wanted rfl rfl ?_
            refine Ops.move (v := (vi s2)) rfl rfl ?_
            refine Ops.wanted rfl rfl ?_
            refine Ops.int (m := s2) (m' := 0) (r := .bool (decide (s2 > 0))) rfl rfl rfl rfl rfl ?_
            refine Ops.wanted rfl rfl ?_
            refine Ops.move (v := (vb (decide (s2 > 0)))) rfl rfl ?_
            obtain ⟨y4, hj4, h⟩ := bind_some h
            refine Ops.mid 11 (K1 := fun e σ => EnvHas e [(75, (vb y4)), (1, (.ptr (b1 + 0) 4 0)), (44, (vl Granule.cs f.Odd)), (45, (vi (f.Odd.length : Int))), (46, (vi s2)), (61, (vb false))] ∧ Has σ (b13 + 25) (b13 + 26) [.blk (b1 + 0) 25 [(vi f.Period), (vi f.Count), (vl (cL Span.cs) f.Core), (vl Granule.cs f.Odd)]]) rfl ?_ ?_
            ·refine Ops.split rfl rfl ?_ ?_ <;> intro hc10
             ·replace h := cond_T hc10 hj4
              refine Ops.wanted rfl rfl ?_
              refine Ops.fieldAddrH (off := 0) (fo := 0) H 0 rfl rfl rfl rfl rfl (fun _ => .inl ⟨B13 0 _ rfl _ rfl, nofun⟩) rfl ?_
              refine Ops.wanted rfl rfl ?_
              refine Ops.loadH (off := 0) (v := (vi x3.Index)) H 0 rfl rfl rfl rfl rfl (fun _ => .inl ⟨B13 0 _ rfl _ rfl, nofun⟩) rfl ?_
              refine Ops.wanted rfl rfl ?_
              refine Ops.fieldAddrH (off := 0) (fo := 3) H 1 rfl rfl rfl rfl rfl (fun _ => .inl ⟨B13 1 _ rfl _ rfl, nofun⟩) rfl ?_
              refine Ops.wanted rfl rfl ?_
              refine Ops.loadH (off := 3) (v := (vl Granule.cs f.Odd)) H 1 rfl rfl rfl rfl rfl (fun _ => .inl ⟨B13 1 _ rfl _ rfl, nofun⟩) rfl ?_
              refine Ops.wanted rfl rfl ?_
              refine Ops.move (v := (vi s2)) rfl rfl ?_
              refine Ops.wanted rfl rfl ?_
              refine Ops.int (m := s2) (m' := 1) (r := .int .i64 (w64 (s2 - 1))) rfl rfl rfl rfl rfl ?_
              refine Ops.wanted rfl rfl ?_
              obtain ⟨x5, q5, h⟩ := bind_some h
              refine Ops.indexP (c := Granule.cs) (u := x5) rfl rfl q5 rfl rfl rfl rfl ?_
              refine Ops.wanted rfl rfl ?_
              refine Ops.fieldAddrP rfl rfl rfl rfl ?_
              refine Ops.wanted rfl rfl ?_
              refine Ops.loadP (u := (.int .i64 x5.Index)) rfl rfl rfl rfl ?_
              refine Ops.wanted rfl rfl ?_
              refine Ops.int (m := x3.Index) (m' := x5.Index) (r := .bool (decide (x3.Index ≤ x5.Index))) rfl rfl rfl rfl rfl ?_
              refine Ops.wanted rfl rfl ?_
              refine Ops.pickT (v := (vb (decide (x3.Index ≤ x5.Index)))) rfl rfl rfl ?_
              apply Ops.nil
              replace h := Option.some.inj h; subst h
              exact ⟨⟨rfl, rfl, rfl, rfl, rfl, rfl, trivial⟩, (H.erase 0).weak (by omega) (Nat.le_refl _)⟩
             ·replace h := cond_F hc10 hj4
              refine Ops.pass rfl rfl rfl ?_
              refine Ops.pass rfl rfl rfl ?_
              refine Ops.pass rfl rfl rfl ?_
              refine Ops.pass rfl rfl rfl ?_
              refine Ops.pass rfl rfl rfl ?_
              refine Ops.pass rfl rfl rfl ?_
              refine Ops.pass rfl rfl rfl ?_
              refine Ops.pass rfl rfl rfl ?_
              refine Ops.pass rfl rfl rfl ?_
              refine Ops.pass rfl rfl rfl ?_
              refine Ops.wanted rfl rfl ?_
              refine Ops.pickF (v := (vb false)) rfl rfl rfl ?_
              apply Ops.nil
              replace h := Option.some.inj h; subst h
              exact ⟨⟨rfl, rfl, rfl, rfl, rfl, rfl, trivial⟩, (H.erase 0).weak (by omega) (Nat.le_refl _)⟩
            ·rintro e σ ⟨he, H⟩
             obtain ⟨e, rfl⟩ := he.ex
             refine Ops.pickF (v := (vb y4)) rfl rfl rfl ?_
             apply Ops.nil
             replace h := Option.some.inj h; subst h
             exact ⟨⟨rfl, rfl, rfl, rfl, rfl, trivial⟩, H.weak (by omega) (Nat.le_refl _)⟩
          ·rintro e σ ⟨he, H⟩
           obtain ⟨e, rfl⟩ := he.ex
           apply Ops.nil
           replace H := H.all
           refine Runs.whether (v := y3) rfl ?_ ?_ <;> intro hc11
           ·replace h := cond_T hc11 h
            apply Runs.then
            refine Runs.regionH 1 rfl H ?_; intro b14 σ H
            refine Ops.assign (v := (vb false)) rfl rfl ?_
            apply Ops.nil
            replace H := H.all
            apply Runs.ret
            replace h := Option.some.inj h; subst h
            exact ⟨nofun, (.inr ⟨_, rfl, rfl, (Ends.H (xs := [(vb false)]) (.inr rfl) H (.tmp (v := (vb false)) rfl .nil) (.one (.c (.v _))))⟩)⟩
           ·replace h := cond_F hc11 h
            apply Runs.skip
            refine Runs.regionH 2 rfl H ?_; intro b15 σ H
            refine Ops.int (m := s2) (m' := 1) (r := .int .i64 (w64 (s2 + 1))) rfl rfl rfl rfl rfl ?_
            refine Ops.move (v := (vi (w64 (s2 + 1)))) rfl rfl ?_
            apply Ops.nil
            replace H := H.all
            replace h := Option.some.inj h; subst h
            exact ⟨rfl, ⟨rfl, rfl, rfl, rfl, trivial⟩, H⟩
        ·replace h := cond_F hc7 h
         apply Runs.exit
         replace h := Option.some.inj h; subst h
         exact ⟨nofun, (.inl ⟨_, rfl, rfl, trivial, (H.erase 0)⟩)⟩
       ·rintro x e σ (⟨a4, rfl, rfl, he, H⟩ | ⟨r', rfl, rfl, hE⟩)
        ·skip
         replace h := jgo h
         obtain ⟨e, rfl⟩ := he.ex
         apply Runs.then
         refine Runs.regionH 1 rfl H ?_; intro b16 σ H
         refine Ops.assign (v := (vb true)) rfl rfl ?_
         apply Ops.nil
         replace H := H.all
         apply Runs.ret
         replace h := Option.some.inj h; subst h
         exact (Ends.H (xs := [(vb true)]) (.inr rfl) H (.tmp (v := (vb true)) rfl .nil) (.one (.c (.v _))))
        ·skip
         replace h := jret h
         replace h := Option.some.inj h; subst h
         exact hE
      ·skip
       replace h := jret h
       replace h := Option.some.inj h; subst h
       exact hE

set_option maxRecDepth 100000 in
set_option maxHeartbeats 4000000 in
theorem gran_turns_fn {f : Form} {r : Bool} (h : gran_turns f = some r) : Fn CX 50 [(.agg (vs (Form.cs f)))] (vb r) := by
 refine Fn.ends Try.func50 rfl rfl rfl rfl rfl rfl ?_
 have H : Hs (⟨0, fun _ => .none⟩ : Heap) [] := Has.nil (Nat.le_refl _)
 generalize (⟨0, fun _ => .none⟩ : Heap) = σ at H ⊢
 unfold gran_turns at h
 apply Runs.then
 refine Runs.regionH 2 rfl H ?_; intro b1 σ H
 refine Ops.boxH (v := (.agg [(vi f.Period), (vi f.Count), (vl (cL Span.cs) f.Core), (vl Granule.cs f.Odd)])) (cs := [(vi f.Period), (vi f.Count), (vl (cL Span.cs) f.Core), (vl Granule.cs f.Odd)]) H (by omega) (by omega) rfl rfl rfl ?_; intro σ H
 refine Ops.assign (v := (vb false)) rfl rfl ?_
 apply Ops.nil
 replace H := H.all
 apply Runs.then
 refine Runs.regionH 1 rfl H ?_; intro b2 σ H
 refine Ops.assign (v := .nils) rfl rfl ?_
 apply Ops.nil
 replace H := H.all
 apply Runs.then
 apply Runs.then
 refine Runs.regionH 4 rfl H ?_; intro b3 σ H
 refine Ops.fieldAddrH (off := 0) (fo := 2) H 0 rfl rfl rfl rfl rfl nofun rfl ?_
 refine Ops.loadH (off := 2) (v := (vl (cL Span.cs) f.Core)) H 0 rfl rfl rfl rfl rfl nofun rfl ?_
 refine Ops.lenPt (c := (cL Span.cs)) (xs := f.Core) rfl rfl rfl ?_
 refine Ops.move (v := (vi 0)) rfl rfl ?_
 apply Ops.nil
 replace H := H.all
 apply Runs.inBlock
 replace H := H.pushNil 41 1 true
 obtain ⟨y1, hj1, h⟩ := bind_some h
 obtain ⟨n1, hj1⟩ := loopO_iff.1 hj1
 refine Runs.mono (Runs.loopO hj1 (fun s2 e σ => ∃ (w3 : PV), EnvHas e [(1, (.ptr (b1 + 0) 4 0)), (3, w3), (11, (vl (cL Span.cs) f.Core)), (12, (vi (f.Core.length : Int))), (13, (vi s2.1))] ∧ Hs σ [.sl w3 41 1 (s2.2.map (cL Span.cs)) true, .blk (b1 + 0) 25 [(vi f.Period), (vi f.Count), (vl (cL Span.cs) f.Core), (vl Granule.cs f.Odd)]]) (fun y1 x e σ => ∃ (w4 : PV), x = .exit 0 ∧ EnvHas e [(1, (.ptr (b1 + 0) 4 0)), (3, w4)] ∧ Hs σ [.sl w4 41 1 (y1.map (cL Span.cs)) true, .blk (b1 + 0) 25 [(vi f.Period), (vi f.Count), (vl (cL Span.cs) f.Core), (vl Granule.cs f.Odd)]]) ⟨.nils, ⟨rfl, rfl, rfl, rfl, rfl, trivial⟩, H⟩ ?_) ?_
 ·intro s2 e σ hI z h
  obtain ⟨w3, he, H⟩ := hI
  obtain ⟨e, rfl⟩ := he.ex
  unfold gran_turns.s0 at h
  apply Runs.then
  refine Runs.regionH 1 rfl H ?_; intro b4 σ H
  refine Ops.int (m := s2.1) (m' := (f.Core.length : Int)) (r := .bool (decide (s2.1 < (f.Core.length : Int)))) rfl rfl rfl rfl rfl ?_
  apply Ops.nil
  replace H := H.all
  apply Runs.then
  refine Runs.whether (v := (decide (s2.1 < (f.Core.length : Int)))) rfl ?_ ?_ <;> intro hc1
  ·replace h := cond_T hc1 h
   apply Runs.skip
   apply Runs.then
   obtain ⟨y2, hj2, h⟩ := bind_some h
   refine Runs.mono (Q := fun x e σ => ∃ (w5 : PV), x = .normal ∧ EnvHas e [(1, (.ptr (b1 + 0) 4 0)), (3, w5), (11, (vl (cL Span.cs) f.Core)), (12, (vi (f.Core.length : Int))), (13, (vi s2.1))] ∧ Hs σ [.sl w5 41 1 (y2.map (cL Span.cs)) true, .blk (b1 + 0) 25 [(vi f.Period), (vi f.Count), (vl (cL Span.cs) f.Core), (vl Granule.cs f.Odd)]]) ?_ ?_
   ·replace h := hj2
    apply Runs.inBlock
    obtain ⟨y3, hj3, h⟩ := bind_some h
    refine Runs.mono (Q := fun x e σ => ∃ (w6 : PV), x = .normal ∧ EnvHas e [(1, (.ptr (b1 + 0) 4 0)), (3, w6), (11, (vl (cL Span.cs) f.Core)), (12, (vi (f.Core.length : Int))), (13, (vi s2.1))] ∧ Hs σ [.sl w6 41 1 (y3.map (cL Span.cs)) true, .blk (b1 + 0) 25 [(vi f.Period), (vi f.Count), (vl (cL Span.cs) f.Core), (vl Granule.cs f.Odd)]]) ?_ ?_
    ·replace h := hj3
     apply Runs.then
     refine Runs.regionH 3 rfl H ?_; intro b5 σ H
     obtain ⟨x1, q1, h⟩ := bind_some h
     refine Ops.indexP (c := (cL Span.cs)) (u := x1) rfl rfl q1 rfl rfl rfl rfl ?_
     refine Ops.loadP (u := (.sl (x1.map Span.cs))) rfl rfl rfl rfl ?_
     refine Ops.assign (v := (vl Span.cs x1)) rfl rfl ?_
     apply Ops.nil
     replace H := H.all
     apply Runs.then
     refine Runs.regionH 3 rfl H ?_; intro b6 σ H
     refine Ops.move (v := (vl Span.cs x1)) rfl rfl ?_
     refine Ops.lenPt (c := Span.cs) (xs := x1) rfl rfl rfl ?_
     refine Ops.int (m := (x1.length : Int)) (m' := 0) (r := .bool (decide ((x1.length : Int) > 0))) rfl rfl rfl rfl rfl ?_
     apply Ops.nil
     replace H := H.all
     refine Runs.whether (v := (decide ((x1.length : Int) > 0))) rfl ?_ ?_ <;> intro hc2
     ·replace h := cond_T hc2 h
      refine Runs.regionH 5 rfl H ?_; intro b7 σ H
      refine Ops.move (v := w3) rfl rfl ?_
      refine Ops.move (v := (vl Span.cs x1)) rfl rfl ?_
      refine Ops.buildS (sz := 1) ([x1].map (cL Span.cs)) H (by omega) (by omega) rfl rfl rfl rfl rfl rfl rfl rfl rfl ?_; intro σ H
      obtain ⟨x2, q2, h⟩ := bind_some h
      refine Ops.appendSt (c := (cL Span.cs)) (v := w3) (w := (.buf (b7 + 2) 1 1)) (xs := s2.2) (ys := [x1]) H (by omega) (by omega) 1 rfl rfl rfl (.s 0 rfl) q2 rfl rfl rfl rfl rfl nofun rfl ?_; intro w7 σ H
      refine Ops.assign (v := w7) rfl rfl ?_
      apply Ops.nil
      replace H := H.all
      replace h := Option.some.inj h; subst h
      exact ⟨w7, rfl, ⟨rfl, rfl, rfl, rfl, rfl, trivial⟩, (H.erase 0)⟩
     ·replace h := cond_F hc2 h
      apply Runs.skip
      replace h := Option.some.inj h; subst h
      exact ⟨w3, rfl, ⟨rfl, rfl, rfl, rfl, rfl, trivial⟩, H⟩
    ·rintro x e σ ⟨w8, rfl, he, H⟩
     obtain ⟨e, rfl⟩ := he.ex
     replace h := Option.some.inj h; subst h
     exact ⟨w8, rfl, ⟨rfl, rfl, rfl, rfl, rfl, trivial⟩, H⟩
   ·rintro x e σ ⟨w9, rfl, he, H⟩
    obtain ⟨e, rfl⟩ := he.ex
    refine Runs.regionH 2 rfl H ?_; intro b8 σ H
    refine Ops.int (m := s2.1) (m' := 1) (r := .int .i64 (w64 (s2.1 + 1))) rfl rfl rfl rfl rfl ?_
    refine Ops.move (v := (vi (w64 (s2.1 + 1)))) rfl rfl ?_
    apply Ops.nil
    replace H := H.all
    replace h := Option.some.inj h; subst h
    exact ⟨rfl, w9, ⟨rfl, rfl, rfl, rfl, rfl, trivial⟩, H⟩
  ·replace h := cond_F hc1 h
   apply Runs.exit
   replace h := Option.some.inj h; subst h
   exact ⟨nofun, ⟨w3, rfl, ⟨rfl, rfl, trivial⟩, H⟩⟩
 ·rintro x e σ ⟨w10, rfl, he, H⟩
  obtain ⟨e, rfl⟩ := he.ex
  apply Runs.then
  apply Runs.then
  refine Runs.regionH 3 rfl H ?_; intro b9 σ H
  refine Ops.move (v := w10) rfl rfl ?_
  refine Ops.lenSt (c := (cL Span.cs)) (xs := y1) H 0 rfl rfl rfl nofun rfl ?_
  refine Ops.move (v := (vi 0)) rfl rfl ?_
  apply Ops.nil
  replace H := H.all
  apply Runs.inBlock
  obtain ⟨y4, hj4, h⟩ := bind_some h
  obtain ⟨n2, hj4⟩ := loopO_iff.1 hj4
  refine Runs.mono (Runs.loopO hj4 (fun s3 e σ => EnvHas e [(1, (.ptr (b1 + 0) 4 0)), (3, w10), (25, w10), (26, (vi (y1.length : Int))), (27, (vi s3))] ∧ Hs σ [.sl w10 41 1 (y1.map (cL Span.cs)) true, .blk (b1 + 0) 25 [(vi f.Period), (vi f.Count), (vl (cL Span.cs) f.Core), (vl Granule.cs f.Odd)]]) (fun y4 x e σ => (∃ a1, y4 = (.go a1) ∧ x = .exit 2 ∧ EnvHas e [] ∧ Hs σ []) ∨ (∃ r', y4 = (.ret r') ∧ x = .ret ∧ Ends CX Try.f50.results.toList (vb r') x e σ)) ⟨⟨rfl, rfl, rfl, rfl, rfl, trivial⟩, H⟩ ?_) ?_
  ·intro s3 e σ hI z h
   obtain ⟨he, H⟩ := hI
   obtain ⟨e, rfl⟩ := he.ex
   unfold gran_turns.s1 at h
   apply Runs.then
   refine Runs.regionH 1 rfl H ?_; intro b10 σ H
   refine Ops.int (m := s3) (m' := (y1.length : Int)) (r := .bool (decide (s3 < (y1.length : Int)))) rfl rfl rfl rfl rfl ?_
   apply Ops.nil
   replace H := H.all
   apply Runs.then
   refine Runs.whether (v := (decide (s3 < (y1.length : Int)))) rfl ?_ ?_ <;> intro hc3
   ·replace h := cond_T hc3 h
    apply Runs.skip
    apply Runs.then
    obtain ⟨y5, hj5, h⟩ := bind_some h
    refine Runs.mono (Q := fun x e σ => (∃ a2, y5 = (.go a2) ∧ x = .normal ∧ EnvHas e [(1, (.ptr (b1 + 0) 4 0)), (3, w10), (25, w10), (26, (vi (y1.length : Int))), (27, (vi s3))] ∧ Hs σ [.sl w10 41 1 (y1.map (cL Span.cs)) true, .blk (b1 + 0) 25 [(vi f.Period), (vi f.Count), (vl (cL Span.cs) f.Core), (vl Granule.cs f.Odd)]]) ∨ (∃ r', y5 = (.ret r') ∧ x = .ret ∧ Ends CX Try.f50.results.toList (vb r') x e σ)) ?_ ?_
    ·replace h := hj5
     apply Runs.inBlock
     obtain ⟨y6, hj6, h⟩ := bind_some h
     refine Runs.mono (Q := fun x e σ => (∃ a3, y6 = (.go a3) ∧ x = .normal ∧ EnvHas e [(1, (.ptr (b1 + 0) 4 0)), (3, w10), (25, w10), (26, (vi (y1.length : Int))), (27, (vi s3))] ∧ Hs σ [.sl w10 41 1 (y1.map (cL Span.cs)) true, .blk (b1 + 0) 25 [(vi f.Period), (vi f.Count), (vl (cL Span.cs) f.Core), (vl Granule.cs f.Odd)]]) ∨ (∃ r', y6 = (.ret r') ∧ x = .ret ∧ Ends CX Try.f50.results.toList (vb r') x e σ)) ?_ ?_
     ·replace h := hj6
      apply Runs.then
      refine Runs.regionH 5 rfl H ?_; intro b11 σ H
      refine Ops.move (v := (vi s3)) rfl rfl ?_
      obtain ⟨x3, q3, h⟩ := bind_some h
      refine Ops.indexS H 0 rfl rfl rfl (at?_map q3) rfl rfl nofun rfl ?_; intro id1 hv1
      refine Ops.loadS (id := id1) (j := 0) (w := (.sl (x3.map Span.cs))) H 0 rfl hv1 (by simp) (at?_map q3) rfl (by simp) rfl rfl rfl nofun rfl ?_
      refine Ops.assign (v := (vi s3)) rfl rfl ?_
      refine Ops.assign (v := (vl Span.cs x3)) rfl rfl ?_
      apply Ops.nil
      replace H := H.all
      apply Runs.then
      refine Runs.regionH 10 rfl H ?_; intro b12 σ H
      refine Ops.move (v := w10) rfl rfl ?_
      refine Ops.move (v := (vi s3)) rfl rfl ?_
      refine Ops.int (m := s3) (m' := 1) (r := .int .i64 (w64 (s3 + 1))) rfl rfl rfl rfl rfl ?_
      refine Ops.move (v := w10) rfl rfl ?_
      refine Ops.lenSt (c := (cL Span.cs)) (xs := y1) H 0 rfl rfl rfl nofun rfl ?_
      obtain ⟨u1, q4, h⟩ := bind_some h
      refine Ops.rem (m := (w64 (s3 + 1))) (m' := (y1.length : Int)) rfl rfl (nz_ne q4) rfl ?_
      obtain ⟨x4, q5, h⟩ := bind_some h
      refine Ops.indexS H 0 rfl rfl rfl (at?_map q5) rfl rfl nofun rfl ?_; intro id2 hv2
      refine Ops.loadS (id := id2) (j := 0) (w := (.sl (x4.map Span.cs))) H 0 rfl hv2 (by simp) (at?_map q5) rfl (by simp) rfl rfl rfl nofun rfl ?_
      refine Ops.assign (v := (vl Span.cs x4)) rfl rfl ?_
      refine Ops.assign (v := (vi 0)) rfl rfl ?_
      apply Ops.nil
      replace H := H.all
      apply Runs.then
      obtain ⟨y7, hj7, h⟩ := bind_some h
      refine Runs.mono (Q := fun x e σ => x = .normal ∧ EnvHas e [(1, (.ptr (b1 + 0) 4 0)), (3, w10), (7, (vl Span.cs x3)), (8, (vl Span.cs x4)), (9, (vi y7)), (25, w10), (26, (vi (y1.length : Int))), (27, (vi s3))] ∧ Hs σ [.sl w10 41 1 (y1.map (cL Span.cs)) true, .blk (b1 + 0) 25 [(vi f.Period), (vi f.Count), (vl (cL Span.cs) f.Core), (vl Granule.cs f.Odd)]]) ?_ ?_
      ·replace h := hj7
       apply Runs.then
       refine Runs.regionH 5 rfl H ?_; intro b13 σ H
       refine Ops.move (v := (vi s3)) rfl rfl ?_
       refine Ops.int (m := s3) (m' := 1) (r := .int .i64 (w64 (s3 + 1))) rfl rfl rfl rfl rfl ?_
       refine Ops.move (v := w10) rfl rfl ?_
       refine Ops.lenSt (c := (cL Span.cs)) (xs := y1) H 0 rfl rfl rfl nofun rfl ?_
       refine Ops.int (m := (w64 (s3 + 1))) (m' := (y1.length : Int)) (r := .bool ((w64 (s3 + 1)) == (y1.length : Int))) rfl rfl rfl rfl rfl ?_
       apply Ops.nil
       replace H := H.all
       refine Runs.whether (v := ((w64 (s3 + 1)) == (y1.length : Int))) rfl ?_ ?_ <;> intro hc4
       ·replace h := cond_T hc4 h
        refine Runs.regionH 3 rfl H ?_; intro b14 σ H
        refine Ops.fieldAddrH (off := 0) (fo := 0) H 1 rfl rfl rfl rfl rfl nofun rfl ?_
        refine Ops.loadH (off := 0) (v := (vi f.Period)) H 1 rfl rfl rfl rfl rfl nofun rfl ?_
        refine Ops.assign (v := (vi f.Period)) rfl rfl ?_
        apply Ops.nil
        replace H := H.all
        replace h := Option.some.inj h; subst h
        exact ⟨rfl, ⟨rfl, rfl, rfl, rfl, rfl, rfl, rfl, rfl, trivial⟩, H⟩
       ·replace h := cond_F hc4 h
        apply Runs.skip
        replace h := Option.some.inj h; subst h
        exact ⟨rfl, ⟨rfl, rfl, rfl, rfl, rfl, rfl, rfl, rfl, trivial⟩, H⟩
      ·rintro x e σ ⟨rfl, he, H⟩
       obtain ⟨e, rfl⟩ := he.ex
       apply Runs.then
       refine Runs.drawnH 14 rfl (by kernel_rfl) H ?_; intro b15 σ H B15
       refine Ops.move (v := (vl Span.cs x3)) rfl rfl ?_
       refine Ops.move (v := (vl Span.cs x3)) rfl rfl ?_
       refine Ops.lenPt (c := Span.cs) (xs := x3) rfl rfl rfl ?_
       refine Ops.int (m := (x3.length : Int)) (m' := 1) (r := .int .i64 (w64 ((x3.length : Int) - 1))) rfl rfl rfl rfl rfl ?_
       obtain ⟨x5, q6, h⟩ := bind_some h
       refine Ops.indexP (c := Span.cs) (u := x5) rfl rfl q6 rfl rfl rfl rfl ?_
       refine Ops.fieldAddrP rfl rfl rfl rfl ?_
       refine Ops.loadP (u := (.int .i64 x5.To)) rfl rfl rfl rfl ?_
       refine Ops.move (v := (vl Span.cs x4)) rfl rfl ?_
       obtain ⟨x6, q7, h⟩ := bind_some h
       refine Ops.indexP (c := Span.cs) (u := x6) rfl rfl q7 rfl rfl rfl rfl ?_
       refine Ops.fieldAddrP rfl rfl rfl rfl ?_
       refine Ops.loadP (u := (.int .i64 x6.From)) rfl rfl rfl rfl ?_
       refine Ops.move (v := (vi y7)) rfl rfl ?_
       refine Ops.int (m := x6.From) (m' := y7) (r := .int .i64 (w64 (x6.From + y7))) rfl rfl rfl rfl rfl ?_
       refine Ops.int (m := x5.To) (m' := (w64 (x6.From + y7))) (r := .bool (decide (x5.To ≥ (w64 (x6.From + y7))))) rfl rfl rfl rfl rfl ?_
       apply Ops.nil
       replace H := H.all
       refine Runs.whether (v := (decide (x5.To ≥ (w64 (x6.From + y7))))) rfl ?_ ?_ <;> intro hc5
       ·replace h := cond_T hc5 h
        apply Runs.then
        refine Runs.regionH 1 rfl H ?_; intro b16 σ H
        refine Ops.assign (v := (vb false)) rfl rfl ?_
        apply Ops.nil
        replace H := H.all
        apply Runs.ret
        replace h := Option.some.inj h; subst h
        exact (.inr ⟨_, rfl, rfl, (Ends.H (xs := [(vb false)]) (.inr rfl) H (.tmp (v := (vb false)) rfl .nil) (.one (.c (.v _))))⟩)
       ·replace h := cond_F hc5 h
        apply Runs.skip
        replace h := Option.some.inj h; subst h
        exact (.inl ⟨_, rfl, rfl, ⟨rfl, rfl, rfl, rfl, rfl, trivial⟩, H⟩)
     ·rintro x e σ (⟨a4, rfl, rfl, he, H⟩ | ⟨r', rfl, rfl, hE⟩)
      ·skip
       replace h := jgo h
       obtain ⟨e, rfl⟩ := he.ex
       replace h := Option.some.inj h; subst h
       exact (.inl ⟨_, rfl, rfl, ⟨rfl, rfl, rfl, rfl, rfl, trivial⟩, H⟩)
      ·skip
       replace h := jret h
       replace h := Option.some.inj h; subst h
       exact (.inr ⟨_, rfl, rfl, hE⟩)
    ·rintro x e σ (⟨a5, rfl, rfl, he, H⟩ | ⟨r', rfl, rfl, hE⟩)
     ·skip
      replace h := jgo h
      obtain ⟨e, rfl⟩ := he.ex
      refine Runs.regionH 2 rfl H ?_; intro b17 σ H
      refine Ops.int (m := s3) (m' := 1) (r := .int .i64 (w64 (s3 + 1))) rfl rfl rfl rfl rfl ?_
      refine Ops.move (v := (vi (w64 (s3 + 1)))) rfl rfl ?_
      apply Ops.nil
      replace H := H.all
      replace h := Option.some.inj h; subst h
      exact ⟨rfl, ⟨rfl, rfl, rfl, rfl, rfl, trivial⟩, H⟩
     ·skip
      replace h := jret h
      replace h := Option.some.inj h; subst h
      exact ⟨nofun, (.inr ⟨_, rfl, rfl, hE⟩)⟩
   ·replace h := cond_F hc3 h
    apply Runs.exit
    replace h := Option.some.inj h; subst h
    exact ⟨nofun, (.inl ⟨_, rfl, rfl, trivial, ((H.erase 1).erase 0)⟩)⟩
  ·rintro x e σ (⟨a6, rfl, rfl, he, H⟩ | ⟨r', rfl, rfl, hE⟩)
   ·skip
    replace h := jgo h
    obtain ⟨e, rfl⟩ := he.ex
    apply Runs.then
    refine Runs.regionH 1 rfl H ?_; intro b18 σ H
    refine Ops.assign (v := (vb true)) rfl rfl ?_
    apply Ops.nil
    replace H := H.all
    apply Runs.ret
    replace h := Option.some.inj h; subst h
    exact (Ends.H (xs := [(vb true)]) (.inr rfl) H (.tmp (v := (vb true)) rfl .nil) (.one (.c (.v _))))
   ·skip
    replace h := jret h
    replace h := Option.some.inj h; subst h
    exact hE

set_option maxRecDepth 100000 in
set_option maxHeartbeats 4000000 in
theorem slices_BinarySearchFunc_SGranule_Granule_int_fn {x' : (List Granule)} {target : Int} {cmp : Granule → Int → Option Int} {C : List Res} {cv0 : PV} (hs0 : cv0.still = true) (hp0 : cv0.pure = true → C = []) (hf0 : ∀ z0 z1 y, cmp z0 z1 = some y → CloH CX cv0 [(.agg (vs (Granule.cs z0))), (vi z1)] (vi y) C) {r : Int × Bool} (h : slices_BinarySearchFunc_SGranule_Granule_int x' target cmp = some r) : FnH CX 106 [(vl Granule.cs x'), (vi target), cv0] (.tup [(vi r.1), (vb r.2)]) C := by
 refine FnH.of Try.func106 rfl rfl rfl rfl (all_t rfl (all_t rfl (all_t hs0 all_nil))) rfl (fun h => hp0 (all_get h 2 rfl)) ?_
 intro σ L hC H
 unfold slices_BinarySearchFunc_SGranule_Granule_int at h
 apply Runs.then
 refine Runs.regionH 2 rfl H ?_; intro b1 σ H
 refine Ops.assign (v := (vi 0)) rfl rfl ?_
 refine Ops.assign (v := (vb false)) rfl rfl ?_
 apply Ops.nil
 replace H := H.all
 apply Runs.then
 refine Runs.regionH 3 rfl H ?_; intro b2 σ H
 refine Ops.move (v := (vl Granule.cs x')) rfl rfl ?_
 refine Ops.lenPt (c := Granule.cs) (xs := x') rfl rfl rfl ?_
 refine Ops.assign (v := (vi (x'.length : Int))) rfl rfl ?_
 apply Ops.nil
 replace H := H.all
 apply Runs.then
 refine Runs.regionH 3 rfl H ?_; intro b3 σ H
 refine Ops.move (v := (vi (x'.length : Int))) rfl rfl ?_
 refine Ops.assign (v := (vi 0)) rfl rfl ?_
 refine Ops.assign (v := (vi (x'.length : Int))) rfl rfl ?_
 apply Ops.nil
 replace H := H.all
 apply Runs.then
 apply Runs.inBlock
 obtain ⟨y1, hj1, h⟩ := bind_some h
 obtain ⟨n1, hj1⟩ := loopO_iff.1 hj1
 refine Runs.mono (Runs.loopO hj1 (fun s1 e σ => EnvHas e [(0, (vl Granule.cs x')), (1, (vi target)), (2, cv0), (8, (vi (x'.length : Int))), (9, (vi s1.1)), (10, (vi s1.2))] ∧ Hs σ (L)) (fun y1 x e σ => x = .exit 0 ∧ EnvHas e [(0, (vl Granule.cs x')), (1, (vi target)), (2, cv0), (8, (vi (x'.length : Int))), (9, (vi y1))] ∧ Hs σ (L)) ⟨⟨rfl, rfl, rfl, rfl, rfl, rfl, trivial⟩, H⟩ ?_) ?_
 ·intro s1 e σ hI z h
  obtain ⟨he, H⟩ := hI
  obtain ⟨e, rfl⟩ := he.ex
  unfold slices_BinarySearchFunc_SGranule_Granule_int.s0 at h
  apply Runs.then
  apply Runs.then
  refine Runs.regionH 3 rfl H ?_; intro b4 σ H
  refine Ops.move (v := (vi s1.1)) rfl rfl ?_
  refine Ops.move (v := (vi s1.2)) rfl rfl ?_
  refine Ops.int (m := s1.1) (m' := s1.2) (r := .bool (decide (s1.1 < s1.2))) rfl rfl rfl rfl rfl ?_
  apply Ops.nil
  replace H := H.all
  refine Runs.whether (v := (decide (s1.1 < s1.2))) rfl ?_ ?_ <;> intro hc1
  ·replace h := cond_T hc1 h
   apply Runs.skip
   apply Runs.inBlock
   obtain ⟨y2, hj2, h⟩ := bind_some h
   refine Runs.mono (Q := fun x e σ => x = .normal ∧ EnvHas e [(0, (vl Granule.cs x')), (1, (vi target)), (2, cv0), (8, (vi (x'.length : Int))), (9, (vi y2.1)), (10, (vi y2.2))] ∧ Hs σ (L)) ?_ ?_
   ·replace h := hj2
    apply Runs.then
    refine Runs.regionH 7 rfl H ?_; intro b5 σ H
    refine Ops.move (v := (vi s1.1)) rfl rfl ?_
    refine Ops.move (v := (vi s1.2)) rfl rfl ?_
    refine Ops.int (m := s1.1) (m' := s1.2) (r := .int .i64 (w64 (s1.1 + s1.2))) rfl rfl rfl rfl rfl ?_
    refine Ops.conv (m := (w64 (s1.1 + s1.2))) rfl rfl rfl rfl ?_
    refine Ops.shr (m := (IntKind.u64.wrap (w64 (s1.1 + s1.2)))) (m' := 1) rfl rfl (by decide) rfl ?_
    refine Ops.conv (m := ((IntKind.u64.wrap (w64 (s1.1 + s1.2))).fdiv (2 ^ 1))) rfl rfl rfl rfl ?_
    refine Ops.assign (v := (vi (w64 ((IntKind.u64.wrap (w64 (s1.1 + s1.2))).fdiv (2 ^ 1))))) rfl rfl ?_
    apply Ops.nil
    replace H := H.all
    apply Runs.then
    refine Runs.regionH 8 rfl H ?_; intro b6 σ H
    refine Ops.move (v := cv0) rfl rfl ?_
    refine Ops.move (v := (vl Granule.cs x')) rfl rfl ?_
    refine Ops.move (v := (vi (w64 ((IntKind.u64.wrap (w64 (s1.1 + s1.2))).fdiv (2 ^ 1))))) rfl rfl ?_
    obtain ⟨x1, q1, h⟩ := bind_some h
    refine Ops.indexP (c := Granule.cs) (u := x1) rfl rfl q1 rfl rfl rfl rfl ?_
    refine Ops.loadPA (cs := [(.int .i64 x1.Index), (.sl (x1.Ticks.map Span.cs))]) rfl rfl rfl rfl rfl rfl ?_
    refine Ops.move (v := (vi target)) rfl rfl ?_
    obtain ⟨x2, q2, h⟩ := bind_some h
    refine Ops.callV (cv := cv0) (ys := [(.agg (vs (Granule.cs x1))), (vi target)]) (r := (vi x2)) H rfl rfl (hf0 x1 target _ q2) hC nofun rfl ?_; intro σ H
    refine Ops.int (m := x2) (m' := 0) (r := .bool (decide (x2 < 0))) rfl rfl rfl rfl rfl ?_
    apply Ops.nil
    replace H := H.all
    refine Runs.whether (v := (decide (x2 < 0))) rfl ?_ ?_ <;> intro hc2
    ·replace h := cond_T hc2 h
     refine Runs.regionH 3 rfl H ?_; intro b7 σ H
     refine Ops.move (v := (vi (w64 ((IntKind.u64.wrap (w64 (s1.1 + s1.2))).fdiv (2 ^ 1))))) rfl rfl ?_
     refine Ops.int (m := (w64 ((IntKind.u64.wrap (w64 (s1.1 + s1.2))).fdiv (2 ^ 1)))) (m' := 1) (r := .int .i64 (w64 ((w64 ((IntKind.u64.wrap (w64 (s1.1 + s1.2))).fdiv (2 ^ 1))) + 1))) rfl rfl rfl rfl rfl ?_
     refine Ops.assign (v := (vi (w64 ((w64 ((IntKind.u64.wrap (w64 (s1.1 + s1.2))).fdiv (2 ^ 1))) + 1)))) rfl rfl ?_
     apply Ops.nil
     replace H := H.all
     replace h := Option.some.inj h; subst h
     exact ⟨rfl, ⟨rfl, rfl, rfl, rfl, rfl, rfl, trivial⟩, H⟩
    ·replace h := cond_F hc2 h
     refine Runs.regionH 2 rfl H ?_; intro b8 σ H
     refine Ops.move (v := (vi (w64 ((IntKind.u64.wrap (w64 (s1.1 + s1.2))).fdiv (2 ^ 1))))) rfl rfl ?_
     refine Ops.assign (v := (vi (w64 ((IntKind.u64.wrap (w64 (s1.1 + s1.2))).fdiv (2 ^ 1))))) rfl rfl ?_
     apply Ops.nil
     replace H := H.all
     replace h := Option.some.inj h; subst h
     exact ⟨rfl, ⟨rfl, rfl, rfl, rfl, rfl, rfl, trivial⟩, H⟩
   ·rintro x e σ ⟨rfl, he, H⟩
    obtain ⟨e, rfl⟩ := he.ex
    replace h := Option.some.inj h; subst h
    exact ⟨rfl, ⟨rfl, rfl, rfl, rfl, rfl, rfl, trivial⟩, H⟩
  ·replace h := cond_F hc1 h
   apply Runs.exit
   replace h := Option.some.inj h; subst h
   exact ⟨nofun, ⟨rfl, ⟨rfl, rfl, rfl, rfl, rfl, trivial⟩, H⟩⟩
 ·rintro x e σ ⟨rfl, he, H⟩
  obtain ⟨e, rfl⟩ := he.ex
  apply Runs.then
  refine Runs.regionH 16 rfl H ?_; intro b9 σ H
  refine Ops.move (v := (vi y1)) rfl rfl ?_
  refine Ops.move (v := (vi y1)) rfl rfl ?_
  refine Ops.move (v := (vi (x'.length : Int))) rfl rfl ?_
  refine Ops.int (m := y1) (m' := (x'.length : Int)) (r := .bool (decide (y1 < (x'.length : Int)))) rfl rfl rfl rfl rfl ?_
  refine Ops.move (v := (vb (decide (y1 < (x'.length : Int))))) rfl rfl ?_
  obtain ⟨y3, hj3, h⟩ := bind_some h
  refine Ops.mid 9 (K1 := fun e σ => EnvHas e [(48, (vb y3)), (35, (vi y1))] ∧ Has σ (b9 + 14) (b9 + 16) (L)) rfl ?_ ?_
  ·refine Ops.split rfl rfl ?_ ?_ <;> intro hc3
   ·replace h := cond_T hc3 hj3
    refine Ops.wanted rfl rfl ?_
    refine Ops.move (v := cv0) rfl rfl ?_
    refine Ops.wanted rfl rfl ?_
    refine Ops.move (v := (vl Granule.cs x')) rfl rfl ?_
    refine Ops.wanted rfl rfl ?_
    refine Ops.move (v := (vi y1)) rfl rfl ?_
    refine Ops.wanted rfl rfl ?_
    obtain ⟨x3, q3, h⟩ := bind_some h
    refine Ops.indexP (c := Granule.cs) (u := x3) rfl rfl q3 rfl rfl rfl rfl ?_
    refine Ops.wanted rfl rfl ?_
    refine Ops.loadPA (cs := [(.int .i64 x3.Index), (.sl (x3.Ticks.map Span.cs))]) rfl rfl rfl rfl rfl rfl ?_
    refine Ops.wanted rfl rfl ?_
    refine Ops.move (v := (vi target)) rfl rfl ?_
    refine Ops.wanted rfl rfl ?_
    obtain ⟨x4, q4, h⟩ := bind_some h
    refine Ops.callV (cv := cv0) (ys := [(.agg (vs (Granule.cs x3))), (vi target)]) (r := (vi x4)) H rfl rfl (hf0 x3 target _ q4) hC nofun rfl ?_; intro σ H
    refine Ops.wanted rfl rfl ?_
    refine Ops.int (m := x4) (m' := 0) (r := .bool (x4 == 0)) rfl rfl rfl rfl rfl ?_
    refine Ops.pickT (v := (vb (x4 == 0))) rfl rfl rfl ?_
    apply Ops.nil
    replace h := Option.some.inj h; subst h
    exact ⟨⟨rfl, rfl, trivial⟩, H.weak (by omega) (Nat.le_refl _)⟩
   ·replace h := cond_F hc3 hj3
    refine Ops.pass rfl rfl rfl ?_
    refine Ops.pass rfl rfl rfl ?_
    refine Ops.pass rfl rfl rfl ?_
    refine Ops.pass rfl rfl rfl ?_
    refine Ops.pass rfl rfl rfl ?_
    refine Ops.pass rfl rfl rfl ?_
    refine Ops.pass rfl rfl rfl ?_
    refine Ops.pass rfl rfl rfl ?_
    refine Ops.pickF (v := (vb false)) rfl rfl rfl ?_
    apply Ops.nil
    replace h := Option.some.inj h; subst h
    exact ⟨⟨rfl, rfl, trivial⟩, H.weak (by omega) (Nat.le_refl _)⟩
  ·rintro e σ ⟨he, H⟩
   obtain ⟨e, rfl⟩ := he.ex
   refine Ops.assign (v := (vi y1)) rfl rfl ?_
   refine Ops.assign (v := (vb y3)) rfl rfl ?_
   apply Ops.nil
   replace H := H.all
   apply Runs.ret
   replace h := Option.some.inj h; subst h
   exact (EndsH.H (xs := [(vi y1), (vb y3)]) (.inr rfl) H (.tmp (v := (vi y1)) rfl (.tmp (v := (vb y3)) rfl .nil)) (.two (.cons (.c (.v _)) (.cons (.c (.v _)) .nil))) 0 rfl)

set_option maxRecDepth 100000 in
set_option maxHeartbeats 4000000 in
theorem cmp_isNaN_int_fn {x' : Int} {r : Bool} (h : cmp_isNaN_int x' = r) : Fn CX 129 [(vi x')] (vb r) := by
 refine Fn.ends Try.func129 rfl rfl rfl rfl rfl rfl ?_
 have H : Hs (⟨0, fun _ => .none⟩ : Heap) [] := Has.nil (Nat.le_refl _)
 generalize (⟨0, fun _ => .none⟩ : Heap) = σ at H ⊢
 unfold cmp_isNaN_int at h
 apply Runs.then
 refine Runs.regionH 1 rfl H ?_; intro b1 σ H
 refine Ops.assign (v := (vb false)) rfl rfl ?_
 apply Ops.nil
 replace H := H.all
 apply Runs.then
 refine Runs.regionH 4 rfl H ?_; intro b2 σ H
 refine Ops.move (v := (vi x')) rfl rfl ?_
 refine Ops.move (v := (vi x')) rfl rfl ?_
 refine Ops.int (m := x') (m' := x') (r := .bool (x' != x')) rfl rfl rfl rfl rfl ?_
 refine Ops.assign (v := (vb (x' != x'))) rfl rfl ?_
 apply Ops.nil
 replace H := H.all
 apply Runs.ret
 subst h
 exact (Ends.H (xs := [(vb (x' != x'))]) (.inr rfl) H (.tmp (v := (vb (x' != x'))) rfl .nil) (.one (.c (.v _))))

set_option maxRecDepth 100000 in
set_option maxHeartbeats 4000000 in
theorem cmp_Compare_int_fn {x' : Int} {y : Int} {r : Int} (h : cmp_Compare_int x' y = r) : Fn CX 108 [(vi x'), (vi y)] (vi r) := by
 refine Fn.ends Try.func108 rfl rfl rfl rfl rfl rfl ?_
 have H : Hs (⟨0, fun _ => .none⟩ : Heap) [] := Has.nil (Nat.le_refl _)
 generalize (⟨0, fun _ => .none⟩ : Heap) = σ at H ⊢
 unfold cmp_Compare_int at h
 apply Runs.then
 refine Runs.regionH 1 rfl H ?_; intro b1 σ H
 refine Ops.assign (v := (vi 0)) rfl rfl ?_
 apply Ops.nil
 replace H := H.all
 apply Runs.then
 refine Runs.regionH 3 rfl H ?_; intro b2 σ H
 refine Ops.move (v := (vi x')) rfl rfl ?_
 refine Ops.call (ys := [(vi x')]) (r := (vb (cmp_isNaN_int x'))) rfl (cmp_isNaN_int_fn rfl) rfl ?_
 refine Ops.assign (v := (vb (cmp_isNaN_int x'))) rfl rfl ?_
 apply Ops.nil
 replace H := H.all
 apply Runs.then
 refine Runs.regionH 3 rfl H ?_; intro b3 σ H
 refine Ops.move (v := (vi y)) rfl rfl ?_
 refine Ops.call (ys := [(vi y)]) (r := (vb (cmp_isNaN_int y))) rfl (cmp_isNaN_int_fn rfl) rfl ?_
 refine Ops.assign (v := (vb (cmp_isNaN_int y))) rfl rfl ?_
 apply Ops.nil
 replace H := H.all
 apply Runs.then
 apply Runs.then
 refine Runs.regionH 1 rfl H ?_; intro b4 σ H
 refine Ops.move (v := (vb (cmp_isNaN_int x'))) rfl rfl ?_
 apply Ops.nil
 replace H := H.all
 refine Runs.whether (v := (cmp_isNaN_int x')) rfl ?_ ?_ <;> intro hc1
 ·replace h := cond_T hc1 h
  apply Runs.then
  apply Runs.then
  refine Runs.regionH 1 rfl H ?_; intro b5 σ H
  refine Ops.move (v := (vb (cmp_isNaN_int y))) rfl rfl ?_
  apply Ops.nil
  replace H := H.all
  refine Runs.whether (v := (cmp_isNaN_int y)) rfl ?_ ?_ <;> intro hc2
  ·replace h := cond_T hc2 h
   apply Runs.then
   refine Runs.regionH 1 rfl H ?_; intro b6 σ H
   refine Ops.assign (v := (vi 0)) rfl rfl ?_
   apply Ops.nil
   replace H := H.all
   apply Runs.ret
   subst h
   exact (Ends.H (xs := [(vi 0)]) (.inr rfl) H (.tmp (v := (vi 0)) rfl .nil) (.one (.c (.v _))))
  ·replace h := cond_F hc2 h
   apply Runs.skip
   apply Runs.then
   refine Runs.regionH 1 rfl H ?_; intro b7 σ H
   refine Ops.assign (v := (vi (-1))) rfl rfl ?_
   apply Ops.nil
   replace H := H.all
   apply Runs.ret
   subst h
   exact (Ends.H (xs := [(vi (-1))]) (.inr rfl) H (.tmp (v := (vi (-1))) rfl .nil) (.one (.c (.v _))))
 ·replace h := cond_F hc1 h
  apply Runs.skip
  apply Runs.then
  apply Runs.then
  refine Runs.regionH 1 rfl H ?_; intro b8 σ H
  refine Ops.move (v := (vb (cmp_isNaN_int y))) rfl rfl ?_
  apply Ops.nil
  replace H := H.all
  refine Runs.whether (v := (cmp_isNaN_int y)) rfl ?_ ?_ <;> intro hc3
  ·replace h := cond_T hc3 h
   apply Runs.then
   refine Runs.regionH 1 rfl H ?_; intro b9 σ H
   refine Ops.assign (v := (vi 1)) rfl rfl ?_
   apply Ops.nil
   replace H := H.all
   apply Runs.ret
   subst h
   exact (Ends.H (xs := [(vi 1)]) (.inr rfl) H (.tmp (v := (vi 1)) rfl .nil) (.one (.c (.v _))))
  ·replace h := cond_F hc3 h
   apply Runs.skip
   apply Runs.then
   apply Runs.then
   refine Runs.regionH 3 rfl H ?_; intro b10 σ H
   refine Ops.move (v := (vi x')) rfl rfl ?_
   refine Ops.move (v := (vi y)) rfl rfl ?_
   refine Ops.int (m := x') (m' := y) (r := .bool (decide (x' < y))) rfl rfl rfl rfl rfl ?_
   apply Ops.nil
   replace H := H.all
   refine Runs.whether (v := (decide (x' < y))) rfl ?_ ?_ <;> intro hc4
   ·replace h := cond_T hc4 h
    apply Runs.then
    refine Runs.regionH 1 rfl H ?_; intro b11 σ H
    refine Ops.assign (v := (vi (-1))) rfl rfl ?_
    apply Ops.nil
    replace H := H.all
    apply Runs.ret
    subst h
    exact (Ends.H (xs := [(vi (-1))]) (.inr rfl) H (.tmp (v := (vi (-1))) rfl .nil) (.one (.c (.v _))))
   ·replace h := cond_F hc4 h
    apply Runs.skip
    apply Runs.then
    apply Runs.then
    refine Runs.regionH 3 rfl H ?_; intro b12 σ H
    refine Ops.move (v := (vi x')) rfl rfl ?_
    refine Ops.move (v := (vi y)) rfl rfl ?_
    refine Ops.int (m := x') (m' := y) (r := .bool (decide (x' > y))) rfl rfl rfl rfl rfl ?_
    apply Ops.nil
    replace H := H.all
    refine Runs.whether (v := (decide (x' > y))) rfl ?_ ?_ <;> intro hc5
    ·replace h := cond_T hc5 h
     apply Runs.then
     refine Runs.regionH 1 rfl H ?_; intro b13 σ H
     refine Ops.assign (v := (vi 1)) rfl rfl ?_
     apply Ops.nil
     replace H := H.all
     apply Runs.ret
     subst h
     exact (Ends.H (xs := [(vi 1)]) (.inr rfl) H (.tmp (v := (vi 1)) rfl .nil) (.one (.c (.v _))))
    ·replace h := cond_F hc5 h
     apply Runs.skip
     apply Runs.then
     refine Runs.regionH 1 rfl H ?_; intro b14 σ H
     refine Ops.assign (v := (vi 0)) rfl rfl ?_
     apply Ops.nil
     replace H := H.all
     apply Runs.ret
     subst h
     exact (Ends.H (xs := [(vi 0)]) (.inr rfl) H (.tmp (v := (vi 0)) rfl .nil) (.one (.c (.v _))))

set_option maxRecDepth 100000 in
set_option maxHeartbeats 4000000 in
theorem gran_odd_1_fn {g : Granule} {i : Int} {r : Int} (h : gran_odd_1 g i = r) : Fn CX 107 [(.agg (vs (Granule.cs g))), (vi i)] (vi r) := by
 refine Fn.ends Try.func107 rfl rfl rfl rfl rfl rfl ?_
 have H : Hs (⟨0, fun _ => .none⟩ : Heap) [] := Has.nil (Nat.le_refl _)
 generalize (⟨0, fun _ => .none⟩ : Heap) = σ at H ⊢
 unfold gran_odd_1 at h
 apply Runs.then
 refine Runs.regionH 2 rfl H ?_; intro b1 σ H
 refine Ops.boxH (v := (.agg [(vi g.Index), (vl Span.cs g.Ticks)])) (cs := [(vi g.Index), (vl Span.cs g.Ticks)]) H (by omega) (by omega) rfl rfl rfl ?_; intro σ H
 refine Ops.assign (v := (vi 0)) rfl rfl ?_
 apply Ops.nil
 replace H := H.all
 apply Runs.then
 refine Runs.regionH 5 rfl H ?_; intro b2 σ H
 refine Ops.fieldAddrH (off := 0) (fo := 0) H 0 rfl rfl rfl rfl rfl nofun rfl ?_
 refine Ops.loadH (off := 0) (v := (vi g.Index)) H 0 rfl rfl rfl rfl rfl nofun rfl ?_
 refine Ops.move (v := (vi i)) rfl rfl ?_
 refine Ops.call (ys := [(vi g.Index), (vi i)]) (r := (vi (cmp_Compare_int g.Index i))) rfl (cmp_Compare_int_fn rfl) rfl ?_
 refine Ops.assign (v := (vi (cmp_Compare_int g.Index i))) rfl rfl ?_
 apply Ops.nil
 replace H := H.all
 apply Runs.ret
 subst h
 exact (Ends.H (xs := [(vi (cmp_Compare_int g.Index i))]) (.inr rfl) H (.tmp (v := (vi (cmp_Compare_int g.Index i))) rfl .nil) (.one (.c (.v _))))

set_option maxRecDepth 100000 in
set_option maxHeartbeats 4000000 in
theorem gran_odd_fn {f : Form} {i : Int} {r : Int × Bool} (h : gran_odd f i = some r) : Fn CX 81 [(.agg (vs (Form.cs f))), (vi i)] (.tup [(vi r.1), (vb r.2)]) := by
 refine Fn.ends Try.func81 rfl rfl rfl rfl rfl rfl ?_
 have H : Hs (⟨0, fun _ => .none⟩ : Heap) [] := Has.nil (Nat.le_refl _)
 generalize (⟨0, fun _ => .none⟩ : Heap) = σ at H ⊢
 unfold gran_odd at h
 apply Runs.then
 refine Runs.regionH 3 rfl H ?_; intro b1 σ H
 refine Ops.boxH (v := (.agg [(vi f.Period), (vi f.Count), (vl (cL Span.cs) f.Core), (vl Granule.cs f.Odd)])) (cs := [(vi f.Period), (vi f.Count), (vl (cL Span.cs) f.Core), (vl Granule.cs f.Odd)]) H (by omega) (by omega) rfl rfl rfl ?_; intro σ H
 refine Ops.assign (v := (vi 0)) rfl rfl ?_
 refine Ops.assign (v := (vb false)) rfl rfl ?_
 apply Ops.nil
 replace H := H.all
 apply Runs.then
 refine Runs.regionH 8 rfl H ?_; intro b2 σ H
 refine Ops.fieldAddrH (off := 0) (fo := 3) H 0 rfl rfl rfl rfl rfl nofun rfl ?_
 refine Ops.loadH (off := 3) (v := (vl Granule.cs f.Odd)) H 0 rfl rfl rfl rfl rfl nofun rfl ?_
 refine Ops.move (v := (vi i)) rfl rfl ?_
 obtain ⟨x1, q1, h⟩ := bind_some h
 refine Ops.callH (ys := [(vl Granule.cs f.Odd), (vi i), (.v (.fn 107))]) (r := (.tup [(vi x1.1), (vb x1.2)])) H rfl (slices_BinarySearchFunc_SGranule_Granule_int_fn (C := []) rfl (fun _ => rfl) (fun z0 z1 y hz => (CloH.fn (Fn.toH (gran_odd_1_fn (Option.some.inj hz)) _))) q1) .nil nofun rfl ?_; intro σ H
 refine Ops.extract (v := (vi x1.1)) rfl rfl rfl ?_
 refine Ops.extract (v := (vb x1.2)) rfl rfl rfl ?_
 refine Ops.assign (v := (vi x1.1)) rfl rfl ?_
 refine Ops.assign (v := (vb x1.2)) rfl rfl ?_
 apply Ops.nil
 replace H := H.all
 apply Runs.ret
 replace h := Option.some.inj h; subst h
 exact (Ends.H (xs := [(vi x1.1), (vb x1.2)]) (.inr rfl) H (.tmp (v := (vi x1.1)) rfl (.tmp (v := (vb x1.2)) rfl .nil)) (.two (.cons (.c (.v _)) (.cons (.c (.v _)) .nil))))

set_option maxRecDepth 100000 in
set_option maxHeartbeats 4000000 in
theorem safe_Floor_fn {a : Int} {b : Int} {r : Int × Int × Int} (h : safe_Floor a b = some r) : Fn CX 77 [(vi a), (vi b)] (.tup [(vi r.1), (vi r.2.1), (vi r.2.2)]) := by
 refine Fn.ends Try.func77 rfl rfl rfl rfl rfl rfl ?_
 have H : Hs (⟨0, fun _ => .none⟩ : Heap) [] := Has.nil (Nat.le_refl _)
 generalize (⟨0, fun _ => .none⟩ : Heap) = σ at H ⊢
 unfold safe_Floor at h
 apply Runs.then
 refine Runs.regionH 3 rfl H ?_; intro b1 σ H
 refine Ops.assign (v := (vi 0)) rfl rfl ?_
 refine Ops.assign (v := (vi 0)) rfl rfl ?_
 refine Ops.assign (v := (vi 0)) rfl rfl ?_
 apply Ops.nil
 replace H := H.all
 apply Runs.then
 apply Runs.inBlock
 apply Runs.then
 refine Runs.regionH 3 rfl H ?_; intro b2 σ H
 refine Ops.move (v := (vi b)) rfl rfl ?_
 refine Ops.int (m := b) (m' := 0) (r := .bool (b == 0)) rfl rfl rfl rfl rfl ?_
 refine Ops.assign (v := (vb (b == 0))) rfl rfl ?_
 apply Ops.nil
 replace H := H.all
 refine Runs.whether (v := (b == 0)) rfl ?_ ?_ <;> intro hc1
 ·replace h := cond_T hc1 h
  apply Runs.then
  refine Runs.regionH 3 rfl H ?_; intro b3 σ H
  refine Ops.assign (v := (vi 0)) rfl rfl ?_
  refine Ops.assign (v := (vi 0)) rfl rfl ?_
  refine Ops.assign (v := (vi 11)) rfl rfl ?_
  apply Ops.nil
  replace H := H.all
  apply Runs.ret
  replace h := Option.some.inj h; subst h
  exact (Ends.H (xs := [(vi 0), (vi 0), (vi 11)]) (.inr rfl) H (.tmp (v := (vi 0)) rfl (.tmp (v := (vi 0)) rfl (.tmp (v := (vi 11)) rfl .nil))) (.two (.cons (.c (.v _)) (.cons (.c (.v _)) (.cons (.c (.v _)) .nil)))))
 ·replace h := cond_F hc1 h
  apply Runs.then
  refine Runs.regionH 7 rfl H ?_; intro b4 σ H
  refine Ops.move (v := (vi b)) rfl rfl ?_
  refine Ops.int (m := b) (m' := (-1)) (r := .bool (b == (-1))) rfl rfl rfl rfl rfl ?_
  refine Ops.move (v := (vb (b == (-1)))) rfl rfl ?_
  refine Ops.mid 3 (K1 := fun e σ => EnvHas e [(18, (vb ((b == (-1)) && (a == (-9223372036854775808))))), (0, (vi a)), (1, (vi b))] ∧ Has σ (b4 + 6) (b4 + 7) []) rfl ?_ ?_
  ·refine Ops.split rfl rfl ?_ ?_ <;> intro hc2
   ·skip
    refine Ops.wanted rfl rfl ?_
    refine Ops.move (v := (vi a)) rfl rfl ?_
    refine Ops.wanted rfl rfl ?_
    refine Ops.int (m := a) (m' := (-9223372036854775808)) (r := .bool (a == (-9223372036854775808))) rfl rfl rfl rfl rfl ?_
    refine Ops.pickT (v := (vb (a == (-9223372036854775808)))) rfl rfl rfl ?_
    apply Ops.nil
    exact ⟨⟨and_T hc2, rfl, rfl, trivial⟩, H.weak (by omega) (Nat.le_refl _)⟩
   ·skip
    refine Ops.pass rfl rfl rfl ?_
    refine Ops.pass rfl rfl rfl ?_
    refine Ops.pickF (v := (vb false)) rfl rfl rfl ?_
    apply Ops.nil
    exact ⟨⟨and_F hc2, rfl, rfl, trivial⟩, H.weak (by omega) (Nat.le_refl _)⟩
  ·rintro e σ ⟨he, H⟩
   obtain ⟨e, rfl⟩ := he.ex
   refine Ops.assign (v := (vb ((b == (-1)) && (a == (-9223372036854775808))))) rfl rfl ?_
   apply Ops.nil
   replace H := H.all
   refine Runs.whether (v := ((b == (-1)) && (a == (-9223372036854775808)))) rfl ?_ ?_ <;> intro hc3
   ·replace h := cond_T hc3 h
    apply Runs.then
    refine Runs.regionH 3 rfl H ?_; intro b5 σ H
    refine Ops.assign (v := (vi 0)) rfl rfl ?_
    refine Ops.assign (v := (vi 0)) rfl rfl ?_
    refine Ops.assign (v := (vi 10)) rfl rfl ?_
    apply Ops.nil
    replace H := H.all
    apply Runs.ret
    replace h := Option.some.inj h; subst h
    exact (Ends.H (xs := [(vi 0), (vi 0), (vi 10)]) (.inr rfl) H (.tmp (v := (vi 0)) rfl (.tmp (v := (vi 0)) rfl (.tmp (v := (vi 10)) rfl .nil))) (.two (.cons (.c (.v _)) (.cons (.c (.v _)) (.cons (.c (.v _)) .nil)))))
   ·replace h := cond_F hc3 h
    apply Runs.skip
    apply Runs.then
    refine Runs.drawnH 8 rfl (by kernel_rfl) H ?_; intro b6 σ H B6
    refine Ops.move (v := (vi a)) rfl rfl ?_
    refine Ops.move (v := (vi b)) rfl rfl ?_
    obtain ⟨u1, q1, h⟩ := bind_some h
    refine Ops.quo (m := a) (m' := b) rfl rfl (nz_ne q1) rfl ?_
    refine Ops.move (v := (vi a)) rfl rfl ?_
    refine Ops.move (v := (vi b)) rfl rfl ?_
    obtain ⟨u2, q2, h⟩ := bind_some h
    refine Ops.rem (m := a) (m' := b) rfl rfl (nz_ne q2) rfl ?_
    refine Ops.assign (v := (vi (w64 (a.tdiv b)))) rfl rfl ?_
    refine Ops.assign (v := (vi (a.tmod b))) rfl rfl ?_
    apply Ops.nil
    replace H := H.all
    apply Runs.then
    obtain ⟨y1, hj1, h⟩ := bind_some h
    refine Runs.mono (Q := fun x e σ => x = .normal ∧ EnvHas e [(7, (vi y1.1)), (8, (vi y1.2))] ∧ Hs σ []) ?_ ?_
    ·replace h := hj1
     apply Runs.then
     refine Runs.regionH 9 rfl H ?_; intro b7 σ H
     refine Ops.move (v := (vi (a.tmod b))) rfl rfl ?_
     refine Ops.int (m := (a.tmod b)) (m' := 0) (r := .bool ((a.tmod b) != 0)) rfl rfl rfl rfl rfl ?_
     refine Ops.move (v := (vb ((a.tmod b) != 0))) rfl rfl ?_
     refine Ops.mid 6 (K1 := fun e σ => EnvHas e [(33, (vb (((a.tmod b) != 0) && ((decide ((a.tmod b) < 0)) != (decide (b < 0)))))), (1, (vi b)), (7, (vi (w64 (a.tdiv b)))), (8, (vi (a.tmod b)))] ∧ Has σ (b7 + 9) (b7 + 9) []) rfl ?_ ?_
     ·refine Ops.split rfl rfl ?_ ?_ <;> intro hc4
      ·skip
       refine Ops.wanted rfl rfl ?_
       refine Ops.move (v := (vi (a.tmod b))) rfl rfl ?_
       refine Ops.wanted rfl rfl ?_
       refine Ops.int (m := (a.tmod b)) (m' := 0) (r := .bool (decide ((a.tmod b) < 0))) rfl rfl rfl rfl rfl ?_
       refine Ops.wanted rfl rfl ?_
       refine Ops.move (v := (vi b)) rfl rfl ?_
       refine Ops.wanted rfl rfl ?_
       refine Ops.int (m := b) (m' := 0) (r := .bool (decide (b < 0))) rfl rfl rfl rfl rfl ?_
       refine Ops.wanted rfl rfl ?_
       refine Ops.neB (b := (decide ((a.tmod b) < 0))) (b' := (decide (b < 0))) rfl rfl rfl rfl ?_
       refine Ops.pickT (v := (vb ((decide ((a.tmod b) < 0)) != (decide (b < 0))))) rfl rfl rfl ?_
       apply Ops.nil
       exact ⟨⟨and_T hc4, rfl, rfl, rfl, trivial⟩, H.weak (by omega) (Nat.le_refl _)⟩
      ·skip
       refine Ops.pass rfl rfl rfl ?_
       refine Ops.pass rfl rfl rfl ?_
       refine Ops.pass rfl rfl rfl ?_
       refine Ops.pass rfl rfl rfl ?_
       refine Ops.pass rfl rfl rfl ?_
       refine Ops.pickF (v := (vb false)) rfl rfl rfl ?_
       apply Ops.nil
       exact ⟨⟨and_F hc4, rfl, rfl, rfl, trivial⟩, H.weak (by omega) (Nat.le_refl _)⟩
     ·rintro e σ ⟨he, H⟩
      obtain ⟨e, rfl⟩ := he.ex
      apply Ops.nil
      replace H := H.all
      refine Runs.whether (v := (((a.tmod b) != 0) && ((decide ((a.tmod b) < 0)) != (decide (b < 0))))) rfl ?_ ?_ <;> intro hc5
      ·replace h := cond_T hc5 h
       refine Runs.regionH 7 rfl H ?_; intro b8 σ H
       refine Ops.move (v := (vi (w64 (a.tdiv b)))) rfl rfl ?_
       refine Ops.int (m := (w64 (a.tdiv b))) (m' := 1) (r := .int .i64 (w64 ((w64 (a.tdiv b)) - 1))) rfl rfl rfl rfl rfl ?_
       refine Ops.move (v := (vi (a.tmod b))) rfl rfl ?_
       refine Ops.move (v := (vi b)) rfl rfl ?_
       refine Ops.int (m := (a.tmod b)) (m' := b) (r := .int .i64 (w64 ((a.tmod b) + b))) rfl rfl rfl rfl rfl ?_
       refine Ops.assign (v := (vi (w64 ((w64 (a.tdiv b)) - 1)))) rfl rfl ?_
       refine Ops.assign (v := (vi (w64 ((a.tmod b) + b)))) rfl rfl ?_
       apply Ops.nil
       replace H := H.all
       replace h := Option.some.inj h; subst h
       exact ⟨rfl, ⟨rfl, rfl, trivial⟩, H⟩
      ·replace h := cond_F hc5 h
       apply Runs.skip
       replace h := Option.some.inj h; subst h
       exact ⟨rfl, ⟨rfl, rfl, trivial⟩, H⟩
    ·rintro x e σ ⟨rfl, he, H⟩
     obtain ⟨e, rfl⟩ := he.ex
     apply Runs.then
     refine Runs.regionH 5 rfl H ?_; intro b9 σ H
     refine Ops.move (v := (vi y1.1)) rfl rfl ?_
     refine Ops.move (v := (vi y1.2)) rfl rfl ?_
     refine Ops.assign (v := (vi y1.1)) rfl rfl ?_
     refine Ops.assign (v := (vi y1.2)) rfl rfl ?_
     refine Ops.assign (v := (vi 0)) rfl rfl ?_
     apply Ops.nil
     replace H := H.all
     apply Runs.ret
     replace h := Option.some.inj h; subst h
     exact (Ends.H (xs := [(vi y1.1), (vi y1.2), (vi 0)]) (.inr rfl) H (.tmp (v := (vi y1.1)) rfl (.tmp (v := (vi y1.2)) rfl (.tmp (v := (vi 0)) rfl .nil))) (.two (.cons (.c (.v _)) (.cons (.c (.v _)) (.cons (.c (.v _)) .nil)))))

set_option maxRecDepth 100000 in
set_option maxHeartbeats 4000000 in
theorem safe_size_fn {a : Int} {r : Int} (h : safe_size a = r) : Fn CX 110 [(vi a)] (vu r) := by
 refine Fn.ends Try.func110 rfl rfl rfl rfl rfl rfl ?_
 have H : Hs (⟨0, fun _ => .none⟩ : Heap) [] := Has.nil (Nat.le_refl _)
 generalize (⟨0, fun _ => .none⟩ : Heap) = σ at H ⊢
 unfold safe_size at h
 apply Runs.then
 refine Runs.regionH 1 rfl H ?_; intro b1 σ H
 refine Ops.assign (v := (vu 0)) rfl rfl ?_
 apply Ops.nil
 replace H := H.all
 apply Runs.then
 apply Runs.then
 refine Runs.regionH 2 rfl H ?_; intro b2 σ H
 refine Ops.move (v := (vi a)) rfl rfl ?_
 refine Ops.int (m := a) (m' := 0) (r := .bool (decide (a < 0))) rfl rfl rfl rfl rfl ?_
 apply Ops.nil
 replace H := H.all
 refine Runs.whether (v := (decide (a < 0))) rfl ?_ ?_ <;> intro hc1
 ·replace h := cond_T hc1 h
  apply Runs.then
  refine Runs.regionH 4 rfl H ?_; intro b3 σ H
  refine Ops.move (v := (vi a)) rfl rfl ?_
  refine Ops.conv (m := a) rfl rfl rfl rfl ?_
  refine Ops.neg (m := (IntKind.u64.wrap a)) rfl rfl ?_
  refine Ops.assign (v := (vu (IntKind.u64.wrap (0 - (IntKind.u64.wrap a))))) rfl rfl ?_
  apply Ops.nil
  replace H := H.all
  apply Runs.ret
  subst h
  exact (Ends.H (xs := [(vu (IntKind.u64.wrap (0 - (IntKind.u64.wrap a))))]) (.inr rfl) H (.tmp (v := (vu (IntKind.u64.wrap (0 - (IntKind.u64.wrap a))))) rfl .nil) (.one (.c (.v _))))
 ·replace h := cond_F hc1 h
  apply Runs.skip
  apply Runs.then
  refine Runs.regionH 3 rfl H ?_; intro b4 σ H
  refine Ops.move (v := (vi a)) rfl rfl ?_
  refine Ops.conv (m := a) rfl rfl rfl rfl ?_
  refine Ops.assign (v := (vu (IntKind.u64.wrap a))) rfl rfl ?_
  apply Ops.nil
  replace H := H.all
  apply Runs.ret
  subst h
  exact (Ends.H (xs := [(vu (IntKind.u64.wrap a))]) (.inr rfl) H (.tmp (v := (vu (IntKind.u64.wrap a))) rfl .nil) (.one (.c (.v _))))

set_option maxRecDepth 100000 in
set_option maxHeartbeats 4000000 in
theorem math_bits_Mul64_fn {x' : Int} {y : Int} {r : Int × Int} (h : math_bits_Mul64 x' y = r) : Fn CX 109 [(vu x'), (vu y)] (.tup [(vu r.1), (vu r.2)]) := by
 refine Fn.ends Try.func109 rfl rfl rfl rfl rfl rfl ?_
 have H : Hs (⟨0, fun _ => .none⟩ : Heap) [] := Has.nil (Nat.le_refl _)
 generalize (⟨0, fun _ => .none⟩ : Heap) = σ at H ⊢
 unfold math_bits_Mul64 at h
 apply Runs.then
 refine Runs.regionH 2 rfl H ?_; intro b1 σ H
 refine Ops.assign (v := (vu 0)) rfl rfl ?_
 refine Ops.assign (v := (vu 0)) rfl rfl ?_
 apply Ops.nil
 replace H := H.all
 apply Runs.then
 refine Runs.regionH 3 rfl H ?_; intro b2 σ H
 refine Ops.move (v := (vu x')) rfl rfl ?_
 refine Ops.int (m := x') (m' := 4294967295) (r := .int .u64 (iAnd .u64 x' 4294967295)) rfl rfl rfl rfl rfl ?_
 refine Ops.assign (v := (vu (iAnd .u64 x' 4294967295))) rfl rfl ?_
 apply Ops.nil
 replace H := H.all
 apply Runs.then
 refine Runs.regionH 3 rfl H ?_; intro b3 σ H
 refine Ops.move (v := (vu x')) rfl rfl ?_
 refine Ops.shr (m := x') (m' := 32) rfl rfl (by decide) rfl ?_
 refine Ops.assign (v := (vu (x'.fdiv (2 ^ 32)))) rfl rfl ?_
 apply Ops.nil
 replace H := H.all
 apply Runs.then
 refine Runs.regionH 3 rfl H ?_; intro b4 σ H
 refine Ops.move (v := (vu y)) rfl rfl ?_
 refine Ops.int (m := y) (m' := 4294967295) (r := .int .u64 (iAnd .u64 y 4294967295)) rfl rfl rfl rfl rfl ?_
 refine Ops.assign (v := (vu (iAnd .u64 y 4294967295))) rfl rfl ?_
 apply Ops.nil
 replace H := H.all
 apply Runs.then
 refine Runs.regionH 3 rfl H ?_; intro b5 σ H
 refine Ops.move (v := (vu y)) rfl rfl ?_
 refine Ops.shr (m := y) (m' := 32) rfl rfl (by decide) rfl ?_
 refine Ops.assign (v := (vu (y.fdiv (2 ^ 32)))) rfl rfl ?_
 apply Ops.nil
 replace H := H.all
 apply Runs.then
 refine Runs.regionH 4 rfl H ?_; intro b6 σ H
 refine Ops.move (v := (vu (iAnd .u64 x' 4294967295))) rfl rfl ?_
 refine Ops.move (v := (vu (iAnd .u64 y 4294967295))) rfl rfl ?_
 refine Ops.int (m := (iAnd .u64 x' 4294967295)) (m' := (iAnd .u64 y 4294967295)) (r := .int .u64 (IntKind.u64.wrap ((iAnd .u64 x' 4294967295) * (iAnd .u64 y 4294967295)))) rfl rfl rfl rfl rfl ?_
 refine Ops.assign (v := (vu (IntKind.u64.wrap ((iAnd .u64 x' 4294967295) * (iAnd .u64 y 4294967295))))) rfl rfl ?_
 apply Ops.nil
 replace H := H.all
 apply Runs.then
 refine Runs.regionH 7 rfl H ?_; intro b7 σ H
 refine Ops.move (v := (vu (x'.fdiv (2 ^ 32)))) rfl rfl ?_
 refine Ops.move (v := (vu (iAnd .u64 y 4294967295))) rfl rfl ?_
 refine Ops.int (m := (x'.fdiv (2 ^ 32))) (m' := (iAnd .u64 y 4294967295)) (r := .int .u64 (IntKind.u64.wrap ((x'.fdiv (2 ^ 32)) * (iAnd .u64 y 4294967295)))) rfl rfl rfl rfl rfl ?_
 refine Ops.move (v := (vu (IntKind.u64.wrap ((iAnd .u64 x' 4294967295) * (iAnd .u64 y 4294967295))))) rfl rfl ?_
 refine Ops.shr (m := (IntKind.u64.wrap ((iAnd .u64 x' 4294967295) * (iAnd .u64 y 4294967295)))) (m' := 32) rfl rfl (by decide) rfl ?_
 refine Ops.int (m := (IntKind.u64.wrap ((x'.fdiv (2 ^ 32)) * (iAnd .u64 y 4294967295)))) (m' := ((IntKind.u64.wrap ((iAnd .u64 x' 4294967295) * (iAnd .u64 y 4294967295))).fdiv (2 ^ 32))) (r := .int .u64 (IntKind.u64.wrap ((IntKind.u64.wrap ((x'.fdiv (2 ^ 32)) * (iAnd .u64 y 4294967295))) + ((IntKind.u64.wrap ((iAnd .u64 x' 4294967295) * (iAnd .u64 y 4294967295))).fdiv (2 ^ 32))))) rfl rfl rfl rfl rfl ?_
 refine Ops.assign (v := (vu (IntKind.u64.wrap ((IntKind.u64.wrap ((x'.fdiv (2 ^ 32)) * (iAnd .u64 y 4294967295))) + ((IntKind.u64.wrap ((iAnd .u64 x' 4294967295) * (iAnd .u64 y 4294967295))).fdiv (2 ^ 32)))))) rfl rfl ?_
 apply Ops.nil
 replace H := H.all
 apply Runs.then
 refine Runs.regionH 3 rfl H ?_; intro b8 σ H
 refine Ops.move (v := (vu (IntKind.u64.wrap ((IntKind.u64.wrap ((x'.fdiv (2 ^ 32)) * (iAnd .u64 y 4294967295))) + ((IntKind.u64.wrap ((iAnd .u64 x' 4294967295) * (iAnd .u64 y 4294967295))).fdiv (2 ^ 32)))))) rfl rfl ?_
 refine Ops.int (m := (IntKind.u64.wrap ((IntKind.u64.wrap ((x'.fdiv (2 ^ 32)) * (iAnd .u64 y 4294967295))) + ((IntKind.u64.wrap ((iAnd .u64 x' 4294967295) * (iAnd .u64 y 4294967295))).fdiv (2 ^ 32))))) (m' := 4294967295) (r := .int .u64 (iAnd .u64 (IntKind.u64.wrap ((IntKind.u64.wrap ((x'.fdiv (2 ^ 32)) * (iAnd .u64 y 4294967295))) + ((IntKind.u64.wrap ((iAnd .u64 x' 4294967295) * (iAnd .u64 y 4294967295))).fdiv (2 ^ 32)))) 4294967295)) rfl rfl rfl rfl rfl ?_
 refine Ops.assign (v := (vu (iAnd .u64 (IntKind.u64.wrap ((IntKind.u64.wrap ((x'.fdiv (2 ^ 32)) * (iAnd .u64 y 4294967295))) + ((IntKind.u64.wrap ((iAnd .u64 x' 4294967295) * (iAnd .u64 y 4294967295))).fdiv (2 ^ 32)))) 4294967295))) rfl rfl ?_
 apply Ops.nil
 replace H := H.all
 apply Runs.then
 refine Runs.regionH 3 rfl H ?_; intro b9 σ H
 refine Ops.move (v := (vu (IntKind.u64.wrap ((IntKind.u64.wrap ((x'.fdiv (2 ^ 32)) * (iAnd .u64 y 4294967295))) + ((IntKind.u64.wrap ((iAnd .u64 x' 4294967295) * (iAnd .u64 y 4294967295))).fdiv (2 ^ 32)))))) rfl rfl ?_
 refine Ops.shr (m := (IntKind.u64.wrap ((IntKind.u64.wrap ((x'.fdiv (2 ^ 32)) * (iAnd .u64 y 4294967295))) + ((IntKind.u64.wrap ((iAnd .u64 x' 4294967295) * (iAnd .u64 y 4294967295))).fdiv (2 ^ 32))))) (m' := 32) rfl rfl (by decide) rfl ?_
 refine Ops.assign (v := (vu ((IntKind.u64.wrap ((IntKind.u64.wrap ((x'.fdiv (2 ^ 32)) * (iAnd .u64 y 4294967295))) + ((IntKind.u64.wrap ((iAnd .u64 x' 4294967295) * (iAnd .u64 y 4294967295))).fdiv (2 ^ 32)))).fdiv (2 ^ 32)))) rfl rfl ?_
 apply Ops.nil
 replace H := H.all
 apply Runs.then
 refine Runs.regionH 6 rfl H ?_; intro b10 σ H
 refine Ops.move (v := (vu (iAnd .u64 (IntKind.u64.wrap ((IntKind.u64.wrap ((x'.fdiv (2 ^ 32)) * (iAnd .u64 y 4294967295))) + ((IntKind.u64.wrap ((iAnd .u64 x' 4294967295) * (iAnd .u64 y 4294967295))).fdiv (2 ^ 32)))) 4294967295))) rfl rfl ?_
 refine Ops.move (v := (vu (iAnd .u64 x' 4294967295))) rfl rfl ?_
 refine Ops.move (v := (vu (y.fdiv (2 ^ 32)))) rfl rfl ?_
 refine Ops.int (m := (iAnd .u64 x' 4294967295)) (m' := (y.fdiv (2 ^ 32))) (r := .int .u64 (IntKind.u64.wrap ((iAnd .u64 x' 4294967295) * (y.fdiv (2 ^ 32))))) rfl rfl rfl rfl rfl ?_
 refine Ops.int (m := (iAnd .u64 (IntKind.u64.wrap ((IntKind.u64.wrap ((x'.fdiv (2 ^ 32)) * (iAnd .u64 y 4294967295))) + ((IntKind.u64.wrap ((iAnd .u64 x' 4294967295) * (iAnd .u64 y 4294967295))).fdiv (2 ^ 32)))) 4294967295)) (m' := (IntKind.u64.wrap ((iAnd .u64 x' 4294967295) * (y.fdiv (2 ^ 32))))) (r := .int .u64 (IntKind.u64.wrap ((iAnd .u64 (IntKind.u64.wrap ((IntKind.u64.wrap ((x'.fdiv (2 ^ 32)) * (iAnd .u64 y 4294967295))) + ((IntKind.u64.wrap ((iAnd .u64 x' 4294967295) * (iAnd .u64 y 4294967295))).fdiv (2 ^ 32)))) 4294967295) + (IntKind.u64.wrap ((iAnd .u64 x' 4294967295) * (y.fdiv (2 ^ 32))))))) rfl rfl rfl rfl rfl ?_
 refine Ops.assign (v := (vu (IntKind.u64.wrap ((iAnd .u64 (IntKind.u64.wrap ((IntKind.u64.wrap ((x'.fdiv (2 ^ 32)) * (iAnd .u64 y 4294967295))) + ((IntKind.u64.wrap ((iAnd .u64 x' 4294967295) * (iAnd .u64 y 4294967295))).fdiv (2 ^ 32)))) 4294967295) + (IntKind.u64.wrap ((iAnd .u64 x' 4294967295) * (y.fdiv (2 ^ 32)))))))) rfl rfl ?_
 apply Ops.nil
 replace H := H.all
 apply Runs.then
 refine Runs.regionH 9 rfl H ?_; intro b11 σ H
 refine Ops.move (v := (vu (x'.fdiv (2 ^ 32)))) rfl rfl ?_
 refine Ops.move (v := (vu (y.fdiv (2 ^ 32)))) rfl rfl ?_
 refine Ops.int (m := (x'.fdiv (2 ^ 32))) (m' := (y.fdiv (2 ^ 32))) (r := .int .u64 (IntKind.u64.wrap ((x'.fdiv (2 ^ 32)) * (y.fdiv (2 ^ 32))))) rfl rfl rfl rfl rfl ?_
 refine Ops.move (v := (vu ((IntKind.u64.wrap ((IntKind.u64.wrap ((x'.fdiv (2 ^ 32)) * (iAnd .u64 y 4294967295))) + ((IntKind.u64.wrap ((iAnd .u64 x' 4294967295) * (iAnd .u64 y 4294967295))).fdiv (2 ^ 32)))).fdiv (2 ^ 32)))) rfl rfl ?_
 refine Ops.int (m := (IntKind.u64.wrap ((x'.fdiv (2 ^ 32)) * (y.fdiv (2 ^ 32))))) (m' := ((IntKind.u64.wrap ((IntKind.u64.wrap ((x'.fdiv (2 ^ 32)) * (iAnd .u64 y 4294967295))) + ((IntKind.u64.wrap ((iAnd .u64 x' 4294967295) * (iAnd .u64 y 4294967295))).fdiv (2 ^ 32)))).fdiv (2 ^ 32))) (r := .int .u64 (IntKind.u64.wrap ((IntKind.u64.wrap ((x'.fdiv (2 ^ 32)) * (y.fdiv (2 ^ 32)))) + ((IntKind.u64.wrap ((IntKind.u64.wrap ((x'.fdiv (2 ^ 32)) * (iAnd .u64 y 4294967295))) + ((IntKind.u64.wrap ((iAnd .u64 x' 4294967295) * (iAnd .u64 y 4294967295))).fdiv (2 ^ 32)))).fdiv (2 ^ 32))))) rfl rfl rfl rfl rfl ?_
 refine Ops.move (v := (vu (IntKind.u64.wrap ((iAnd .u64 (IntKind.u64.wrap ((IntKind.u64.wrap ((x'.fdiv (2 ^ 32)) * (iAnd .u64 y 4294967295))) + ((IntKind.u64.wrap ((iAnd .u64 x' 4294967295) * (iAnd .u64 y 4294967295))).fdiv (2 ^ 32)))) 4294967295) + (IntKind.u64.wrap ((iAnd .u64 x' 4294967295) * (y.fdiv (2 ^ 32)))))))) rfl rfl ?_
 refine Ops.shr (m := (IntKind.u64.wrap ((iAnd .u64 (IntKind.u64.wrap ((IntKind.u64.wrap ((x'.fdiv (2 ^ 32)) * (iAnd .u64 y 4294967295))) + ((IntKind.u64.wrap ((iAnd .u64 x' 4294967295) * (iAnd .u64 y 4294967295))).fdiv (2 ^ 32)))) 4294967295) + (IntKind.u64.wrap ((iAnd .u64 x' 4294967295) * (y.fdiv (2 ^ 32))))))) (m' := 32) rfl rfl (by decide) rfl ?_
 refine Ops.int (m := (IntKind.u64.wrap ((IntKind.u64.wrap ((x'.fdiv (2 ^ 32)) * (y.fdiv (2 ^ 32)))) + ((IntKind.u64.wrap ((IntKind.u64.wrap ((x'.fdiv (2 ^ 32)) * (iAnd .u64 y 4294967295))) + ((IntKind.u64.wrap ((iAnd .u64 x' 4294967295) * (iAnd .u64 y 4294967295))).fdiv (2 ^ 32)))).fdiv (2 ^ 32))))) (m' := ((IntKind.u64.wrap ((iAnd .u64 (IntKind.u64.wrap ((IntKind.u64.wrap ((x'.fdiv (2 ^ 32)) * (iAnd .u64 y 4294967295))) + ((IntKind.u64.wrap ((iAnd .u64 x' 4294967295) * (iAnd .u64 y 4294967295))).fdiv (2 ^ 32)))) 4294967295) + (IntKind.u64.wrap ((iAnd .u64 x' 4294967295) * (y.fdiv (2 ^ 32)))))).fdiv (2 ^ 32))) (r := .int .u64 (IntKind.u64.wrap ((IntKind.u64.wrap ((IntKind.u64.wrap ((x'.fdiv (2 ^ 32)) * (y.fdiv (2 ^ 32)))) + ((IntKind.u64.wrap ((IntKind.u64.wrap ((x'.fdiv (2 ^ 32)) * (iAnd .u64 y 4294967295))) + ((IntKind.u64.wrap ((iAnd .u64 x' 4294967295) * (iAnd .u64 y 4294967295))).fdiv (2 ^ 32)))).fdiv (2 ^ 32)))) + ((IntKind.u64.wrap ((iAnd .u64 (IntKind.u64.wrap ((IntKind.u64.wrap ((x'.fdiv (2 ^ 32)) * (iAnd .u64 y 4294967295))) + ((IntKind.u64.wrap ((iAnd .u64 x' 4294967295) * (iAnd .u64 y 4294967295))).fdiv (2 ^ 32)))) 4294967295) + (IntKind.u64.wrap ((iAnd .u64 x' 4294967295) * (y.fdiv (2 ^ 32)))))).fdiv (2 ^ 32))))) rfl rfl rfl rfl rfl ?_
 refine Ops.assign (v := (vu (IntKind.u64.wrap ((IntKind.u64.wrap ((IntKind.u64.wrap ((x'.fdiv (2 ^ 32)) * (y.fdiv (2 ^ 32)))) + ((IntKind.u64.wrap ((IntKind.u64.wrap ((x'.fdiv (2 ^ 32)) * (iAnd .u64 y 4294967295))) + ((IntKind.u64.wrap ((iAnd .u64 x' 4294967295) * (iAnd .u64 y 4294967295))).fdiv (2 ^ 32)))).fdiv (2 ^ 32)))) + ((IntKind.u64.wrap ((iAnd .u64 (IntKind.u64.wrap ((IntKind.u64.wrap ((x'.fdiv (2 ^ 32)) * (iAnd .u64 y 4294967295))) + ((IntKind.u64.wrap ((iAnd .u64 x' 4294967295) * (iAnd .u64 y 4294967295))).fdiv (2 ^ 32)))) 4294967295) + (IntKind.u64.wrap ((iAnd .u64 x' 4294967295) * (y.fdiv (2 ^ 32)))))).fdiv (2 ^ 32)))))) rfl rfl ?_
 apply Ops.nil
 replace H := H.all
 apply Runs.then
 refine Runs.regionH 4 rfl H ?_; intro b12 σ H
 refine Ops.move (v := (vu x')) rfl rfl ?_
 refine Ops.move (v := (vu y)) rfl rfl ?_
 refine Ops.int (m := x') (m' := y) (r := .int .u64 (IntKind.u64.wrap (x' * y))) rfl rfl rfl rfl rfl ?_
 refine Ops.assign (v := (vu (IntKind.u64.wrap (x' * y)))) rfl rfl ?_
 apply Ops.nil
 replace H := H.all
 apply Runs.ret
 subst h
 exact (Ends.H (xs := [(vu (IntKind.u64.wrap ((IntKind.u64.wrap ((IntKind.u64.wrap ((x'.fdiv (2 ^ 32)) * (y.fdiv (2 ^ 32)))) + ((IntKind.u64.wrap ((IntKind.u64.wrap ((x'.fdiv (2 ^ 32)) * (iAnd .u64 y 4294967295))) + ((IntKind.u64.wrap ((iAnd .u64 x' 4294967295) * (iAnd .u64 y 4294967295))).fdiv (2 ^ 32)))).fdiv (2 ^ 32)))) + ((IntKind.u64.wrap ((iAnd .u64 (IntKind.u64.wrap ((IntKind.u64.wrap ((x'.fdiv (2 ^ 32)) * (iAnd .u64 y 4294967295))) + ((IntKind.u64.wrap ((iAnd .u64 x' 4294967295) * (iAnd .u64 y 4294967295))).fdiv (2 ^ 32)))) 4294967295) + (IntKind.u64.wrap ((iAnd .u64 x' 4294967295) * (y.fdiv (2 ^ 32)))))).fdiv (2 ^ 32))))), (vu (IntKind.u64.wrap (x' * y)))]) (.inr rfl) H (.tmp (v := (vu (IntKind.u64.wrap ((IntKind.u64.wrap ((IntKind.u64.wrap ((x'.fdiv (2 ^ 32)) * (y.fdiv (2 ^ 32)))) + ((IntKind.u64.wrap ((IntKind.u64.wrap ((x'.fdiv (2 ^ 32)) * (iAnd .u64 y 4294967295))) + ((IntKind.u64.wrap ((iAnd .u64 x' 4294967295) * (iAnd .u64 y 4294967295))).fdiv (2 ^ 32)))).fdiv (2 ^ 32)))) + ((IntKind.u64.wrap ((iAnd .u64 (IntKind.u64.wrap ((IntKind.u64.wrap ((x'.fdiv (2 ^ 32)) * (iAnd .u64 y 4294967295))) + ((IntKind.u64.wrap ((iAnd .u64 x' 4294967295) * (iAnd .u64 y 4294967295))).fdiv (2 ^ 32)))) 4294967295) + (IntKind.u64.wrap ((iAnd .u64 x' 4294967295) * (y.fdiv (2 ^ 32)))))).fdiv (2 ^ 32)))))) rfl (.tmp (v := (vu (IntKind.u64.wrap (x' * y)))) rfl .nil)) (.two (.cons (.c (.v _)) (.cons (.c (.v _)) .nil))))

set_option maxRecDepth 100000 in
set_option maxHeartbeats 4000000 in
theorem safe_signed_fn {n : Int} {minus : Bool} {r : Int × Int} (h : safe_signed n minus = r) : Fn CX 111 [(vu n), (vb minus)] (.tup [(vi r.1), (vi r.2)]) := by
 refine Fn.ends Try.func111 rfl rfl rfl rfl rfl rfl ?_
 have H : Hs (⟨0, fun _ => .none⟩ : Heap) [] := Has.nil (Nat.le_refl _)
 generalize (⟨0, fun _ => .none⟩ : Heap) = σ at H ⊢
 unfold safe_signed at h
 apply Runs.then
 refine Runs.regionH 2 rfl H ?_; intro b1 σ H
 refine Ops.assign (v := (vi 0)) rfl rfl ?_
 refine Ops.assign (v := (vi 0)) rfl rfl ?_
 apply Ops.nil
 replace H := H.all
 apply Runs.then
 apply Runs.inBlock
 apply Runs.then
 refine Runs.regionH 6 rfl H ?_; intro b2 σ H
 refine Ops.move (v := (vb minus)) rfl rfl ?_
 refine Ops.move (v := (vb minus)) rfl rfl ?_
 refine Ops.mid 3 (K1 := fun e σ => EnvHas e [(11, (vb (minus && (decide (n ≤ 9223372036854775808))))), (0, (vu n)), (1, (vb minus))] ∧ Has σ (b2 + 5) (b2 + 6) []) rfl ?_ ?_
 ·refine Ops.split rfl rfl ?_ ?_ <;> intro hc1
  ·skip
   refine Ops.wanted rfl rfl ?_
   refine Ops.move (v := (vu n)) rfl rfl ?_
   refine Ops.wanted rfl rfl ?_
   refine Ops.int (m := n) (m' := 9223372036854775808) (r := .bool (decide (n ≤ 9223372036854775808))) rfl rfl rfl rfl rfl ?_
   refine Ops.pickT (v := (vb (decide (n ≤ 9223372036854775808)))) rfl rfl rfl ?_
   apply Ops.nil
   exact ⟨⟨and_T hc1, rfl, rfl, trivial⟩, H.weak (by omega) (Nat.le_refl _)⟩
  ·skip
   refine Ops.pass rfl rfl rfl ?_
   refine Ops.pass rfl rfl rfl ?_
   refine Ops.pickF (v := (vb false)) rfl rfl rfl ?_
   apply Ops.nil
   exact ⟨⟨and_F hc1, rfl, rfl, trivial⟩, H.weak (by omega) (Nat.le_refl _)⟩
 ·rintro e σ ⟨he, H⟩
  obtain ⟨e, rfl⟩ := he.ex
  refine Ops.assign (v := (vb (minus && (decide (n ≤ 9223372036854775808))))) rfl rfl ?_
  apply Ops.nil
  replace H := H.all
  refine Runs.whether (v := (minus && (decide (n ≤ 9223372036854775808)))) rfl ?_ ?_ <;> intro hc2
  ·replace h := cond_T hc2 h
   apply Runs.then
   refine Runs.regionH 5 rfl H ?_; intro b3 σ H
   refine Ops.move (v := (vu n)) rfl rfl ?_
   refine Ops.neg (m := n) rfl rfl ?_
   refine Ops.conv (m := (IntKind.u64.wrap (0 - n))) rfl rfl rfl rfl ?_
   refine Ops.assign (v := (vi (w64 (IntKind.u64.wrap (0 - n))))) rfl rfl ?_
   refine Ops.assign (v := (vi 0)) rfl rfl ?_
   apply Ops.nil
   replace H := H.all
   apply Runs.ret
   subst h
   exact (Ends.H (xs := [(vi (w64 (IntKind.u64.wrap (0 - n)))), (vi 0)]) (.inr rfl) H (.tmp (v := (vi (w64 (IntKind.u64.wrap (0 - n))))) rfl (.tmp (v := (vi 0)) rfl .nil)) (.two (.cons (.c (.v _)) (.cons (.c (.v _)) .nil))))
  ·replace h := cond_F hc2 h
   apply Runs.then
   refine Runs.regionH 7 rfl H ?_; intro b4 σ H
   refine Ops.move (v := (vb minus)) rfl rfl ?_
   refine Ops.not (b := minus) rfl rfl ?_
   refine Ops.move (v := (vb (!minus))) rfl rfl ?_
   refine Ops.mid 3 (K1 := fun e σ => EnvHas e [(21, (vb ((!minus) && (decide (n ≤ 9223372036854775807))))), (0, (vu n))] ∧ Has σ (b4 + 6) (b4 + 7) []) rfl ?_ ?_
   ·refine Ops.split rfl rfl ?_ ?_ <;> intro hc3
    ·skip
     refine Ops.wanted rfl rfl ?_
     refine Ops.move (v := (vu n)) rfl rfl ?_
     refine Ops.wanted rfl rfl ?_
     refine Ops.int (m := n) (m' := 9223372036854775807) (r := .bool (decide (n ≤ 9223372036854775807))) rfl rfl rfl rfl rfl ?_
     refine Ops.pickT (v := (vb (decide (n ≤ 9223372036854775807)))) rfl rfl rfl ?_
     apply Ops.nil
     exact ⟨⟨and_T hc3, rfl, trivial⟩, H.weak (by omega) (Nat.le_refl _)⟩
    ·skip
     refine Ops.pass rfl rfl rfl ?_
     refine Ops.pass rfl rfl rfl ?_
     refine Ops.pickF (v := (vb false)) rfl rfl rfl ?_
     apply Ops.nil
     exact ⟨⟨and_F hc3, rfl, trivial⟩, H.weak (by omega) (Nat.le_refl _)⟩
   ·rintro e σ ⟨he, H⟩
    obtain ⟨e, rfl⟩ := he.ex
    refine Ops.assign (v := (vb ((!minus) && (decide (n ≤ 9223372036854775807))))) rfl rfl ?_
    apply Ops.nil
    replace H := H.all
    refine Runs.whether (v := ((!minus) && (decide (n ≤ 9223372036854775807)))) rfl ?_ ?_ <;> intro hc4
    ·replace h := cond_T hc4 h
     apply Runs.then
     refine Runs.regionH 4 rfl H ?_; intro b5 σ H
     refine Ops.move (v := (vu n)) rfl rfl ?_
     refine Ops.conv (m := n) rfl rfl rfl rfl ?_
     refine Ops.assign (v := (vi (w64 n))) rfl rfl ?_
     refine Ops.assign (v := (vi 0)) rfl rfl ?_
     apply Ops.nil
     replace H := H.all
     apply Runs.ret
     subst h
     exact (Ends.H (xs := [(vi (w64 n)), (vi 0)]) (.inr rfl) H (.tmp (v := (vi (w64 n))) rfl (.tmp (v := (vi 0)) rfl .nil)) (.two (.cons (.c (.v _)) (.cons (.c (.v _)) .nil))))
    ·replace h := cond_F hc4 h
     apply Runs.skip
     apply Runs.then
     refine Runs.regionH 2 rfl H ?_; intro b6 σ H
     refine Ops.assign (v := (vi 0)) rfl rfl ?_
     refine Ops.assign (v := (vi 10)) rfl rfl ?_
     apply Ops.nil
     replace H := H.all
     apply Runs.ret
     subst h
     exact (Ends.H (xs := [(vi 0), (vi 10)]) (.inr rfl) H (.tmp (v := (vi 0)) rfl (.tmp (v := (vi 10)) rfl .nil)) (.two (.cons (.c (.v _)) (.cons (.c (.v _)) .nil))))

set_option maxRecDepth 100000 in
set_option maxHeartbeats 4000000 in
theorem safe_Mul_fn {a : Int} {b : Int} {r : Int × Int} (h : safe_Mul a b = r) : Fn CX 82 [(vi a), (vi b)] (.tup [(vi r.1), (vi r.2)]) := by
 refine Fn.ends Try.func82 rfl rfl rfl rfl rfl rfl ?_
 have H : Hs (⟨0, fun _ => .none⟩ : Heap) [] := Has.nil (Nat.le_refl _)
 generalize (⟨0, fun _ => .none⟩ : Heap) = σ at H ⊢
 unfold safe_Mul at h
 apply Runs.then
 refine Runs.regionH 2 rfl H ?_; intro b1 σ H
 refine Ops.assign (v := (vi 0)) rfl rfl ?_
 refine Ops.assign (v := (vi 0)) rfl rfl ?_
 apply Ops.nil
 replace H := H.all
 apply Runs.then
 refine Runs.regionH 10 rfl H ?_; intro b2 σ H
 refine Ops.move (v := (vi a)) rfl rfl ?_
 refine Ops.call (ys := [(vi a)]) (r := (vu (safe_size a))) rfl (safe_size_fn rfl) rfl ?_
 refine Ops.move (v := (vi b)) rfl rfl ?_
 refine Ops.call (ys := [(vi b)]) (r := (vu (safe_size b))) rfl (safe_size_fn rfl) rfl ?_
 refine Ops.call (ys := [(vu (safe_size a)), (vu (safe_size b))]) (r := (.tup [(vu (math_bits_Mul64 (safe_size a) (safe_size b)).1), (vu (math_bits_Mul64 (safe_size a) (safe_size b)).2)])) rfl (math_bits_Mul64_fn rfl) rfl ?_
 refine Ops.move (v := (.tup [(vu (math_bits_Mul64 (safe_size a) (safe_size b)).1), (vu (math_bits_Mul64 (safe_size a) (safe_size b)).2)])) rfl rfl ?_
 refine Ops.extract (v := (vu (math_bits_Mul64 (safe_size a) (safe_size b)).1)) rfl rfl rfl ?_
 refine Ops.extract (v := (vu (math_bits_Mul64 (safe_size a) (safe_size b)).2)) rfl rfl rfl ?_
 refine Ops.assign (v := (vu (math_bits_Mul64 (safe_size a) (safe_size b)).1)) rfl rfl ?_
 refine Ops.assign (v := (vu (math_bits_Mul64 (safe_size a) (safe_size b)).2)) rfl rfl ?_
 apply Ops.nil
 replace H := H.all
 apply Runs.then
 apply Runs.then
 refine Runs.regionH 2 rfl H ?_; intro b3 σ H
 refine Ops.move (v := (vu (math_bits_Mul64 (safe_size a) (safe_size b)).1)) rfl rfl ?_
 refine Ops.int (m := (math_bits_Mul64 (safe_size a) (safe_size b)).1) (m' := 0) (r := .bool (((math_bits_Mul64 (safe_size a) (safe_size b)).1) != 0)) rfl rfl rfl rfl rfl ?_
 apply Ops.nil
 replace H := H.all
 refine Runs.whether (v := (((math_bits_Mul64 (safe_size a) (safe_size b)).1) != 0)) rfl ?_ ?_ <;> intro hc1
 ·replace h := cond_T hc1 h
  apply Runs.then
  refine Runs.regionH 2 rfl H ?_; intro b4 σ H
  refine Ops.assign (v := (vi 0)) rfl rfl ?_
  refine Ops.assign (v := (vi 10)) rfl rfl ?_
  apply Ops.nil
  replace H := H.all
  apply Runs.ret
  subst h
  exact (Ends.H (xs := [(vi 0), (vi 10)]) (.inr rfl) H (.tmp (v := (vi 0)) rfl (.tmp (v := (vi 10)) rfl .nil)) (.two (.cons (.c (.v _)) (.cons (.c (.v _)) .nil))))
 ·replace h := cond_F hc1 h
  apply Runs.skip
  apply Runs.then
  refine Runs.regionH 11 rfl H ?_; intro b5 σ H
  refine Ops.move (v := (vu (math_bits_Mul64 (safe_size a) (safe_size b)).2)) rfl rfl ?_
  refine Ops.move (v := (vi a)) rfl rfl ?_
  refine Ops.int (m := a) (m' := 0) (r := .bool (decide (a < 0))) rfl rfl rfl rfl rfl ?_
  refine Ops.move (v := (vi b)) rfl rfl ?_
  refine Ops.int (m := b) (m' := 0) (r := .bool (decide (b < 0))) rfl rfl rfl rfl rfl ?_
  refine Ops.neB (b := (decide (a < 0))) (b' := (decide (b < 0))) rfl rfl rfl rfl ?_
  refine Ops.call (ys := [(vu (math_bits_Mul64 (safe_size a) (safe_size b)).2), (vb ((decide (a < 0)) != (decide (b < 0))))]) (r := (.tup [(vi (safe_signed ((math_bits_Mul64 (safe_size a) (safe_size b)).2) ((decide (a < 0)) != (decide (b < 0)))).1), (vi (safe_signed ((math_bits_Mul64 (safe_size a) (safe_size b)).2) ((decide (a < 0)) != (decide (b < 0)))).2)])) rfl (safe_signed_fn rfl) rfl ?_
  refine Ops.extract (v := (vi (safe_signed ((math_bits_Mul64 (safe_size a) (safe_size b)).2) ((decide (a < 0)) != (decide (b < 0)))).1)) rfl rfl rfl ?_
  refine Ops.extract (v := (vi (safe_signed ((math_bits_Mul64 (safe_size a) (safe_size b)).2) ((decide (a < 0)) != (decide (b < 0)))).2)) rfl rfl rfl ?_
  refine Ops.assign (v := (vi (safe_signed ((math_bits_Mul64 (safe_size a) (safe_size b)).2) ((decide (a < 0)) != (decide (b < 0)))).1)) rfl rfl ?_
  refine Ops.assign (v := (vi (safe_signed ((math_bits_Mul64 (safe_size a) (safe_size b)).2) ((decide (a < 0)) != (decide (b < 0)))).2)) rfl rfl ?_
  apply Ops.nil
  replace H := H.all
  apply Runs.ret
  subst h
  exact (Ends.H (xs := [(vi (safe_signed ((math_bits_Mul64 (safe_size a) (safe_size b)).2) ((decide (a < 0)) != (decide (b < 0)))).1), (vi (safe_signed ((math_bits_Mul64 (safe_size a) (safe_size b)).2) ((decide (a < 0)) != (decide (b < 0)))).2)]) (.inr rfl) H (.tmp (v := (vi (safe_signed ((math_bits_Mul64 (safe_size a) (safe_size b)).2) ((decide (a < 0)) != (decide (b < 0)))).1)) rfl (.tmp (v := (vi (safe_signed ((math_bits_Mul64 (safe_size a) (safe_size b)).2) ((decide (a < 0)) != (decide (b < 0)))).2)) rfl .nil)) (.two (.cons (.c (.v _)) (.cons (.c (.v _)) .nil))))

set_option maxRecDepth 100000 in
set_option maxHeartbeats 4000000 in
theorem gran_kept_fn {f : Form} {i : Int} {r : (List Span) × Int × Int} (h : gran_kept f i = some r) : Fn CX 56 [(.agg (vs (Form.cs f))), (vi i)] (.tup [(vl Span.cs r.1), (vi r.2.1), (vi r.2.2)]) := by
 refine Fn.ends Try.func56 rfl rfl rfl rfl rfl rfl ?_
 have H : Hs (⟨0, fun _ => .none⟩ : Heap) [] := Has.nil (Nat.le_refl _)
 generalize (⟨0, fun _ => .none⟩ : Heap) = σ at H ⊢
 unfold gran_kept at h
 apply Runs.then
 refine Runs.regionH 4 rfl H ?_; intro b1 σ H
 refine Ops.boxH (v := (.agg [(vi f.Period), (vi f.Count), (vl (cL Span.cs) f.Core), (vl Granule.cs f.Odd)])) (cs := [(vi f.Period), (vi f.Count), (vl (cL Span.cs) f.Core), (vl Granule.cs f.Odd)]) H (by omega) (by omega) rfl rfl rfl ?_; intro σ H
 refine Ops.assign (v := .nils) rfl rfl ?_
 refine Ops.assign (v := (vi 0)) rfl rfl ?_
 refine Ops.assign (v := (vi 0)) rfl rfl ?_
 apply Ops.nil
 replace H := H.all
 apply Runs.then
 apply Runs.then
 refine Runs.regionH 8 rfl H ?_; intro b2 σ H
 refine Ops.loadHA (off := 0) (cs := [(vi f.Period), (vi f.Count), (vl (cL Span.cs) f.Core), (vl Granule.cs f.Odd)]) H 0 rfl rfl rfl rfl rfl rfl rfl nofun rfl ?_
 refine Ops.move (v := (vi i)) rfl rfl ?_
 obtain ⟨x1, q1, h⟩ := bind_some h
 refine Ops.call (ys := [(.agg [(vi f.Period), (vi f.Count), (vl (cL Span.cs) f.Core), (vl Granule.cs f.Odd)]), (vi i)]) (r := (.tup [(vi x1.1), (vb x1.2)])) rfl (gran_odd_fn q1) rfl ?_
 refine Ops.move (v := (.tup [(vi x1.1), (vb x1.2)])) rfl rfl ?_
 refine Ops.extract (v := (vi x1.1)) rfl rfl rfl ?_
 refine Ops.extract (v := (vb x1.2)) rfl rfl rfl ?_
 refine Ops.assign (v := (vi x1.1)) rfl rfl ?_
 refine Ops.assign (v := (vb x1.2)) rfl rfl ?_
 apply Ops.nil
 replace H := H.all
 apply Runs.then
 refine Runs.regionH 1 rfl H ?_; intro b3 σ H
 refine Ops.move (v := (vb x1.2)) rfl rfl ?_
 apply Ops.nil
 replace H := H.all
 refine Runs.whether (v := x1.2) rfl ?_ ?_ <;> intro hc1
 ·replace h := cond_T hc1 h
  apply Runs.then
  refine Runs.regionH 9 rfl H ?_; intro b4 σ H
  refine Ops.fieldAddrH (off := 0) (fo := 3) H 0 rfl rfl rfl rfl rfl nofun rfl ?_
  refine Ops.loadH (off := 3) (v := (vl Granule.cs f.Odd)) H 0 rfl rfl rfl rfl rfl nofun rfl ?_
  refine Ops.move (v := (vi x1.1)) rfl rfl ?_
  obtain ⟨x2, q2, h⟩ := bind_some h
  refine Ops.indexP (c := Granule.cs) (u := x2) rfl rfl q2 rfl rfl rfl rfl ?_
  refine Ops.fieldAddrP rfl rfl rfl rfl ?_
  refine Ops.loadP (u := (.sl (x2.Ticks.map Span.cs))) rfl rfl rfl rfl ?_
  refine Ops.assign (v := (vl Span.cs x2.Ticks)) rfl rfl ?_
  refine Ops.assign (v := (vi 0)) rfl rfl ?_
  refine Ops.assign (v := (vi 0)) rfl rfl ?_
  apply Ops.nil
  replace H := H.all
  apply Runs.ret
  replace h := Option.some.inj h; subst h
  exact (Ends.H (xs := [(vl Span.cs x2.Ticks), (vi 0), (vi 0)]) (.inr rfl) H (.tmp (v := (vl Span.cs x2.Ticks)) rfl (.tmp (v := (vi 0)) rfl (.tmp (v := (vi 0)) rfl .nil))) (.two (.cons (.c (.v _)) (.cons (.c (.v _)) (.cons (.c (.v _)) .nil)))))
 ·replace h := cond_F hc1 h
  apply Runs.skip
  apply Runs.then
  apply Runs.then
  refine Runs.regionH 3 rfl H ?_; intro b5 σ H
  refine Ops.fieldAddrH (off := 0) (fo := 1) H 0 rfl rfl rfl rfl rfl nofun rfl ?_
  refine Ops.loadH (off := 1) (v := (vi f.Count)) H 0 rfl rfl rfl rfl rfl nofun rfl ?_
  refine Ops.int (m := f.Count) (m' := 0) (r := .bool (f.Count == 0)) rfl rfl rfl rfl rfl ?_
  apply Ops.nil
  replace H := H.all
  refine Runs.whether (v := (f.Count == 0)) rfl ?_ ?_ <;> intro hc2
  ·replace h := cond_T hc2 h
   apply Runs.then
   refine Runs.regionH 3 rfl H ?_; intro b6 σ H
   refine Ops.assign (v := .nils) rfl rfl ?_
   refine Ops.assign (v := (vi 0)) rfl rfl ?_
   refine Ops.assign (v := (vi 0)) rfl rfl ?_
   apply Ops.nil
   replace H := H.all
   apply Runs.ret
   replace h := Option.some.inj h; subst h
   exact (Ends.H (xs := [.nils, (vi 0), (vi 0)]) (.inr rfl) H (.tmp (v := .nils) rfl (.tmp (v := (vi 0)) rfl (.tmp (v := (vi 0)) rfl .nil))) (.two (.cons (.c .n) (.cons (.c (.v _)) (.cons (.c (.v _)) .nil)))))
  ·replace h := cond_F hc2 h
   apply Runs.skip
   apply Runs.then
   refine Runs.regionH 11 rfl H ?_; intro b7 σ H
   refine Ops.move (v := (vi i)) rfl rfl ?_
   refine Ops.fieldAddrH (off := 0) (fo := 1) H 0 rfl rfl rfl rfl rfl nofun rfl ?_
   refine Ops.loadH (off := 1) (v := (vi f.Count)) H 0 rfl rfl rfl rfl rfl nofun rfl ?_
   obtain ⟨x3, q3, h⟩ := bind_some h
   refine Ops.call (ys := [(vi i), (vi f.Count)]) (r := (.tup [(vi x3.1), (vi x3.2.1), (vi x3.2.2)])) rfl (safe_Floor_fn q3) rfl ?_
   refine Ops.move (v := (.tup [(vi x3.1), (vi x3.2.1), (vi x3.2.2)])) rfl rfl ?_
   refine Ops.extract (v := (vi x3.1)) rfl rfl rfl ?_
   refine Ops.extract (v := (vi x3.2.1)) rfl rfl rfl ?_
   refine Ops.extract (v := (vi x3.2.2)) rfl rfl rfl ?_
   refine Ops.assign (v := (vi x3.1)) rfl rfl ?_
   refine Ops.assign (v := (vi x3.2.1)) rfl rfl ?_
   refine Ops.assign (v := (vi x3.2.2)) rfl rfl ?_
   apply Ops.nil
   replace H := H.all
   apply Runs.then
   refine Runs.regionH 9 rfl H ?_; intro b8 σ H
   refine Ops.move (v := (vi x3.1)) rfl rfl ?_
   refine Ops.fieldAddrH (off := 0) (fo := 0) H 0 rfl rfl rfl rfl rfl nofun rfl ?_
   refine Ops.loadH (off := 0) (v := (vi f.Period)) H 0 rfl rfl rfl rfl rfl nofun rfl ?_
   refine Ops.call (ys := [(vi x3.1), (vi f.Period)]) (r := (.tup [(vi (safe_Mul x3.1 f.Period).1), (vi (safe_Mul x3.1 f.Period).2)])) rfl (safe_Mul_fn rfl) rfl ?_
   refine Ops.move (v := (.tup [(vi (safe_Mul x3.1 f.Period).1), (vi (safe_Mul x3.1 f.Period).2)])) rfl rfl ?_
   refine Ops.extract (v := (vi (safe_Mul x3.1 f.Period).1)) rfl rfl rfl ?_
   refine Ops.extract (v := (vi (safe_Mul x3.1 f.Period).2)) rfl rfl rfl ?_
   refine Ops.assign (v := (vi (safe_Mul x3.1 f.Period).1)) rfl rfl ?_
   refine Ops.assign (v := (vi (safe_Mul x3.1 f.Period).2)) rfl rfl ?_
   apply Ops.nil
   replace H := H.all
   apply Runs.then
   refine Runs.regionH 10 rfl H ?_; intro b9 σ H
   refine Ops.fieldAddrH (off := 0) (fo := 2) H 0 rfl rfl rfl rfl rfl nofun rfl ?_
   refine Ops.loadH (off := 2) (v := (vl (cL Span.cs) f.Core)) H 0 rfl rfl rfl rfl rfl nofun rfl ?_
   refine Ops.move (v := (vi x3.2.1)) rfl rfl ?_
   obtain ⟨x4, q4, h⟩ := bind_some h
   refine Ops.indexP (c := (cL Span.cs)) (u := x4) rfl rfl q4 rfl rfl rfl rfl ?_
   refine Ops.loadP (u := (.sl (x4.map Span.cs))) rfl rfl rfl rfl ?_
   refine Ops.move (v := (vi (safe_Mul x3.1 f.Period).1)) rfl rfl ?_
   refine Ops.move (v := (vi (safe_Mul x3.1 f.Period).2)) rfl rfl ?_
   refine Ops.assign (v := (vl Span.cs x4)) rfl rfl ?_
   refine Ops.assign (v := (vi (safe_Mul x3.1 f.Period).1)) rfl rfl ?_
   refine Ops.assign (v := (vi (safe_Mul x3.1 f.Period).2)) rfl rfl ?_
   apply Ops.nil
   replace H := H.all
   apply Runs.ret
   replace h := Option.some.inj h; subst h
   exact (Ends.H (xs := [(vl Span.cs x4), (vi (safe_Mul x3.1 f.Period).1), (vi (safe_Mul x3.1 f.Period).2)]) (.inr rfl) H (.tmp (v := (vl Span.cs x4)) rfl (.tmp (v := (vi (safe_Mul x3.1 f.Period).1)) rfl (.tmp (v := (vi (safe_Mul x3.1 f.Period).2)) rfl .nil))) (.two (.cons (.c (.v _)) (.cons (.c (.v _)) (.cons (.c (.v _)) .nil)))))

set_option maxRecDepth 100000 in
set_option maxHeartbeats 4000000 in
theorem safe_Add_fn {a : Int} {b : Int} {r : Int × Int} (h : safe_Add a b = r) : Fn CX 83 [(vi a), (vi b)] (.tup [(vi r.1), (vi r.2)]) := by
 refine Fn.ends Try.func83 rfl rfl rfl rfl rfl rfl ?_
 have H : Hs (⟨0, fun _ => .none⟩ : Heap) [] := Has.nil (Nat.le_refl _)
 generalize (⟨0, fun _ => .none⟩ : Heap) = σ at H ⊢
 unfold safe_Add at h
 apply Runs.then
 refine Runs.regionH 2 rfl H ?_; intro b1 σ H
 refine Ops.assign (v := (vi 0)) rfl rfl ?_
 refine Ops.assign (v := (vi 0)) rfl rfl ?_
 apply Ops.nil
 replace H := H.all
 apply Runs.then
 refine Runs.regionH 4 rfl H ?_; intro b2 σ H
 refine Ops.move (v := (vi a)) rfl rfl ?_
 refine Ops.move (v := (vi b)) rfl rfl ?_
 refine Ops.int (m := a) (m' := b) (r := .int .i64 (w64 (a + b))) rfl rfl rfl rfl rfl ?_
 refine Ops.assign (v := (vi (w64 (a + b)))) rfl rfl ?_
 apply Ops.nil
 replace H := H.all
 apply Runs.then
 apply Runs.then
 refine Runs.regionH 10 rfl H ?_; intro b3 σ H
 refine Ops.move (v := (vi (w64 (a + b)))) rfl rfl ?_
 refine Ops.move (v := (vi a)) rfl rfl ?_
 refine Ops.int (m := (w64 (a + b))) (m' := a) (r := .bool (decide ((w64 (a + b)) > a))) rfl rfl rfl rfl rfl ?_
 refine Ops.move (v := (vi b)) rfl rfl ?_
 refine Ops.int (m := b) (m' := 0) (r := .bool (decide (b > 0))) rfl rfl rfl rfl rfl ?_
 refine Ops.neB (b := (decide ((w64 (a + b)) > a))) (b' := (decide (b > 0))) rfl rfl rfl rfl ?_
 refine Ops.move (v := (vb ((decide ((w64 (a + b)) > a)) != (decide (b > 0))))) rfl rfl ?_
 refine Ops.mid 3 (K1 := fun e σ => EnvHas e [(19, (vb (((decide ((w64 (a + b)) > a)) != (decide (b > 0))) && (b != 0)))), (6, (vi (w64 (a + b))))] ∧ Has σ (b3 + 10) (b3 + 10) []) rfl ?_ ?_
 ·refine Ops.split rfl rfl ?_ ?_ <;> intro hc1
  ·skip
   refine Ops.wanted rfl rfl ?_
   refine Ops.move (v := (vi b)) rfl rfl ?_
   refine Ops.wanted rfl rfl ?_
   refine Ops.int (m := b) (m' := 0) (r := .bool (b != 0)) rfl rfl rfl rfl rfl ?_
   refine Ops.pickT (v := (vb (b != 0))) rfl rfl rfl ?_
   apply Ops.nil
   exact ⟨⟨and_T hc1, rfl, trivial⟩, H.weak (by omega) (Nat.le_refl _)⟩
  ·skip
   refine Ops.pass rfl rfl rfl ?_
   refine Ops.pass rfl rfl rfl ?_
   refine Ops.pickF (v := (vb false)) rfl rfl rfl ?_
   apply Ops.nil
   exact ⟨⟨and_F hc1, rfl, trivial⟩, H.weak (by omega) (Nat.le_refl _)⟩
 ·rintro e σ ⟨he, H⟩
  obtain ⟨e, rfl⟩ := he.ex
  apply Ops.nil
  replace H := H.all
  refine Runs.whether (v := (((decide ((w64 (a + b)) > a)) != (decide (b > 0))) && (b != 0))) rfl ?_ ?_ <;> intro hc2
  ·replace h := cond_T hc2 h
   apply Runs.then
   refine Runs.regionH 2 rfl H ?_; intro b4 σ H
   refine Ops.assign (v := (vi 0)) rfl rfl ?_
   refine Ops.assign (v := (vi 10)) rfl rfl ?_
   apply Ops.nil
   replace H := H.all
   apply Runs.ret
   subst h
   exact (Ends.H (xs := [(vi 0), (vi 10)]) (.inr rfl) H (.tmp (v := (vi 0)) rfl (.tmp (v := (vi 10)) rfl .nil)) (.two (.cons (.c (.v _)) (.cons (.c (.v _)) .nil))))
  ·replace h := cond_F hc2 h
   apply Runs.skip
   apply Runs.then
   refine Runs.regionH 3 rfl H ?_; intro b5 σ H
   refine Ops.move (v := (vi (w64 (a + b)))) rfl rfl ?_
   refine Ops.assign (v := (vi (w64 (a + b)))) rfl rfl ?_
   refine Ops.assign (v := (vi 0)) rfl rfl ?_
   apply Ops.nil
   replace H := H.all
   apply Runs.ret
   subst h
   exact (Ends.H (xs := [(vi (w64 (a + b))), (vi 0)]) (.inr rfl) H (.tmp (v := (vi (w64 (a + b)))) rfl (.tmp (v := (vi 0)) rfl .nil)) (.two (.cons (.c (.v _)) (.cons (.c (.v _)) .nil))))

end Go.Dn

set_option linter.unusedVariables false
set_option linter.unusedSimpArgs false
namespace Go.Dn
open Go Go.Proofs

set_option maxRecDepth 100000 in
set_option maxHeartbeats 4000000 in
theorem spans_Move_fn {l : (List Span)} {by' : Int} {r : (List Span) × Int} (h : spans_Move l by' = some r) : Fn CX 57 [(vl Span.cs l), (vi by')] (.tup [(vl Span.cs r.1), (vi r.2)]) := by
 refine Fn.ends Try.func57 rfl rfl rfl rfl rfl rfl ?_
 have H : Hs (⟨0, fun _ => .none⟩ : Heap) [] := Has.nil (Nat.le_refl _)
 generalize (⟨0, fun _ => .none⟩ : Heap) = σ at H ⊢
 unfold spans_Move at h
 apply Runs.then
 refine Runs.regionH 2 rfl H ?_; intro b1 σ H
 refine Ops.assign (v := .nils) rfl rfl ?_
 refine Ops.assign (v := (vi 0)) rfl rfl ?_
 apply Ops.nil
 replace H := H.all
 apply Runs.then
 refine Runs.regionH 1 rfl H ?_; intro b2 σ H
 refine Ops.assign (v := .nils) rfl rfl ?_
 apply Ops.nil
 replace H := H.all
 apply Runs.then
 apply Runs.then
 refine Runs.regionH 3 rfl H ?_; intro b3 σ H
 refine Ops.move (v := (vl Span.cs l)) rfl rfl ?_
 refine Ops.lenPt (c := Span.cs) (xs := l) rfl rfl rfl ?_
 refine Ops.move (v := (vi 0)) rfl rfl ?_
 apply Ops.nil
 replace H := H.all
 apply Runs.inBlock
 replace H := H.pushNil 43 2 true
 obtain ⟨y1, hj1, h⟩ := bind_some h
 obtain ⟨n1, hj1⟩ := loopO_iff.1 hj1
 refine Runs.mono (Runs.loopO hj1 (fun s2 e σ => ∃ (w3 : PV), EnvHas e [(1, (vi by')), (6, w3), (13, (vl Span.cs l)), (14, (vi (l.length : Int))), (15, (vi s2.1))] ∧ Hs σ [.sl w3 43 2 (s2.2.map Span.cs) true]) (fun y1 x e σ => (∃ a1, ∃ (w4 : PV), y1 = (.go a1) ∧ x = .exit 0 ∧ EnvHas e [(6, w4)] ∧ Hs σ [.sl w4 43 2 (a1.map Span.cs) true]) ∨ (∃ r', y1 = (.ret r') ∧ x = .ret ∧ Ends CX Try.f57.results.toList (.tup [(vl Span.cs r'.1), (vi r'.2)]) x e σ)) ⟨.nils, ⟨rfl, rfl, rfl, rfl, rfl, trivial⟩, H⟩ ?_) ?_
 ·intro s2 e σ hI z h
  obtain ⟨w3, he, H⟩ := hI
  obtain ⟨e, rfl⟩ := he.ex
  unfold spans_Move.s0 at h
  apply Runs.then
  refine Runs.regionH 1 rfl H ?_; intro b4 σ H
  refine Ops.int (m := s2.1) (m' := (l.length : Int)) (r := .bool (decide (s2.1 < (l.length : Int)))) rfl rfl rfl rfl rfl ?_
  apply Ops.nil
  replace H := H.all
  apply Runs.then
  refine Runs.whether (v := (decide (s2.1 < (l.length : Int)))) rfl ?_ ?_ <;> intro hc1
  ·replace h := cond_T hc1 h
   apply Runs.skip
   apply Runs.then
   apply Runs.inBlock
   apply Runs.then
   refine Runs.regionH 4 rfl H ?_; intro b5 σ H
   obtain ⟨x1, q1, h⟩ := bind_some h
   refine Ops.indexP (c := Span.cs) (u := x1) rfl rfl q1 rfl rfl rfl rfl ?_
   refine Ops.loadPA (cs := [(.int .i64 x1.From), (.int .i64 x1.To)]) rfl rfl rfl rfl rfl rfl ?_
   refine Ops.allocH (cs := [(vi 0), (vi 0)]) H (by omega) (by omega) rfl rfl ?_; intro σ H
   refine Ops.storeH (off := 0) (v := (.agg [(vi x1.From), (vi x1.To)])) (ys := [(vi x1.From), (vi x1.To)]) (cells' := [(vi x1.From), (vi x1.To)]) H 0 rfl rfl rfl rfl rfl rfl rfl rfl rfl nofun ?_; intro σ H
   apply Ops.nil
   replace H := H.all
   apply Runs.then
   refine Runs.regionH 9 rfl H ?_; intro b6 σ H
   refine Ops.fieldAddrH (off := 0) (fo := 0) H 0 rfl rfl rfl rfl rfl nofun rfl ?_
   refine Ops.loadH (off := 0) (v := (vi x1.From)) H 0 rfl rfl rfl rfl rfl nofun rfl ?_
   refine Ops.move (v := (vi by')) rfl rfl ?_
   refine Ops.call (ys := [(vi x1.From), (vi by')]) (r := (.tup [(vi (safe_Add x1.From by').1), (vi (safe_Add x1.From by').2)])) rfl (safe_Add_fn rfl) rfl ?_
   refine Ops.move (v := (.tup [(vi (safe_Add x1.From by').1), (vi (safe_Add x1.From by').2)])) rfl rfl ?_
   refine Ops.extract (v := (vi (safe_Add x1.From by').1)) rfl rfl rfl ?_
   refine Ops.extract (v := (vi (safe_Add x1.From by').2)) rfl rfl rfl ?_
   refine Ops.assign (v := (vi (safe_Add x1.From by').1)) rfl rfl ?_
   refine Ops.assign (v := (vi (safe_Add x1.From by').2)) rfl rfl ?_
   apply Ops.nil
   replace H := H.all
   apply Runs.then
   refine Runs.regionH 9 rfl H ?_; intro b7 σ H
   refine Ops.fieldAddrH (off := 0) (fo := 1) H 0 rfl rfl rfl rfl rfl nofun rfl ?_
   refine Ops.loadH (off := 1) (v := (vi x1.To)) H 0 rfl rfl rfl rfl rfl nofun rfl ?_
   refine Ops.move (v := (vi by')) rfl rfl ?_
   refine Ops.call (ys := [(vi x1.To), (vi by')]) (r := (.tup [(vi (safe_Add x1.To by').1), (vi (safe_Add x1.To by').2)])) rfl (safe_Add_fn rfl) rfl ?_
   refine Ops.move (v := (.tup [(vi (safe_Add x1.To by').1), (vi (safe_Add x1.To by').2)])) rfl rfl ?_
   refine Ops.extract (v := (vi (safe_Add x1.To by').1)) rfl rfl rfl ?_
   refine Ops.extract (v := (vi (safe_Add x1.To by').2)) rfl rfl rfl ?_
   refine Ops.assign (v := (vi (safe_Add x1.To by').1)) rfl rfl ?_
   refine Ops.assign (v := (vi (safe_Add x1.To by').2)) rfl rfl ?_
   apply Ops.nil
   replace H := H.all
   apply Runs.then
   apply Runs.then
   refine Runs.regionH 16 rfl H ?_; intro b8 σ H
   refine Ops.move (v := (vi (safe_Add x1.From by').2)) rfl rfl ?_
   refine Ops.int (m := (safe_Add x1.From by').2) (m' := 0) (r := .bool (((safe_Add x1.From by').2) != 0)) rfl rfl rfl rfl rfl ?_
   refine Ops.move (v := (vb (((safe_Add x1.From by').2) != 0))) rfl rfl ?_
   refine Ops.mid 3 (K1 := fun e σ => EnvHas e [(38, (vb ((((safe_Add x1.From by').2) != 0) || (((safe_Add x1.To by').2) != 0)))), (1, (vi by')), (6, w3), (9, (vi (safe_Add x1.From by').1)), (11, (vi (safe_Add x1.To by').1)), (13, (vl Span.cs l)), (14, (vi (l.length : Int))), (15, (vi s2.1))] ∧ Has σ (b8 + 6) (b8 + 16) [.sl w3 43 2 (s2.2.map Span.cs) true]) rfl ?_ ?_
   ·refine Ops.split rfl rfl ?_ ?_ <;> intro hc2
    ·skip
     refine Ops.pass rfl rfl rfl ?_
     refine Ops.pass rfl rfl rfl ?_
     refine Ops.pickT (v := (vb true)) rfl rfl rfl ?_
     apply Ops.nil
     exact ⟨⟨or_T hc2, rfl, rfl, rfl, rfl, rfl, rfl, rfl, trivial⟩, (H.erase 0).weak (by omega) (Nat.le_refl _)⟩
    ·skip
     refine Ops.wanted rfl rfl ?_
     refine Ops.move (v := (vi (safe_Add x1.To by').2)) rfl rfl ?_
     refine Ops.wanted rfl rfl ?_
     refine Ops.int (m := (safe_Add x1.To by').2) (m' := 0) (r := .bool (((safe_Add x1.To by').2) != 0)) rfl rfl rfl rfl rfl ?_
     refine Ops.pickF (v := (vb (((safe_Add x1.To by').2) != 0))) rfl rfl rfl ?_
     apply Ops.nil
     exact ⟨⟨or_F hc2, rfl, rfl, rfl, rfl, rfl, rfl, rfl, trivial⟩, (H.erase 0).weak (by omega) (Nat.le_refl _)⟩
   ·rintro e σ ⟨he, H⟩
    obtain ⟨e, rfl⟩ := he.ex
    refine Ops.move (v := (vb ((((safe_Add x1.From by').2) != 0) || (((safe_Add x1.To by').2) != 0)))) rfl rfl ?_
    refine Ops.mid 4 (K1 := fun e σ => EnvHas e [(43, (vb (((((safe_Add x1.From by').2) != 0) || (((safe_Add x1.To by').2) != 0)) || (!(spans_tick ((safe_Add x1.From by').1)))))), (1, (vi by')), (6, w3), (9, (vi (safe_Add x1.From by').1)), (11, (vi (safe_Add x1.To by').1)), (13, (vl Span.cs l)), (14, (vi (l.length : Int))), (15, (vi s2.1))] ∧ Has σ (b8 + 11) (b8 + 16) [.sl w3 43 2 (s2.2.map Span.cs) true]) rfl ?_ ?_
    ·refine Ops.split rfl rfl ?_ ?_ <;> intro hc3
     ·skip
      refine Ops.pass rfl rfl rfl ?_
      refine Ops.pass rfl rfl rfl ?_
      refine Ops.pass rfl rfl rfl ?_
      refine Ops.pickT (v := (vb true)) rfl rfl rfl ?_
      apply Ops.nil
      exact ⟨⟨or_T hc3, rfl, rfl, rfl, rfl, rfl, rfl, rfl, trivial⟩, H.weak (by omega) (Nat.le_refl _)⟩
     ·skip
      refine Ops.wanted rfl rfl ?_
      refine Ops.move (v := (vi (safe_Add x1.From by').1)) rfl rfl ?_
      refine Ops.wanted rfl rfl ?_
      refine Ops.call (ys := [(vi (safe_Add x1.From by').1)]) (r := (vb (spans_tick ((safe_Add x1.From by').1)))) rfl (spans_tick_fn rfl) rfl ?_
      refine Ops.wanted rfl rfl ?_
      refine Ops.not (b := (spans_tick ((safe_Add x1.From by').1))) rfl rfl ?_
      refine Ops.pickF (v := (vb (!(spans_tick ((safe_Add x1.From by').1))))) rfl rfl rfl ?_
      apply Ops.nil
      exact ⟨⟨or_F hc3, rfl, rfl, rfl, rfl, rfl, rfl, rfl, trivial⟩, H.weak (by omega) (Nat.le_refl _)⟩
    ·rintro e σ ⟨he, H⟩
     obtain ⟨e, rfl⟩ := he.ex
     refine Ops.move (v := (vb (((((safe_Add x1.From by').2) != 0) || (((safe_Add x1.To by').2) != 0)) || (!(spans_tick ((safe_Add x1.From by').1)))))) rfl rfl ?_
     refine Ops.mid 4 (K1 := fun e σ => EnvHas e [(48, (vb ((((((safe_Add x1.From by').2) != 0) || (((safe_Add x1.To by').2) != 0)) || (!(spans_tick ((safe_Add x1.From by').1)))) || (!(spans_tick ((safe_Add x1.To by').1)))))), (1, (vi by')), (6, w3), (9, (vi (safe_Add x1.From by').1)), (11, (vi (safe_Add x1.To by').1)), (13, (vl Span.cs l)), (14, (vi (l.length : Int))), (15, (vi s2.1))] ∧ Has σ (b8 + 16) (b8 + 16) [.sl w3 43 2 (s2.2.map Span.cs) true]) rfl ?_ ?_
     ·refine Ops.split rfl rfl ?_ ?_ <;> intro hc4
      ·skip
       refine Ops.pass rfl rfl rfl ?_
       refine Ops.pass rfl rfl rfl ?_
       refine Ops.pass rfl rfl rfl ?_
       refine Ops.pickT (v := (vb true)) rfl rfl rfl ?_
       apply Ops.nil
       exact ⟨⟨or_T hc4, rfl, rfl, rfl, rfl, rfl, rfl, rfl, trivial⟩, H.weak (by omega) (Nat.le_refl _)⟩
      ·skip
       refine Ops.wanted rfl rfl ?_
       refine Ops.move (v := (vi (safe_Add x1.To by').1)) rfl rfl ?_
       refine Ops.wanted rfl rfl ?_
       refine Ops.call (ys := [(vi (safe_Add x1.To by').1)]) (r := (vb (spans_tick ((safe_Add x1.To by').1)))) rfl (spans_tick_fn rfl) rfl ?_
       refine Ops.wanted rfl rfl ?_
       refine Ops.not (b := (spans_tick ((safe_Add x1.To by').1))) rfl rfl ?_
       refine Ops.pickF (v := (vb (!(spans_tick ((safe_Add x1.To by').1))))) rfl rfl rfl ?_
       apply Ops.nil
       exact ⟨⟨or_F hc4, rfl, rfl, rfl, rfl, rfl, rfl, rfl, trivial⟩, H.weak (by omega) (Nat.le_refl _)⟩
     ·rintro e σ ⟨he, H⟩
      obtain ⟨e, rfl⟩ := he.ex
      apply Ops.nil
      replace H := H.all
      refine Runs.whether (v := ((((((safe_Add x1.From by').2) != 0) || (((safe_Add x1.To by').2) != 0)) || (!(spans_tick ((safe_Add x1.From by').1)))) || (!(spans_tick ((safe_Add x1.To by').1))))) rfl ?_ ?_ <;> intro hc5
      ·replace h := cond_T hc5 h
       apply Runs.then
       refine Runs.regionH 2 rfl H ?_; intro b9 σ H
       refine Ops.assign (v := .nils) rfl rfl ?_
       refine Ops.assign (v := (vi 20)) rfl rfl ?_
       apply Ops.nil
       replace H := H.all
       apply Runs.ret
       replace h := Option.some.inj h; subst h
       exact ⟨nofun, (.inr ⟨_, rfl, rfl, (Ends.H (xs := [.nils, (vi 20)]) (.inr rfl) H (.tmp (v := .nils) rfl (.tmp (v := (vi 20)) rfl .nil)) (.two (.cons (.c .n) (.cons (.c (.v _)) .nil))))⟩)⟩
      ·replace h := cond_F hc5 h
       apply Runs.skip
       refine Runs.regionH 7 rfl H ?_; intro b10 σ H
       refine Ops.move (v := w3) rfl rfl ?_
       refine Ops.move (v := (vi (safe_Add x1.From by').1)) rfl rfl ?_
       refine Ops.move (v := (vi (safe_Add x1.To by').1)) rfl rfl ?_
       refine Ops.buildA (cs := [(vi (safe_Add x1.From by').1), (vi (safe_Add x1.To by').1)]) rfl rfl ?_
       refine Ops.buildS (sz := 2) ([(Span.mk ((safe_Add x1.From by').1) ((safe_Add x1.To by').1))].map Span.cs) H (by omega) (by omega) rfl rfl rfl rfl rfl rfl rfl rfl rfl ?_; intro σ H
       obtain ⟨x2, q2, h⟩ := bind_some h
       refine Ops.appendSt (c := Span.cs) (v := w3) (w := (.buf (b10 + 4) 1 2)) (xs := s2.2) (ys := [(Span.mk ((safe_Add x1.From by').1) ((safe_Add x1.To by').1))]) H (by omega) (by omega) 1 rfl rfl rfl (.s 0 rfl) q2 rfl rfl rfl rfl rfl nofun rfl ?_; intro w5 σ H
       refine Ops.assign (v := w5) rfl rfl ?_
       apply Ops.nil
       replace H := H.all
       refine Runs.regionH 2 rfl H ?_; intro b11 σ H
       refine Ops.int (m := s2.1) (m' := 1) (r := .int .i64 (w64 (s2.1 + 1))) rfl rfl rfl rfl rfl ?_
       refine Ops.move (v := (vi (w64 (s2.1 + 1)))) rfl rfl ?_
       apply Ops.nil
       replace H := H.all
       replace h := Option.some.inj h; subst h
       exact ⟨rfl, w5, ⟨rfl, rfl, rfl, rfl, rfl, trivial⟩, (H.erase 0)⟩
  ·replace h := cond_F hc1 h
   apply Runs.exit
   replace h := Option.some.inj h; subst h
   exact ⟨nofun, (.inl ⟨_, w3, rfl, rfl, ⟨rfl, trivial⟩, H⟩)⟩
 ·rintro x e σ (⟨a2, w6, rfl, rfl, he, H⟩ | ⟨r', rfl, rfl, hE⟩)
  ·skip
   replace h := jgo h
   obtain ⟨e, rfl⟩ := he.ex
   apply Runs.then
   refine Runs.regionH 3 rfl H ?_; intro b12 σ H
   refine Ops.move (v := w6) rfl rfl ?_
   refine Ops.assign (v := w6) rfl rfl ?_
   refine Ops.assign (v := (vi 0)) rfl rfl ?_
   apply Ops.nil
   replace H := H.all
   apply Runs.ret
   replace h := Option.some.inj h; subst h
   exact (Ends.H (xs := [w6, (vi 0)]) (.inr rfl) H (.tmp (v := w6) rfl (.tmp (v := (vi 0)) rfl .nil)) (.two (.cons (.c (.s 0 rfl)) (.cons (.c (.v _)) .nil))))
  ·skip
   replace h := jret h
   replace h := Option.some.inj h; subst h
   exact hE

set_option maxRecDepth 100000 in
set_option maxHeartbeats 4000000 in
theorem gran_Get_fn {f : Form} {i : Int} {r : (List Span) × Int} (h : gran_Get f i = some r) : Fn CX 31 [(.agg (vs (Form.cs f))), (vi i)] (.tup [(vl Span.cs r.1), (vi r.2)]) := by
 refine Fn.ends Try.func31 rfl rfl rfl rfl rfl rfl ?_
 have H : Hs (⟨0, fun _ => .none⟩ : Heap) [] := Has.nil (Nat.le_refl _)
 generalize (⟨0, fun _ => .none⟩ : Heap) = σ at H ⊢
 unfold gran_Get at h
 apply Runs.then
 refine Runs.regionH 3 rfl H ?_; intro b1 σ H
 refine Ops.boxH (v := (.agg [(vi f.Period), (vi f.Count), (vl (cL Span.cs) f.Core), (vl Granule.cs f.Odd)])) (cs := [(vi f.Period), (vi f.Count), (vl (cL Span.cs) f.Core), (vl Granule.cs f.Odd)]) H (by omega) (by omega) rfl rfl rfl ?_; intro σ H
 refine Ops.assign (v := .nils) rfl rfl ?_
 refine Ops.assign (v := (vi 0)) rfl rfl ?_
 apply Ops.nil
 replace H := H.all
 apply Runs.then
 apply Runs.then
 refine Runs.regionH 3 rfl H ?_; intro b2 σ H
 refine Ops.move (v := (vi i)) rfl rfl ?_
 refine Ops.call (ys := [(vi i)]) (r := (vb (gran_inRange i))) rfl (gran_inRange_fn rfl) rfl ?_
 refine Ops.not (b := (gran_inRange i)) rfl rfl ?_
 apply Ops.nil
 replace H := H.all
 refine Runs.whether (v := (!(gran_inRange i))) rfl ?_ ?_ <;> intro hc1
 ·replace h := cond_T hc1 h
  apply Runs.then
  refine Runs.regionH 2 rfl H ?_; intro b3 σ H
  refine Ops.assign (v := .nils) rfl rfl ?_
  refine Ops.assign (v := (vi 20)) rfl rfl ?_
  apply Ops.nil
  replace H := H.all
  apply Runs.ret
  replace h := Option.some.inj h; subst h
  exact (Ends.H (xs := [.nils, (vi 20)]) (.inr rfl) H (.tmp (v := .nils) rfl (.tmp (v := (vi 20)) rfl .nil)) (.two (.cons (.c .n) (.cons (.c (.v _)) .nil))))
 ·replace h := cond_F hc1 h
  apply Runs.skip
  apply Runs.then
  refine Runs.regionH 10 rfl H ?_; intro b4 σ H
  refine Ops.loadHA (off := 0) (cs := [(vi f.Period), (vi f.Count), (vl (cL Span.cs) f.Core), (vl Granule.cs f.Odd)]) H 0 rfl rfl rfl rfl rfl rfl rfl nofun rfl ?_
  refine Ops.move (v := (vi i)) rfl rfl ?_
  obtain ⟨x1, q1, h⟩ := bind_some h
  refine Ops.call (ys := [(.agg [(vi f.Period), (vi f.Count), (vl (cL Span.cs) f.Core), (vl Granule.cs f.Odd)]), (vi i)]) (r := (.tup [(vl Span.cs x1.1), (vi x1.2.1), (vi x1.2.2)])) rfl (gran_kept_fn q1) rfl ?_
  refine Ops.move (v := (.tup [(vl Span.cs x1.1), (vi x1.2.1), (vi x1.2.2)])) rfl rfl ?_
  refine Ops.extract (v := (vl Span.cs x1.1)) rfl rfl rfl ?_
  refine Ops.extract (v := (vi x1.2.1)) rfl rfl rfl ?_
  refine Ops.extract (v := (vi x1.2.2)) rfl rfl rfl ?_
  refine Ops.assign (v := (vl Span.cs x1.1)) rfl rfl ?_
  refine Ops.assign (v := (vi x1.2.1)) rfl rfl ?_
  refine Ops.assign (v := (vi x1.2.2)) rfl rfl ?_
  apply Ops.nil
  replace H := H.all
  apply Runs.then
  apply Runs.then
  refine Runs.regionH 3 rfl H ?_; intro b5 σ H
  refine Ops.move (v := (vl Span.cs x1.1)) rfl rfl ?_
  refine Ops.lenPt (c := Span.cs) (xs := x1.1) rfl rfl rfl ?_
  refine Ops.int (m := (x1.1.length : Int)) (m' := 0) (r := .bool ((x1.1.length : Int) == 0)) rfl rfl rfl rfl rfl ?_
  apply Ops.nil
  replace H := H.all
  refine Runs.whether (v := ((x1.1.length : Int) == 0)) rfl ?_ ?_ <;> intro hc2
  ·replace h := cond_T hc2 h
   apply Runs.then
   refine Runs.regionH 2 rfl H ?_; intro b6 σ H
   refine Ops.assign (v := .nils) rfl rfl ?_
   refine Ops.assign (v := (vi 0)) rfl rfl ?_
   apply Ops.nil
   replace H := H.all
   apply Runs.ret
   replace h := Option.some.inj h; subst h
   exact (Ends.H (xs := [.nils, (vi 0)]) (.inr rfl) H (.tmp (v := .nils) rfl (.tmp (v := (vi 0)) rfl .nil)) (.two (.cons (.c .n) (.cons (.c (.v _)) .nil))))
  ·replace h := cond_F hc2 h
   apply Runs.skip
   apply Runs.then
   apply Runs.then
   refine Runs.regionH 2 rfl H ?_; intro b7 σ H
   refine Ops.move (v := (vi x1.2.2)) rfl rfl ?_
   refine Ops.int (m := x1.2.2) (m' := 0) (r := .bool (x1.2.2 != 0)) rfl rfl rfl rfl rfl ?_
   apply Ops.nil
   replace H := H.all
   refine Runs.whether (v := (x1.2.2 != 0)) rfl ?_ ?_ <;> intro hc3
   ·replace h := cond_T hc3 h
    apply Runs.then
    refine Runs.regionH 2 rfl H ?_; intro b8 σ H
    refine Ops.assign (v := .nils) rfl rfl ?_
    refine Ops.assign (v := (vi 20)) rfl rfl ?_
    apply Ops.nil
    replace H := H.all
    apply Runs.ret
    replace h := Option.some.inj h; subst h
    exact (Ends.H (xs := [.nils, (vi 20)]) (.inr rfl) H (.tmp (v := .nils) rfl (.tmp (v := (vi 20)) rfl .nil)) (.two (.cons (.c .n) (.cons (.c (.v _)) .nil))))
   ·replace h := cond_F hc3 h
    apply Runs.skip
    apply Runs.then
    refine Runs.regionH 7 rfl H ?_; intro b9 σ H
    refine Ops.move (v := (vl Span.cs x1.1)) rfl rfl ?_
    refine Ops.move (v := (vi x1.2.1)) rfl rfl ?_
    obtain ⟨x2, q2, h⟩ := bind_some h
    refine Ops.call (ys := [(vl Span.cs x1.1), (vi x1.2.1)]) (r := (.tup [(vl Span.cs x2.1), (vi x2.2)])) rfl (spans_Move_fn q2) rfl ?_
    refine Ops.extract (v := (vl Span.cs x2.1)) rfl rfl rfl ?_
    refine Ops.extract (v := (vi x2.2)) rfl rfl rfl ?_
    refine Ops.assign (v := (vl Span.cs x2.1)) rfl rfl ?_
    refine Ops.assign (v := (vi x2.2)) rfl rfl ?_
    apply Ops.nil
    replace H := H.all
    apply Runs.ret
    replace h := Option.some.inj h; subst h
    exact (Ends.H (xs := [(vl Span.cs x2.1), (vi x2.2)]) (.inr rfl) H (.tmp (v := (vl Span.cs x2.1)) rfl (.tmp (v := (vi x2.2)) rfl .nil)) (.two (.cons (.c (.v _)) (.cons (.c (.v _)) .nil))))

set_option maxRecDepth 100000 in
set_option maxHeartbeats 4000000 in
theorem slices_IndexFunc_SSSpan_SSpan_fn {s : (List (List Span))} {f : (List Span) → Option Bool} {C : List Res} {cv0 : PV} (hs0 : cv0.still = true) (hp0 : cv0.pure = true → C = []) (hf0 : ∀ z0 y, f z0 = some y → CloH CX cv0 [(vl Span.cs z0)] (vb y) C) {r : Int} (h : slices_IndexFunc_SSSpan_SSpan s f = some r) : FnH CX 131 [(vl (cL Span.cs) s), cv0] (vi r) C := by
 refine FnH.of Try.func131 rfl rfl rfl rfl (all_t rfl (all_t hs0 all_nil)) rfl (fun h => hp0 (all_get h 1 rfl)) ?_
 intro σ L hC H
 unfold slices_IndexFunc_SSSpan_SSpan at h
 apply Runs.then
 refine Runs.regionH 1 rfl H ?_; intro b1 σ H
 refine Ops.assign (v := (vi 0)) rfl rfl ?_
 apply Ops.nil
 replace H := H.all
 apply Runs.then
 apply Runs.then
 refine Runs.regionH 3 rfl H ?_; intro b2 σ H
 refine Ops.move (v := (vl (cL Span.cs) s)) rfl rfl ?_
 refine Ops.lenPt (c := (cL Span.cs)) (xs := s) rfl rfl rfl ?_
 refine Ops.move (v := (vi 0)) rfl rfl ?_
 apply Ops.nil
 replace H := H.all
 apply Runs.inBlock
 obtain ⟨y1, hj1, h⟩ := bind_some h
 obtain ⟨n1, hj1⟩ := loopO_iff.1 hj1
 refine Runs.mono (Runs.loopO hj1 (fun s1 e σ => EnvHas e [(0, (vl (cL Span.cs) s)), (1, cv0), (7, (vi (s.length : Int))), (8, (vi s1))] ∧ Hs σ (L)) (fun y1 x e σ => (∃ a1, y1 = (.go a1) ∧ x = .exit 0 ∧ EnvHas e [] ∧ Hs σ (L)) ∨ (∃ r', y1 = (.ret r') ∧ x = .ret ∧ EndsH CX Try.f131.results.toList (vi r') L x e σ)) ⟨⟨rfl, rfl, rfl, rfl, trivial⟩, H⟩ ?_) ?_
 ·intro s1 e σ hI z h
  obtain ⟨he, H⟩ := hI
  obtain ⟨e, rfl⟩ := he.ex
  unfold slices_IndexFunc_SSSpan_SSpan.s0 at h
  apply Runs.then
  refine Runs.regionH 1 rfl H ?_; intro b3 σ H
  refine Ops.int (m := s1) (m' := (s.length : Int)) (r := .bool (decide (s1 < (s.length : Int)))) rfl rfl rfl rfl rfl ?_
  apply Ops.nil
  replace H := H.all
  apply Runs.then
  refine Runs.whether (v := (decide (s1 < (s.length : Int)))) rfl ?_ ?_ <;> intro hc1
  ·replace h := cond_T hc1 h
   apply Runs.skip
   apply Runs.then
   apply Runs.inBlock
   apply Runs.then
   refine Runs.regionH 2 rfl H ?_; intro b4 σ H
   refine Ops.move (v := (vi s1)) rfl rfl ?_
   refine Ops.assign (v := (vi s1)) rfl rfl ?_
   apply Ops.nil
   replace H := H.all
   apply Runs.then
   refine Runs.regionH 6 rfl H ?_; intro b5 σ H
   refine Ops.move (v := cv0) rfl rfl ?_
   refine Ops.move (v := (vl (cL Span.cs) s)) rfl rfl ?_
   refine Ops.move (v := (vi s1)) rfl rfl ?_
   obtain ⟨x1, q1, h⟩ := bind_some h
   refine Ops.indexP (c := (cL Span.cs)) (u := x1) rfl rfl q1 rfl rfl rfl rfl ?_
   refine Ops.loadP (u := (.sl (x1.map Span.cs))) rfl rfl rfl rfl ?_
   obtain ⟨x2, q2, h⟩ := bind_some h
   refine Ops.callV (cv := cv0) (ys := [(vl Span.cs x1)]) (r := (vb x2)) H rfl rfl (hf0 x1 _ q2) hC nofun rfl ?_; intro σ H
   apply Ops.nil
   replace H := H.all
   refine Runs.whether (v := x2) rfl ?_ ?_ <;> intro hc2
   ·replace h := cond_T hc2 h
    apply Runs.then
    refine Runs.regionH 2 rfl H ?_; intro b6 σ H
    refine Ops.move (v := (vi s1)) rfl rfl ?_
    refine Ops.assign (v := (vi s1)) rfl rfl ?_
    apply Ops.nil
    replace H := H.all
    apply Runs.ret
    replace h := Option.some.inj h; subst h
    exact ⟨nofun, (.inr ⟨_, rfl, rfl, (EndsH.H (xs := [(vi s1)]) (.inr rfl) H (.tmp (v := (vi s1)) rfl .nil) (.one (.c (.v _))) 0 rfl)⟩)⟩
   ·replace h := cond_F hc2 h
    apply Runs.skip
    refine Runs.regionH 2 rfl H ?_; intro b7 σ H
    refine Ops.int (m := s1) (m' := 1) (r := .int .i64 (w64 (s1 + 1))) rfl rfl rfl rfl rfl ?_
    refine Ops.move (v := (vi (w64 (s1 + 1)))) rfl rfl ?_
    apply Ops.nil
    replace H := H.all
    replace h := Option.some.inj h; subst h
    exact ⟨rfl, ⟨rfl, rfl, rfl, rfl, trivial⟩, H⟩
  ·replace h := cond_F hc1 h
   apply Runs.exit
   replace h := Option.some.inj h; subst h
   exact ⟨nofun, (.inl ⟨_, rfl, rfl, trivial, H⟩)⟩
 ·rintro x e σ (⟨a2, rfl, rfl, he, H⟩ | ⟨r', rfl, rfl, hE⟩)
  ·skip
   replace h := jgo h
   obtain ⟨e, rfl⟩ := he.ex
   apply Runs.then
   refine Runs.regionH 1 rfl H ?_; intro b8 σ H
   refine Ops.assign (v := (vi (-1))) rfl rfl ?_
   apply Ops.nil
   replace H := H.all
   apply Runs.ret
   replace h := Option.some.inj h; subst h
   exact (EndsH.H (xs := [(vi (-1))]) (.inr rfl) H (.tmp (v := (vi (-1))) rfl .nil) (.one (.c (.v _))) 0 rfl)
  ·skip
   replace h := jret h
   replace h := Option.some.inj h; subst h
   exact hE

set_option maxRecDepth 100000 in
set_option maxHeartbeats 4000000 in
theorem slices_ContainsFunc_SSSpan_SSpan_fn {s : (List (List Span))} {f : (List Span) → Option Bool} {C : List Res} {cv0 : PV} (hs0 : cv0.still = true) (hp0 : cv0.pure = true → C = []) (hf0 : ∀ z0 y, f z0 = some y → CloH CX cv0 [(vl Span.cs z0)] (vb y) C) {r : Bool} (h : slices_ContainsFunc_SSSpan_SSpan s f = some r) : FnH CX 116 [(vl (cL Span.cs) s), cv0] (vb r) C := by
 refine FnH.of Try.func116 rfl rfl rfl rfl (all_t rfl (all_t hs0 all_nil)) rfl (fun h => hp0 (all_get h 1 rfl)) ?_
 intro σ L hC H
 unfold slices_ContainsFunc_SSSpan_SSpan at h
 apply Runs.then
 refine Runs.regionH 1 rfl H ?_; intro b1 σ H
 refine Ops.assign (v := (vb false)) rfl rfl ?_
 apply Ops.nil
 replace H := H.all
 apply Runs.then
 refine Runs.regionH 5 rfl H ?_; intro b2 σ H
 refine Ops.move (v := (vl (cL Span.cs) s)) rfl rfl ?_
 refine Ops.move (v := cv0) rfl rfl ?_
 obtain ⟨x1, q1, h⟩ := bind_some h
 refine Ops.callH (ys := [(vl (cL Span.cs) s), cv0]) (r := (vi x1)) H rfl (slices_IndexFunc_SSSpan_SSpan_fn (C := C) hs0 hp0 hf0 q1) hC nofun rfl ?_; intro σ H
 refine Ops.int (m := x1) (m' := 0) (r := .bool (decide (x1 ≥ 0))) rfl rfl rfl rfl rfl ?_
 refine Ops.assign (v := (vb (decide (x1 ≥ 0)))) rfl rfl ?_
 apply Ops.nil
 replace H := H.all
 apply Runs.ret
 replace h := Option.some.inj h; subst h
 exact (EndsH.H (xs := [(vb (decide (x1 ≥ 0)))]) (.inr rfl) H (.tmp (v := (vb (decide (x1 ≥ 0)))) rfl .nil) (.one (.c (.v _))) 0 rfl)

set_option maxRecDepth 100000 in
set_option maxHeartbeats 4000000 in
theorem gran_bare_1_fn {l : (List Span)} {r : Bool} (h : gran_bare_1 l = r) : Fn CX 134 [(vl Span.cs l)] (vb r) := by
 refine Fn.ends Try.func134 rfl rfl rfl rfl rfl rfl ?_
 have H : Hs (⟨0, fun _ => .none⟩ : Heap) [] := Has.nil (Nat.le_refl _)
 generalize (⟨0, fun _ => .none⟩ : Heap) = σ at H ⊢
 unfold gran_bare_1 at h
 apply Runs.then
 refine Runs.regionH 1 rfl H ?_; intro b1 σ H
 refine Ops.assign (v := (vb false)) rfl rfl ?_
 apply Ops.nil
 replace H := H.all
 apply Runs.then
 refine Runs.regionH 4 rfl H ?_; intro b2 σ H
 refine Ops.move (v := (vl Span.cs l)) rfl rfl ?_
 refine Ops.lenPt (c := Span.cs) (xs := l) rfl rfl rfl ?_
 refine Ops.int (m := (l.length : Int)) (m' := 0) (r := .bool (decide ((l.length : Int) > 0))) rfl rfl rfl rfl rfl ?_
 refine Ops.assign (v := (vb (decide ((l.length : Int) > 0)))) rfl rfl ?_
 apply Ops.nil
 replace H := H.all
 apply Runs.ret
 subst h
 exact (Ends.H (xs := [(vb (decide ((l.length : Int) > 0)))]) (.inr rfl) H (.tmp (v := (vb (decide ((l.length : Int) > 0)))) rfl .nil) (.one (.c (.v _))))

set_option maxRecDepth 100000 in
set_option maxHeartbeats 4000000 in
theorem gran_bare_fn {f : Form} {r : Bool} (h : gran_bare f = some r) : Fn CX 122 [(.agg (vs (Form.cs f)))] (vb r) := by
 refine Fn.ends Try.func122 rfl rfl rfl rfl rfl rfl ?_
 have H : Hs (⟨0, fun _ => .none⟩ : Heap) [] := Has.nil (Nat.le_refl _)
 generalize (⟨0, fun _ => .none⟩ : Heap) = σ at H ⊢
 unfold gran_bare at h
 apply Runs.then
 refine Runs.regionH 2 rfl H ?_; intro b1 σ H
 refine Ops.boxH (v := (.agg [(vi f.Period), (vi f.Count), (vl (cL Span.cs) f.Core), (vl Granule.cs f.Odd)])) (cs := [(vi f.Period), (vi f.Count), (vl (cL Span.cs) f.Core), (vl Granule.cs f.Odd)]) H (by omega) (by omega) rfl rfl rfl ?_; intro σ H
 refine Ops.assign (v := (vb false)) rfl rfl ?_
 apply Ops.nil
 replace H := H.all
 apply Runs.then
 refine Runs.regionH 5 rfl H ?_; intro b2 σ H
 refine Ops.fieldAddrH (off := 0) (fo := 2) H 0 rfl rfl rfl rfl rfl nofun rfl ?_
 refine Ops.loadH (off := 2) (v := (vl (cL Span.cs) f.Core)) H 0 rfl rfl rfl rfl rfl nofun rfl ?_
 obtain ⟨x1, q1, h⟩ := bind_some h
 refine Ops.callH (ys := [(vl (cL Span.cs) f.Core), (.v (.fn 134))]) (r := (vb x1)) H rfl (slices_ContainsFunc_SSSpan_SSpan_fn (C := []) rfl (fun _ => rfl) (fun z0 y hz => (CloH.fn (Fn.toH (gran_bare_1_fn (Option.some.inj hz)) _))) q1) .nil nofun rfl ?_; intro σ H
 refine Ops.not (b := x1) rfl rfl ?_
 refine Ops.assign (v := (vb (!x1))) rfl rfl ?_
 apply Ops.nil
 replace H := H.all
 apply Runs.ret
 replace h := Option.some.inj h; subst h
 exact (Ends.H (xs := [(vb (!x1))]) (.inr rfl) H (.tmp (v := (vb (!x1))) rfl .nil) (.one (.c (.v _))))

set_option maxRecDepth 100000 in
set_option maxHeartbeats 4000000 in
theorem gran_some_fn {f : Form} {i : Int} {r : Bool} (h : gran_some f i = some r) : Fn CX 123 [(.agg (vs (Form.cs f))), (vi i)] (vb r) := by
 refine Fn.ends Try.func123 rfl rfl rfl rfl rfl rfl ?_
 have H : Hs (⟨0, fun _ => .none⟩ : Heap) [] := Has.nil (Nat.le_refl _)
 generalize (⟨0, fun _ => .none⟩ : Heap) = σ at H ⊢
 unfold gran_some at h
 apply Runs.then
 refine Runs.regionH 2 rfl H ?_; intro b1 σ H
 refine Ops.boxH (v := (.agg [(vi f.Period), (vi f.Count), (vl (cL Span.cs) f.Core), (vl Granule.cs f.Odd)])) (cs := [(vi f.Period), (vi f.Count), (vl (cL Span.cs) f.Core), (vl Granule.cs f.Odd)]) H (by omega) (by omega) rfl rfl rfl ?_; intro σ H
 refine Ops.assign (v := (vb false)) rfl rfl ?_
 apply Ops.nil
 replace H := H.all
 apply Runs.then
 refine Runs.regionH 10 rfl H ?_; intro b2 σ H
 refine Ops.loadHA (off := 0) (cs := [(vi f.Period), (vi f.Count), (vl (cL Span.cs) f.Core), (vl Granule.cs f.Odd)]) H 0 rfl rfl rfl rfl rfl rfl rfl nofun rfl ?_
 refine Ops.move (v := (vi i)) rfl rfl ?_
 obtain ⟨x1, q1, h⟩ := bind_some h
 refine Ops.call (ys := [(.agg [(vi f.Period), (vi f.Count), (vl (cL Span.cs) f.Core), (vl Granule.cs f.Odd)]), (vi i)]) (r := (.tup [(vl Span.cs x1.1), (vi x1.2.1), (vi x1.2.2)])) rfl (gran_kept_fn q1) rfl ?_
 refine Ops.move (v := (.tup [(vl Span.cs x1.1), (vi x1.2.1), (vi x1.2.2)])) rfl rfl ?_
 refine Ops.extract (v := (vl Span.cs x1.1)) rfl rfl rfl ?_
 refine Ops.extract (v := (vi x1.2.1)) rfl rfl rfl ?_
 refine Ops.extract (v := (vi x1.2.2)) rfl rfl rfl ?_
 refine Ops.assign (v := (vl Span.cs x1.1)) rfl rfl ?_
 refine Ops.assign (v := (vi x1.2.1)) rfl rfl ?_
 refine Ops.assign (v := (vi x1.2.2)) rfl rfl ?_
 apply Ops.nil
 replace H := H.all
 apply Runs.then
 refine Runs.regionH 4 rfl H ?_; intro b3 σ H
 refine Ops.move (v := (vl Span.cs x1.1)) rfl rfl ?_
 refine Ops.lenPt (c := Span.cs) (xs := x1.1) rfl rfl rfl ?_
 refine Ops.int (m := (x1.1.length : Int)) (m' := 0) (r := .bool (decide ((x1.1.length : Int) > 0))) rfl rfl rfl rfl rfl ?_
 refine Ops.assign (v := (vb (decide ((x1.1.length : Int) > 0)))) rfl rfl ?_
 apply Ops.nil
 replace H := H.all
 apply Runs.ret
 replace h := Option.some.inj h; subst h
 exact (Ends.H (xs := [(vb (decide ((x1.1.length : Int) > 0)))]) (.inr rfl) H (.tmp (v := (vb (decide ((x1.1.length : Int) > 0)))) rfl .nil) (.one (.c (.v _))))

set_option maxRecDepth 100000 in
set_option maxHeartbeats 4000000 in
theorem gran_step_fn {f : Form} {from' : Int} {by' : Int} {r : Int × Bool} (h : gran_step f from' by' = some r) : Fn CX 97 [(.agg (vs (Form.cs f))), (vi from'), (vi by')] (.tup [(vi r.1), (vb r.2)]) := by
 refine Fn.ends Try.func97 rfl rfl rfl rfl rfl rfl ?_
 have H : Hs (⟨0, fun _ => .none⟩ : Heap) [] := Has.nil (Nat.le_refl _)
 generalize (⟨0, fun _ => .none⟩ : Heap) = σ at H ⊢
 unfold gran_step at h
 apply Runs.then
 refine Runs.regionH 3 rfl H ?_; intro b1 σ H
 refine Ops.boxH (v := (.agg [(vi f.Period), (vi f.Count), (vl (cL Span.cs) f.Core), (vl Granule.cs f.Odd)])) (cs := [(vi f.Period), (vi f.Count), (vl (cL Span.cs) f.Core), (vl Granule.cs f.Odd)]) H (by omega) (by omega) rfl rfl rfl ?_; intro σ H
 refine Ops.assign (v := (vi 0)) rfl rfl ?_
 refine Ops.assign (v := (vb false)) rfl rfl ?_
 apply Ops.nil
 replace H := H.all
 apply Runs.then
 apply Runs.then
 refine Runs.regionH 2 rfl H ?_; intro b2 σ H
 refine Ops.loadHA (off := 0) (cs := [(vi f.Period), (vi f.Count), (vl (cL Span.cs) f.Core), (vl Granule.cs f.Odd)]) H 0 rfl rfl rfl rfl rfl rfl rfl nofun rfl ?_
 obtain ⟨x1, q1, h⟩ := bind_some h
 refine Ops.call (ys := [(.agg [(vi f.Period), (vi f.Count), (vl (cL Span.cs) f.Core), (vl Granule.cs f.Odd)])]) (r := (vb x1)) rfl (gran_bare_fn q1) rfl ?_
 apply Ops.nil
 replace H := H.all
 refine Runs.whether (v := x1) rfl ?_ ?_ <;> intro hc1
 ·replace h := cond_T hc1 h
  apply Runs.then
  refine Runs.regionH 8 rfl H ?_; intro b3 σ H
  refine Ops.loadHA (off := 0) (cs := [(vi f.Period), (vi f.Count), (vl (cL Span.cs) f.Core), (vl Granule.cs f.Odd)]) H 0 rfl rfl rfl rfl rfl rfl rfl nofun rfl ?_
  refine Ops.move (v := (vi from')) rfl rfl ?_
  obtain ⟨x2, q2, h⟩ := bind_some h
  refine Ops.call (ys := [(.agg [(vi f.Period), (vi f.Count), (vl (cL Span.cs) f.Core), (vl Granule.cs f.Odd)]), (vi from')]) (r := (.tup [(vi x2.1), (vb x2.2)])) rfl (gran_odd_fn q2) rfl ?_
  refine Ops.move (v := (.tup [(vi x2.1), (vb x2.2)])) rfl rfl ?_
  refine Ops.extract (v := (vi x2.1)) rfl rfl rfl ?_
  refine Ops.extract (v := (vb x2.2)) rfl rfl rfl ?_
  refine Ops.assign (v := (vi x2.1)) rfl rfl ?_
  refine Ops.assign (v := (vb x2.2)) rfl rfl ?_
  apply Ops.nil
  replace H := H.all
  apply Runs.then
  obtain ⟨y1, hj1, h⟩ := bind_some h
  refine Runs.mono (Q := fun x e σ => x = .normal ∧ EnvHas e [(2, (vi by')), (3, (.ptr (b1 + 0) 4 0)), (8, (vi y1))] ∧ Hs σ [.blk (b1 + 0) 25 [(vi f.Period), (vi f.Count), (vl (cL Span.cs) f.Core), (vl Granule.cs f.Odd)]]) ?_ ?_
  ·replace h := hj1
   apply Runs.then
   refine Runs.regionH 6 rfl H ?_; intro b4 σ H
   refine Ops.move (v := (vi by')) rfl rfl ?_
   refine Ops.int (m := by') (m' := 0) (r := .bool (decide (by' < 0))) rfl rfl rfl rfl rfl ?_
   refine Ops.move (v := (vb (decide (by' < 0)))) rfl rfl ?_
   refine Ops.mid 3 (K1 := fun e σ => EnvHas e [(24, (vb ((decide (by' < 0)) && (!x2.2)))), (2, (vi by')), (3, (.ptr (b1 + 0) 4 0)), (8, (vi x2.1))] ∧ Has σ (b4 + 6) (b4 + 6) [.blk (b1 + 0) 25 [(vi f.Period), (vi f.Count), (vl (cL Span.cs) f.Core), (vl Granule.cs f.Odd)]]) rfl ?_ ?_
   ·refine Ops.split rfl rfl ?_ ?_ <;> intro hc2
    ·skip
     refine Ops.wanted rfl rfl ?_
     refine Ops.move (v := (vb x2.2)) rfl rfl ?_
     refine Ops.wanted rfl rfl ?_
     refine Ops.not (b := x2.2) rfl rfl ?_
     refine Ops.pickT (v := (vb (!x2.2))) rfl rfl rfl ?_
     apply Ops.nil
     exact ⟨⟨and_T hc2, rfl, rfl, rfl, trivial⟩, H.weak (by omega) (Nat.le_refl _)⟩
    ·skip
     refine Ops.pass rfl rfl rfl ?_
     refine Ops.pass rfl rfl rfl ?_
     refine Ops.pickF (v := (vb false)) rfl rfl rfl ?_
     apply Ops.nil
     exact ⟨⟨and_F hc2, rfl, rfl, rfl, trivial⟩, H.weak (by omega) (Nat.le_refl _)⟩
   ·rintro e σ ⟨he, H⟩
    obtain ⟨e, rfl⟩ := he.ex
    apply Ops.nil
    replace H := H.all
    refine Runs.whether (v := ((decide (by' < 0)) && (!x2.2))) rfl ?_ ?_ <;> intro hc3
    ·replace h := cond_T hc3 h
     refine Runs.regionH 3 rfl H ?_; intro b5 σ H
     refine Ops.move (v := (vi x2.1)) rfl rfl ?_
     refine Ops.int (m := x2.1) (m' := 1) (r := .int .i64 (w64 (x2.1 - 1))) rfl rfl rfl rfl rfl ?_
     refine Ops.assign (v := (vi (w64 (x2.1 - 1)))) rfl rfl ?_
     apply Ops.nil
     replace H := H.all
     replace h := Option.some.inj h; subst h
     exact ⟨rfl, ⟨rfl, rfl, rfl, trivial⟩, H⟩
    ·replace h := cond_F hc3 h
     apply Runs.skip
     replace h := Option.some.inj h; subst h
     exact ⟨rfl, ⟨rfl, rfl, rfl, trivial⟩, H⟩
  ·rintro x e σ ⟨rfl, he, H⟩
   obtain ⟨e, rfl⟩ := he.ex
   apply Runs.then
   apply Runs.inBlock
   obtain ⟨y2, hj2, h⟩ := bind_some h
   obtain ⟨n1, hj2⟩ := loopO_iff.1 hj2
   refine Runs.mono (Runs.loopO hj2 (fun s1 e σ => EnvHas e [(2, (vi by')), (3, (.ptr (b1 + 0) 4 0)), (8, (vi s1))] ∧ Hs σ [.blk (b1 + 0) 25 [(vi f.Period), (vi f.Count), (vl (cL Span.cs) f.Core), (vl Granule.cs f.Odd)]]) (fun y2 x e σ => (∃ a1, y2 = (.go a1) ∧ x = .exit 0 ∧ EnvHas e [] ∧ Hs σ []) ∨ (∃ r', y2 = (.ret r') ∧ x = .ret ∧ Ends CX Try.f97.results.toList (.tup [(vi r'.1), (vb r'.2)]) x e σ)) ⟨⟨rfl, rfl, rfl, trivial⟩, H⟩ ?_) ?_
   ·intro s1 e σ hI z h
    obtain ⟨he, H⟩ := hI
    obtain ⟨e, rfl⟩ := he.ex
    unfold gran_step.s0 at h
    apply Runs.then
    apply Runs.then
    refine Runs.regionH 9 rfl H ?_; intro b6 σ H
    refine Ops.move (v := (vi s1)) rfl rfl ?_
    refine Ops.int (m := s1) (m' := 0) (r := .bool (decide (s1 ≥ 0))) rfl rfl rfl rfl rfl ?_
    refine Ops.move (v := (vb (decide (s1 ≥ 0)))) rfl rfl ?_
    refine Ops.mid 6 (K1 := fun e σ => EnvHas e [(35, (vb ((decide (s1 ≥ 0)) && (decide (s1 < (f.Odd.length : Int)))))), (2, (vi by')), (3, (.ptr (b1 + 0) 4 0)), (8, (vi s1))] ∧ Has σ (b6 + 9) (b6 + 9) [.blk (b1 + 0) 25 [(vi f.Period), (vi f.Count), (vl (cL Span.cs) f.Core), (vl Granule.cs f.Odd)]]) rfl ?_ ?_
    ·refine Ops.split rfl rfl ?_ ?_ <;> intro hc4
     ·skip
      refine Ops.wanted rfl rfl ?_
      refine Ops.move (v := (vi s1)) rfl rfl ?_
      refine Ops.wanted rfl rfl ?_
      refine Ops.fieldAddrH (off := 0) (fo := 3) H 0 rfl rfl rfl rfl rfl nofun rfl ?_
      refine Ops.wanted rfl rfl ?_
      refine Ops.loadH (off := 3) (v := (vl Granule.cs f.Odd)) H 0 rfl rfl rfl rfl rfl nofun rfl ?_
      refine Ops.wanted rfl rfl ?_
      refine Ops.lenPt (c := Granule.cs) (xs := f.Odd) rfl rfl rfl ?_
      refine Ops.wanted rfl rfl ?_
      refine Ops.int (m := s1) (m' := (f.Odd.length : Int)) (r := .bool (decide (s1 < (f.Odd.length : Int)))) rfl rfl rfl rfl rfl ?_
      refine Ops.pickT (v := (vb (decide (s1 < (f.Odd.length : Int))))) rfl rfl rfl ?_
      apply Ops.nil
      exact ⟨⟨and_T hc4, rfl, rfl, rfl, trivial⟩, H.weak (by omega) (Nat.le_refl _)⟩
     ·skip
      refine Ops.pass rfl rfl rfl ?_
      refine Ops.pass rfl rfl rfl ?_
      refine Ops.pass rfl rfl rfl ?_
      refine Ops.pass rfl rfl rfl ?_
      refine Ops.pass rfl rfl rfl ?_
      refine Ops.pickF (v := (vb false)) rfl rfl rfl ?_
      apply Ops.nil
      exact ⟨⟨and_F hc4, rfl, rfl, rfl, trivial⟩, H.weak (by omega) (Nat.le_refl _)⟩
    ·rintro e σ ⟨he, H⟩
     obtain ⟨e, rfl⟩ := he.ex
     apply Ops.nil
     replace H := H.all
     refine Runs.whether (v := ((decide (s1 ≥ 0)) && (decide (s1 < (f.Odd.length : Int))))) rfl ?_ ?_ <;> intro hc5
     ·replace h := cond_T hc5 h
      apply Runs.skip
      apply Runs.then
      apply Runs.inBlock
      apply Runs.then
      refine Runs.regionH 8 rfl H ?_; intro b7 σ H
      refine Ops.fieldAddrH (off := 0) (fo := 3) H 0 rfl rfl rfl rfl rfl nofun rfl ?_
      refine Ops.loadH (off := 3) (v := (vl Granule.cs f.Odd)) H 0 rfl rfl rfl rfl rfl nofun rfl ?_
      refine Ops.move (v := (vi s1)) rfl rfl ?_
      obtain ⟨x3, q3, h⟩ := bind_some h
      refine Ops.indexP (c := Granule.cs) (u := x3) rfl rfl q3 rfl rfl rfl rfl ?_
      refine Ops.fieldAddrP rfl rfl rfl rfl ?_
      refine Ops.loadP (u := (.sl (x3.Ticks.map Span.cs))) rfl rfl rfl rfl ?_
      refine Ops.lenPt (c := Span.cs) (xs := x3.Ticks) rfl rfl rfl ?_
      refine Ops.int (m := (x3.Ticks.length : Int)) (m' := 0) (r := .bool (decide ((x3.Ticks.length : Int) > 0))) rfl rfl rfl rfl rfl ?_
      apply Ops.nil
      replace H := H.all
      refine Runs.whether (v := (decide ((x3.Ticks.length : Int) > 0))) rfl ?_ ?_ <;> intro hc6
      ·replace h := cond_T hc6 h
       apply Runs.then
       refine Runs.regionH 8 rfl H ?_; intro b8 σ H
       refine Ops.fieldAddrH (off := 0) (fo := 3) H 0 rfl rfl rfl rfl rfl nofun rfl ?_
       refine Ops.loadH (off := 3) (v := (vl Granule.cs f.Odd)) H 0 rfl rfl rfl rfl rfl nofun rfl ?_
       refine Ops.move (v := (vi s1)) rfl rfl ?_
       obtain ⟨x4, q4, h⟩ := bind_some h
       refine Ops.indexP (c := Granule.cs) (u := x4) rfl rfl q4 rfl rfl rfl rfl ?_
       refine Ops.fieldAddrP rfl rfl rfl rfl ?_
       refine Ops.loadP (u := (.int .i64 x4.Index)) rfl rfl rfl rfl ?_
       refine Ops.assign (v := (vi x4.Index)) rfl rfl ?_
       refine Ops.assign (v := (vb true)) rfl rfl ?_
       apply Ops.nil
       replace H := H.all
       apply Runs.ret
       replace h := Option.some.inj h; subst h
       exact ⟨nofun, (.inr ⟨_, rfl, rfl, (Ends.H (xs := [(vi x4.Index), (vb true)]) (.inr rfl) H (.tmp (v := (vi x4.Index)) rfl (.tmp (v := (vb true)) rfl .nil)) (.two (.cons (.c (.v _)) (.cons (.c (.v _)) .nil))))⟩)⟩
      ·replace h := cond_F hc6 h
       apply Runs.skip
       refine Runs.regionH 4 rfl H ?_; intro b9 σ H
       refine Ops.move (v := (vi s1)) rfl rfl ?_
       refine Ops.move (v := (vi by')) rfl rfl ?_
       refine Ops.int (m := s1) (m' := by') (r := .int .i64 (w64 (s1 + by'))) rfl rfl rfl rfl rfl ?_
       refine Ops.assign (v := (vi (w64 (s1 + by')))) rfl rfl ?_
       apply Ops.nil
       replace H := H.all
       replace h := Option.some.inj h; subst h
       exact ⟨rfl, ⟨rfl, rfl, rfl, trivial⟩, H⟩
     ·replace h := cond_F hc5 h
      apply Runs.exit
      replace h := Option.some.inj h; subst h
      exact ⟨nofun, (.inl ⟨_, rfl, rfl, trivial, (H.erase 0)⟩)⟩
   ·rintro x e σ (⟨a2, rfl, rfl, he, H⟩ | ⟨r', rfl, rfl, hE⟩)
    ·skip
     replace h := jgo h
     obtain ⟨e, rfl⟩ := he.ex
     apply Runs.then
     refine Runs.regionH 2 rfl H ?_; intro b10 σ H
     refine Ops.assign (v := (vi 0)) rfl rfl ?_
     refine Ops.assign (v := (vb false)) rfl rfl ?_
     apply Ops.nil
     replace H := H.all
     apply Runs.ret
     replace h := Option.some.inj h; subst h
     exact (Ends.H (xs := [(vi 0), (vb false)]) (.inr rfl) H (.tmp (v := (vi 0)) rfl (.tmp (v := (vb false)) rfl .nil)) (.two (.cons (.c (.v _)) (.cons (.c (.v _)) .nil))))
    ·skip
     replace h := jret h
     replace h := Option.some.inj h; subst h
     exact hE
 ·replace h := cond_F hc1 h
  apply Runs.skip
  apply Runs.then
  apply Runs.then
  refine Runs.regionH 2 rfl H ?_; intro b11 σ H
  refine Ops.move (v := (vi from')) rfl rfl ?_
  refine Ops.assign (v := (vi from')) rfl rfl ?_
  apply Ops.nil
  replace H := H.all
  apply Runs.inBlock
  obtain ⟨y3, hj3, h⟩ := bind_some h
  obtain ⟨n2, hj3⟩ := loopO_iff.1 hj3
  refine Runs.mono (Runs.loopO hj3 (fun s2 e σ => EnvHas e [(2, (vi by')), (3, (.ptr (b1 + 0) 4 0)), (10, (vi s2))] ∧ Hs σ [.blk (b1 + 0) 25 [(vi f.Period), (vi f.Count), (vl (cL Span.cs) f.Core), (vl Granule.cs f.Odd)]]) (fun y3 x e σ => (∃ a3, y3 = (.go a3) ∧ x = .exit 2 ∧ EnvHas e [] ∧ Hs σ []) ∨ (∃ r', y3 = (.ret r') ∧ x = .ret ∧ Ends CX Try.f97.results.toList (.tup [(vi r'.1), (vb r'.2)]) x e σ)) ⟨⟨rfl, rfl, rfl, trivial⟩, H⟩ ?_) ?_
  ·intro s2 e σ hI z h
   obtain ⟨he, H⟩ := hI
   obtain ⟨e, rfl⟩ := he.ex
   unfold gran_step.s1 at h
   apply Runs.then
   apply Runs.then
   refine Runs.regionH 2 rfl H ?_; intro b12 σ H
   refine Ops.move (v := (vi s2)) rfl rfl ?_
   refine Ops.call (ys := [(vi s2)]) (r := (vb (gran_inRange s2))) rfl (gran_inRange_fn rfl) rfl ?_
   apply Ops.nil
   replace H := H.all
   refine Runs.whether (v := (gran_inRange s2)) rfl ?_ ?_ <;> intro hc7
   ·replace h := cond_T hc7 h
    apply Runs.skip
    apply Runs.then
    apply Runs.inBlock
    apply Runs.then
    refine Runs.regionH 3 rfl H ?_; intro b13 σ H
    refine Ops.loadHA (off := 0) (cs := [(vi f.Period), (vi f.Count), (vl (cL Span.cs) f.Core), (vl Granule.cs f.Odd)]) H 0 rfl rfl rfl rfl rfl rfl rfl nofun rfl ?_
    refine Ops.move (v := (vi s2)) rfl rfl ?_
    obtain ⟨x5, q5, h⟩ := bind_some h
    refine Ops.call (ys := [(.agg [(vi f.Period), (vi f.Count), (vl (cL Span.cs) f.Core), (vl Granule.cs f.Odd)]), (vi s2)]) (r := (vb x5)) rfl (gran_some_fn q5) rfl ?_
    apply Ops.nil
    replace H := H.all
    refine Runs.whether (v := x5) rfl ?_ ?_ <;> intro hc8
    ·replace h := cond_T hc8 h
     apply Runs.then
     refine Runs.regionH 3 rfl H ?_; intro b14 σ H
     refine Ops.move (v := (vi s2)) rfl rfl ?_
     refine Ops.assign (v := (vi s2)) rfl rfl ?_
     refine Ops.assign (v := (vb true)) rfl rfl ?_
     apply Ops.nil
     replace H := H.all
     apply Runs.ret
     replace h := Option.some.inj h; subst h
     exact ⟨nofun, (.inr ⟨_, rfl, rfl, (Ends.H (xs := [(vi s2), (vb true)]) (.inr rfl) H (.tmp (v := (vi s2)) rfl (.tmp (v := (vb true)) rfl .nil)) (.two (.cons (.c (.v _)) (.cons (.c (.v _)) .nil))))⟩)⟩
    ·replace h := cond_F hc8 h
     apply Runs.skip
     refine Runs.regionH 4 rfl H ?_; intro b15 σ H
     refine Ops.move (v := (vi s2)) rfl rfl ?_
     refine Ops.move (v := (vi by')) rfl rfl ?_
     refine Ops.int (m := s2) (m' := by') (r := .int .i64 (w64 (s2 + by'))) rfl rfl rfl rfl rfl ?_
     refine Ops.assign (v := (vi (w64 (s2 + by')))) rfl rfl ?_
     apply Ops.nil
     replace H := H.all
     replace h := Option.some.inj h; subst h
     exact ⟨rfl, ⟨rfl, rfl, rfl, trivial⟩, H⟩
   ·replace h := cond_F hc7 h
    apply Runs.exit
    replace h := Option.some.inj h; subst h
    exact ⟨nofun, (.inl ⟨_, rfl, rfl, trivial, (H.erase 0)⟩)⟩
  ·rintro x e σ (⟨a4, rfl, rfl, he, H⟩ | ⟨r', rfl, rfl, hE⟩)
   ·skip
    replace h := jgo h
    obtain ⟨e, rfl⟩ := he.ex
    apply Runs.then
    refine Runs.regionH 2 rfl H ?_; intro b16 σ H
    refine Ops.assign (v := (vi 0)) rfl rfl ?_
    refine Ops.assign (v := (vb false)) rfl rfl ?_
    apply Ops.nil
    replace H := H.all
    apply Runs.ret
    replace h := Option.some.inj h; subst h
    exact (Ends.H (xs := [(vi 0), (vb false)]) (.inr rfl) H (.tmp (v := (vi 0)) rfl (.tmp (v := (vb false)) rfl .nil)) (.two (.cons (.c (.v _)) (.cons (.c (.v _)) .nil))))
   ·skip
    replace h := jret h
    replace h := Option.some.inj h; subst h
    exact hE

set_option maxRecDepth 100000 in
set_option maxHeartbeats 4000000 in
theorem gran_Before_fn {f : Form} {i : Int} {r : Int × Bool} (h : gran_Before f i = some r) : Fn CX 71 [(.agg (vs (Form.cs f))), (vi i)] (.tup [(vi r.1), (vb r.2)]) := by
 refine Fn.ends Try.func71 rfl rfl rfl rfl rfl rfl ?_
 have H : Hs (⟨0, fun _ => .none⟩ : Heap) [] := Has.nil (Nat.le_refl _)
 generalize (⟨0, fun _ => .none⟩ : Heap) = σ at H ⊢
 unfold gran_Before at h
 apply Runs.then
 refine Runs.regionH 3 rfl H ?_; intro b1 σ H
 refine Ops.boxH (v := (.agg [(vi f.Period), (vi f.Count), (vl (cL Span.cs) f.Core), (vl Granule.cs f.Odd)])) (cs := [(vi f.Period), (vi f.Count), (vl (cL Span.cs) f.Core), (vl Granule.cs f.Odd)]) H (by omega) (by omega) rfl rfl rfl ?_; intro σ H
 refine Ops.assign (v := (vi 0)) rfl rfl ?_
 refine Ops.assign (v := (vb false)) rfl rfl ?_
 apply Ops.nil
 replace H := H.all
 apply Runs.then
 apply Runs.then
 refine Runs.regionH 2 rfl H ?_; intro b2 σ H
 refine Ops.move (v := (vi i)) rfl rfl ?_
 refine Ops.int (m := i) (m' := (-1099511627776)) (r := .bool (decide (i ≤ (-1099511627776)))) rfl rfl rfl rfl rfl ?_
 apply Ops.nil
 replace H := H.all
 refine Runs.whether (v := (decide (i ≤ (-1099511627776)))) rfl ?_ ?_ <;> intro hc1
 ·replace h := cond_T hc1 h
  apply Runs.then
  refine Runs.regionH 2 rfl H ?_; intro b3 σ H
  refine Ops.assign (v := (vi 0)) rfl rfl ?_
  refine Ops.assign (v := (vb false)) rfl rfl ?_
  apply Ops.nil
  replace H := H.all
  apply Runs.ret
  replace h := Option.some.inj h; subst h
  exact (Ends.H (xs := [(vi 0), (vb false)]) (.inr rfl) H (.tmp (v := (vi 0)) rfl (.tmp (v := (vb false)) rfl .nil)) (.two (.cons (.c (.v _)) (.cons (.c (.v _)) .nil))))
 ·replace h := cond_F hc1 h
  apply Runs.skip
  apply Runs.then
  refine Runs.regionH 9 rfl H ?_; intro b4 σ H
  refine Ops.loadHA (off := 0) (cs := [(vi f.Period), (vi f.Count), (vl (cL Span.cs) f.Core), (vl Granule.cs f.Odd)]) H 0 rfl rfl rfl rfl rfl rfl rfl nofun rfl ?_
  refine Ops.move (v := (vi i)) rfl rfl ?_
  refine Ops.int (m := i) (m' := 1) (r := .int .i64 (w64 (i - 1))) rfl rfl rfl rfl rfl ?_
  refine Ops.min2 rfl rfl rfl ?_
  obtain ⟨x1, q1, h⟩ := bind_some h
  refine Ops.call (ys := [(.agg [(vi f.Period), (vi f.Count), (vl (cL Span.cs) f.Core), (vl Granule.cs f.Odd)]), (vi (iMin (w64 (i - 1)) 1099511627776)), (vi (-1))]) (r := (.tup [(vi x1.1), (vb x1.2)])) rfl (gran_step_fn q1) rfl ?_
  refine Ops.extract (v := (vi x1.1)) rfl rfl rfl ?_
  refine Ops.extract (v := (vb x1.2)) rfl rfl rfl ?_
  refine Ops.assign (v := (vi x1.1)) rfl rfl ?_
  refine Ops.assign (v := (vb x1.2)) rfl rfl ?_
  apply Ops.nil
  replace H := H.all
  apply Runs.ret
  replace h := Option.some.inj h; subst h
  exact (Ends.H (xs := [(vi x1.1), (vb x1.2)]) (.inr rfl) H (.tmp (v := (vi x1.1)) rfl (.tmp (v := (vb x1.2)) rfl .nil)) (.two (.cons (.c (.v _)) (.cons (.c (.v _)) .nil))))

set_option maxRecDepth 100000 in
set_option maxHeartbeats 4000000 in
theorem gran_Behind_fn {f : Form} {i : Int} {r : Int × Bool} (h : gran_Behind f i = some r) : Fn CX 72 [(.agg (vs (Form.cs f))), (vi i)] (.tup [(vi r.1), (vb r.2)]) := by
 refine Fn.ends Try.func72 rfl rfl rfl rfl rfl rfl ?_
 have H : Hs (⟨0, fun _ => .none⟩ : Heap) [] := Has.nil (Nat.le_refl _)
 generalize (⟨0, fun _ => .none⟩ : Heap) = σ at H ⊢
 unfold gran_Behind at h
 apply Runs.then
 refine Runs.regionH 3 rfl H ?_; intro b1 σ H
 refine Ops.boxH (v := (.agg [(vi f.Period), (vi f.Count), (vl (cL Span.cs) f.Core), (vl Granule.cs f.Odd)])) (cs := [(vi f.Period), (vi f.Count), (vl (cL Span.cs) f.Core), (vl Granule.cs f.Odd)]) H (by omega) (by omega) rfl rfl rfl ?_; intro σ H
 refine Ops.assign (v := (vi 0)) rfl rfl ?_
 refine Ops.assign (v := (vb false)) rfl rfl ?_
 apply Ops.nil
 replace H := H.all
 apply Runs.then
 apply Runs.then
 refine Runs.regionH 2 rfl H ?_; intro b2 σ H
 refine Ops.move (v := (vi i)) rfl rfl ?_
 refine Ops.int (m := i) (m' := 1099511627776) (r := .bool (decide (i ≥ 1099511627776))) rfl rfl rfl rfl rfl ?_
 apply Ops.nil
 replace H := H.all
 refine Runs.whether (v := (decide (i ≥ 1099511627776))) rfl ?_ ?_ <;> intro hc1
 ·replace h := cond_T hc1 h
  apply Runs.then
  refine Runs.regionH 2 rfl H ?_; intro b3 σ H
  refine Ops.assign (v := (vi 0)) rfl rfl ?_
  refine Ops.assign (v := (vb false)) rfl rfl ?_
  apply Ops.nil
  replace H := H.all
  apply Runs.ret
  replace h := Option.some.inj h; subst h
  exact (Ends.H (xs := [(vi 0), (vb false)]) (.inr rfl) H (.tmp (v := (vi 0)) rfl (.tmp (v := (vb false)) rfl .nil)) (.two (.cons (.c (.v _)) (.cons (.c (.v _)) .nil))))
 ·replace h := cond_F hc1 h
  apply Runs.skip
  apply Runs.then
  refine Runs.regionH 9 rfl H ?_; intro b4 σ H
  refine Ops.loadHA (off := 0) (cs := [(vi f.Period), (vi f.Count), (vl (cL Span.cs) f.Core), (vl Granule.cs f.Odd)]) H 0 rfl rfl rfl rfl rfl rfl rfl nofun rfl ?_
  refine Ops.move (v := (vi i)) rfl rfl ?_
  refine Ops.int (m := i) (m' := 1) (r := .int .i64 (w64 (i + 1))) rfl rfl rfl rfl rfl ?_
  refine Ops.max2 rfl rfl rfl ?_
  obtain ⟨x1, q1, h⟩ := bind_some h
  refine Ops.call (ys := [(.agg [(vi f.Period), (vi f.Count), (vl (cL Span.cs) f.Core), (vl Granule.cs f.Odd)]), (vi (iMax (w64 (i + 1)) (-1099511627776))), (vi 1)]) (r := (.tup [(vi x1.1), (vb x1.2)])) rfl (gran_step_fn q1) rfl ?_
  refine Ops.extract (v := (vi x1.1)) rfl rfl rfl ?_
  refine Ops.extract (v := (vb x1.2)) rfl rfl rfl ?_
  refine Ops.assign (v := (vi x1.1)) rfl rfl ?_
  refine Ops.assign (v := (vb x1.2)) rfl rfl ?_
  apply Ops.nil
  replace H := H.all
  apply Runs.ret
  replace h := Option.some.inj h; subst h
  exact (Ends.H (xs := [(vi x1.1), (vb x1.2)]) (.inr rfl) H (.tmp (v := (vi x1.1)) rfl (.tmp (v := (vb x1.2)) rfl .nil)) (.two (.cons (.c (.v _)) (.cons (.c (.v _)) .nil))))

set_option maxRecDepth 100000 in
set_option maxHeartbeats 4000000 in
theorem spans_Ahead_fn {a : (List Span)} {b : (List Span)} {r : Bool} (h : spans_Ahead a b = some r) : Fn CX 73 [(vl Span.cs a), (vl Span.cs b)] (vb r) := by
 refine Fn.ends Try.func73 rfl rfl rfl rfl rfl rfl ?_
 have H : Hs (⟨0, fun _ => .none⟩ : Heap) [] := Has.nil (Nat.le_refl _)
 generalize (⟨0, fun _ => .none⟩ : Heap) = σ at H ⊢
 unfold spans_Ahead at h
 apply Runs.then
 refine Runs.regionH 1 rfl H ?_; intro b1 σ H
 refine Ops.assign (v := (vb false)) rfl rfl ?_
 apply Ops.nil
 replace H := H.all
 apply Runs.then
 refine Runs.drawnH 23 rfl (by kernel_rfl) H ?_; intro b2 σ H B2
 refine Ops.move (v := (vl Span.cs a)) rfl rfl ?_
 refine Ops.lenPt (c := Span.cs) (xs := a) rfl rfl rfl ?_
 refine Ops.int (m := (a.length : Int)) (m' := 0) (r := .bool ((a.length : Int) == 0)) rfl rfl rfl rfl rfl ?_
 refine Ops.move (v := (vb ((a.length : Int) == 0))) rfl rfl ?_
 refine Ops.mid 4 (K1 := fun e σ => EnvHas e [(12, (vb (((a.length : Int) == 0) || ((b.length : Int) == 0)))), (0, (vl Span.cs a)), (1, (vl Span.cs b))] ∧ Has σ (b2 + 8) (b2 + 23) []) rfl ?_ ?_
 ·refine Ops.split rfl rfl ?_ ?_ <;> intro hc1
  ·skip
   refine Ops.pass rfl rfl rfl ?_
   refine Ops.pass rfl rfl rfl ?_
   refine Ops.pass rfl rfl rfl ?_
   refine Ops.pickT (v := (vb true)) rfl rfl rfl ?_
   apply Ops.nil
   exact ⟨⟨or_T hc1, rfl, rfl, trivial⟩, H.weak (by omega) (Nat.le_refl _)⟩
  ·skip
   refine Ops.wanted rfl rfl ?_
   refine Ops.move (v := (vl Span.cs b)) rfl rfl ?_
   refine Ops.wanted rfl rfl ?_
   refine Ops.lenPt (c := Span.cs) (xs := b) rfl rfl rfl ?_
   refine Ops.wanted rfl rfl ?_
   refine Ops.int (m := (b.length : Int)) (m' := 0) (r := .bool ((b.length : Int) == 0)) rfl rfl rfl rfl rfl ?_
   refine Ops.pickF (v := (vb ((b.length : Int) == 0))) rfl rfl rfl ?_
   apply Ops.nil
   exact ⟨⟨or_F hc1, rfl, rfl, trivial⟩, H.weak (by omega) (Nat.le_refl _)⟩
 ·rintro e σ ⟨he, H⟩
  obtain ⟨e, rfl⟩ := he.ex
  refine Ops.move (v := (vb (((a.length : Int) == 0) || ((b.length : Int) == 0)))) rfl rfl ?_
  obtain ⟨y1, hj1, h⟩ := bind_some h
  refine Ops.mid 13 (K1 := fun e σ => EnvHas e [(26, (vb y1))] ∧ Has σ (b2 + 22) (b2 + 23) []) rfl ?_ ?_
  ·refine Ops.split rfl rfl ?_ ?_ <;> intro hc2
   ·replace h := cond_T hc2 hj1
    refine Ops.pass rfl rfl rfl ?_
    refine Ops.pass rfl rfl rfl ?_
    refine Ops.pass rfl rfl rfl ?_
    refine Ops.pass rfl rfl rfl ?_
    refine Ops.pass rfl rfl rfl ?_
    refine Ops.pass rfl rfl rfl ?_
    refine Ops.pass rfl rfl rfl ?_
    refine Ops.pass rfl rfl rfl ?_
    refine Ops.pass rfl rfl rfl ?_
    refine Ops.pass rfl rfl rfl ?_
    refine Ops.pass rfl rfl rfl ?_
    refine Ops.pass rfl rfl rfl ?_
    refine Ops.pickT (v := (vb true)) rfl rfl rfl ?_
    apply Ops.nil
    replace h := Option.some.inj h; subst h
    exact ⟨⟨rfl, trivial⟩, H.weak (by omega) (Nat.le_refl _)⟩
   ·replace h := cond_F hc2 hj1
    refine Ops.wanted rfl rfl ?_
    refine Ops.move (v := (vl Span.cs a)) rfl rfl ?_
    refine Ops.wanted rfl rfl ?_
    refine Ops.move (v := (vl Span.cs a)) rfl rfl ?_
    refine Ops.wanted rfl rfl ?_
    refine Ops.lenPt (c := Span.cs) (xs := a) rfl rfl rfl ?_
    refine Ops.wanted rfl rfl ?_
    refine Ops.int (m := (a.length : Int)) (m' := 1) (r := .int .i64 (w64 ((a.length : Int) - 1))) rfl rfl rfl rfl rfl ?_
    refine Ops.wanted rfl rfl ?_
    obtain ⟨x1, q1, h⟩ := bind_some h
    refine Ops.indexP (c := Span.cs) (u := x1) rfl rfl q1 rfl rfl rfl rfl ?_
    refine Ops.wanted rfl rfl ?_
    refine Ops.fieldAddrP rfl rfl rfl rfl ?_
    refine Ops.wanted rfl rfl ?_
    refine Ops.loadP (u := (.int .i64 x1.To)) rfl rfl rfl rfl ?_
    refine Ops.wanted rfl rfl ?_
    refine Ops.move (v := (vl Span.cs b)) rfl rfl ?_
    refine Ops.wanted rfl rfl ?_
    obtain ⟨x2, q2, h⟩ := bind_some h
    refine Ops.indexP (c := Span.cs) (u := x2) rfl rfl q2 rfl rfl rfl rfl ?_
    refine Ops.wanted rfl rfl ?_
    refine Ops.fieldAddrP rfl rfl rfl rfl ?_
    refine Ops.wanted rfl rfl ?_
    refine Ops.loadP (u := (.int .i64 x2.From)) rfl rfl rfl rfl ?_
    refine Ops.wanted rfl rfl ?_
    refine Ops.int (m := x1.To) (m' := x2.From) (r := .bool (decide (x1.To < x2.From))) rfl rfl rfl rfl rfl ?_
    refine Ops.pickF (v := (vb (decide (x1.To < x2.From)))) rfl rfl rfl ?_
    apply Ops.nil
    replace h := Option.some.inj h; subst h
    exact ⟨⟨rfl, trivial⟩, H.weak (by omega) (Nat.le_refl _)⟩
  ·rintro e σ ⟨he, H⟩
   obtain ⟨e, rfl⟩ := he.ex
   refine Ops.assign (v := (vb y1)) rfl rfl ?_
   apply Ops.nil
   replace H := H.all
   apply Runs.ret
   replace h := Option.some.inj h; subst h
   exact (Ends.H (xs := [(vb y1)]) (.inr rfl) H (.tmp (v := (vb y1)) rfl .nil) (.one (.c (.v _))))

set_option maxRecDepth 100000 in
set_option maxHeartbeats 4000000 in
theorem gran_beside_fn {f : Form} {i : Int} {r : Bool} (h : gran_beside f i = some r) : Fn CX 51 [(.agg (vs (Form.cs f))), (vi i)] (vb r) := by
 refine Fn.ends Try.func51 rfl rfl rfl rfl rfl rfl ?_
 have H : Hs (⟨0, fun _ => .none⟩ : Heap) [] := Has.nil (Nat.le_refl _)
 generalize (⟨0, fun _ => .none⟩ : Heap) = σ at H ⊢
 unfold gran_beside at h
 apply Runs.then
 refine Runs.regionH 2 rfl H ?_; intro b1 σ H
 refine Ops.boxH (v := (.agg [(vi f.Period), (vi f.Count), (vl (cL Span.cs) f.Core), (vl Granule.cs f.Odd)])) (cs := [(vi f.Period), (vi f.Count), (vl (cL Span.cs) f.Core), (vl Granule.cs f.Odd)]) H (by omega) (by omega) rfl rfl rfl ?_; intro σ H
 refine Ops.assign (v := (vb false)) rfl rfl ?_
 apply Ops.nil
 replace H := H.all
 apply Runs.then
 refine Runs.regionH 8 rfl H ?_; intro b2 σ H
 refine Ops.loadHA (off := 0) (cs := [(vi f.Period), (vi f.Count), (vl (cL Span.cs) f.Core), (vl Granule.cs f.Odd)]) H 0 rfl rfl rfl rfl rfl rfl rfl nofun rfl ?_
 refine Ops.move (v := (vi i)) rfl rfl ?_
 obtain ⟨x1, q1, h⟩ := bind_some h
 refine Ops.call (ys := [(.agg [(vi f.Period), (vi f.Count), (vl (cL Span.cs) f.Core), (vl Granule.cs f.Odd)]), (vi i)]) (r := (.tup [(vl Span.cs x1.1), (vi x1.2)])) rfl (gran_Get_fn q1) rfl ?_
 refine Ops.move (v := (.tup [(vl Span.cs x1.1), (vi x1.2)])) rfl rfl ?_
 refine Ops.extract (v := (vl Span.cs x1.1)) rfl rfl rfl ?_
 refine Ops.extract (v := (vi x1.2)) rfl rfl rfl ?_
 refine Ops.assign (v := (vl Span.cs x1.1)) rfl rfl ?_
 refine Ops.assign (v := (vi x1.2)) rfl rfl ?_
 apply Ops.nil
 replace H := H.all
 apply Runs.then
 apply Runs.then
 refine Runs.regionH 2 rfl H ?_; intro b3 σ H
 refine Ops.move (v := (vi x1.2)) rfl rfl ?_
 refine Ops.int (m := x1.2) (m' := 0) (r := .bool (x1.2 != 0)) rfl rfl rfl rfl rfl ?_
 apply Ops.nil
 replace H := H.all
 refine Runs.whether (v := (x1.2 != 0)) rfl ?_ ?_ <;> intro hc1
 ·replace h := cond_T hc1 h
  apply Runs.then
  refine Runs.regionH 1 rfl H ?_; intro b4 σ H
  refine Ops.assign (v := (vb false)) rfl rfl ?_
  apply Ops.nil
  replace H := H.all
  apply Runs.ret
  replace h := Option.some.inj h; subst h
  exact (Ends.H (xs := [(vb false)]) (.inr rfl) H (.tmp (v := (vb false)) rfl .nil) (.one (.c (.v _))))
 ·replace h := cond_F hc1 h
  apply Runs.skip
  apply Runs.then
  refine Runs.regionH 8 rfl H ?_; intro b5 σ H
  refine Ops.loadHA (off := 0) (cs := [(vi f.Period), (vi f.Count), (vl (cL Span.cs) f.Core), (vl Granule.cs f.Odd)]) H 0 rfl rfl rfl rfl rfl rfl rfl nofun rfl ?_
  refine Ops.move (v := (vi i)) rfl rfl ?_
  obtain ⟨x2, q2, h⟩ := bind_some h
  refine Ops.call (ys := [(.agg [(vi f.Period), (vi f.Count), (vl (cL Span.cs) f.Core), (vl Granule.cs f.Odd)]), (vi i)]) (r := (.tup [(vi x2.1), (vb x2.2)])) rfl (gran_Before_fn q2) rfl ?_
  refine Ops.move (v := (.tup [(vi x2.1), (vb x2.2)])) rfl rfl ?_
  refine Ops.extract (v := (vi x2.1)) rfl rfl rfl ?_
  refine Ops.extract (v := (vb x2.2)) rfl rfl rfl ?_
  refine Ops.assign (v := (vi x2.1)) rfl rfl ?_
  refine Ops.assign (v := (vb x2.2)) rfl rfl ?_
  apply Ops.nil
  replace H := H.all
  apply Runs.then
  refine Runs.regionH 8 rfl H ?_; intro b6 σ H
  refine Ops.loadHA (off := 0) (cs := [(vi f.Period), (vi f.Count), (vl (cL Span.cs) f.Core), (vl Granule.cs f.Odd)]) H 0 rfl rfl rfl rfl rfl rfl rfl nofun rfl ?_
  refine Ops.move (v := (vi i)) rfl rfl ?_
  obtain ⟨x3, q3, h⟩ := bind_some h
  refine Ops.call (ys := [(.agg [(vi f.Period), (vi f.Count), (vl (cL Span.cs) f.Core), (vl Granule.cs f.Odd)]), (vi i)]) (r := (.tup [(vi x3.1), (vb x3.2)])) rfl (gran_Behind_fn q3) rfl ?_
  refine Ops.move (v := (.tup [(vi x3.1), (vb x3.2)])) rfl rfl ?_
  refine Ops.extract (v := (vi x3.1)) rfl rfl rfl ?_
  refine Ops.extract (v := (vb x3.2)) rfl rfl rfl ?_
  refine Ops.assign (v := (vi x3.1)) rfl rfl ?_
  refine Ops.assign (v := (vb x3.2)) rfl rfl ?_
  apply Ops.nil
  replace H := H.all
  apply Runs.then
  refine Runs.regionH 2 rfl H ?_; intro b7 σ H
  refine Ops.assign (v := .nils) rfl rfl ?_
  refine Ops.assign (v := .nils) rfl rfl ?_
  apply Ops.nil
  replace H := H.all
  apply Runs.then
  obtain ⟨y1, hj1, h⟩ := bind_some h
  refine Runs.mono (Q := fun x e σ => (∃ a1, ∃ (w1 : PV), RO w1 (a1.map Span.cs) ∧ y1 = (.go a1) ∧ x = .normal ∧ EnvHas e [(2, (.ptr (b1 + 0) 4 0)), (5, (vl Span.cs x1.1)), (9, (vi x3.1)), (10, (vb x3.2)), (11, w1), (12, .nils)] ∧ Hs σ [.blk (b1 + 0) 25 [(vi f.Period), (vi f.Count), (vl (cL Span.cs) f.Core), (vl Granule.cs f.Odd)]]) ∨ (∃ r', y1 = (.ret r') ∧ x = .ret ∧ Ends CX Try.f51.results.toList (vb r') x e σ)) ?_ ?_
  ·replace h := hj1
   apply Runs.then
   refine Runs.regionH 1 rfl H ?_; intro b8 σ H
   refine Ops.move (v := (vb x2.2)) rfl rfl ?_
   apply Ops.nil
   replace H := H.all
   refine Runs.whether (v := x2.2) rfl ?_ ?_ <;> intro hc2
   ·replace h := cond_T hc2 h
    apply Runs.then
    refine Runs.regionH 8 rfl H ?_; intro b9 σ H
    refine Ops.loadHA (off := 0) (cs := [(vi f.Period), (vi f.Count), (vl (cL Span.cs) f.Core), (vl Granule.cs f.Odd)]) H 0 rfl rfl rfl rfl rfl rfl rfl nofun rfl ?_
    refine Ops.move (v := (vi x2.1)) rfl rfl ?_
    obtain ⟨x4, q4, h⟩ := bind_some h
    refine Ops.call (ys := [(.agg [(vi f.Period), (vi f.Count), (vl (cL Span.cs) f.Core), (vl Granule.cs f.Odd)]), (vi x2.1)]) (r := (.tup [(vl Span.cs x4.1), (vi x4.2)])) rfl (gran_Get_fn q4) rfl ?_
    refine Ops.move (v := (.tup [(vl Span.cs x4.1), (vi x4.2)])) rfl rfl ?_
    refine Ops.extract (v := (vl Span.cs x4.1)) rfl rfl rfl ?_
    refine Ops.extract (v := (vi x4.2)) rfl rfl rfl ?_
    refine Ops.assign (v := (vl Span.cs x4.1)) rfl rfl ?_
    refine Ops.assign (v := (vi x4.2)) rfl rfl ?_
    apply Ops.nil
    replace H := H.all
    apply Runs.then
    refine Runs.regionH 2 rfl H ?_; intro b10 σ H
    refine Ops.move (v := (vi x4.2)) rfl rfl ?_
    refine Ops.int (m := x4.2) (m' := 0) (r := .bool (x4.2 != 0)) rfl rfl rfl rfl rfl ?_
    apply Ops.nil
    replace H := H.all
    refine Runs.whether (v := (x4.2 != 0)) rfl ?_ ?_ <;> intro hc3
    ·replace h := cond_T hc3 h
     apply Runs.then
     refine Runs.regionH 1 rfl H ?_; intro b11 σ H
     refine Ops.assign (v := (vb false)) rfl rfl ?_
     apply Ops.nil
     replace H := H.all
     apply Runs.ret
     replace h := Option.some.inj h; subst h
     exact (.inr ⟨_, rfl, rfl, (Ends.H (xs := [(vb false)]) (.inr rfl) H (.tmp (v := (vb false)) rfl .nil) (.one (.c (.v _))))⟩)
    ·replace h := cond_F hc3 h
     apply Runs.skip
     replace h := Option.some.inj h; subst h
     exact (.inl ⟨_, (vl Span.cs x4.1), .inr rfl, rfl, rfl, ⟨rfl, rfl, rfl, rfl, rfl, rfl, trivial⟩, H⟩)
   ·replace h := cond_F hc2 h
    apply Runs.skip
    replace h := Option.some.inj h; subst h
    exact (.inl ⟨_, .nils, .inl ⟨rfl, rfl⟩, rfl, rfl, ⟨rfl, rfl, rfl, rfl, rfl, rfl, trivial⟩, H⟩)
  ·rintro x e σ (⟨a2, w2, hw2, rfl, rfl, he, H⟩ | ⟨r', rfl, rfl, hE⟩)
   ·skip
    replace h := jgo h
    obtain ⟨e, rfl⟩ := he.ex
    apply Runs.then
    obtain ⟨y2, hj2, h⟩ := bind_some h
    refine Runs.mono (Q := fun x e σ => (∃ a3, ∃ (w3 : PV), RO w3 (a3.map Span.cs) ∧ y2 = (.go a3) ∧ x = .normal ∧ EnvHas e [(5, (vl Span.cs x1.1)), (11, w2), (12, w3)] ∧ Hs σ []) ∨ (∃ r', y2 = (.ret r') ∧ x = .ret ∧ Ends CX Try.f51.results.toList (vb r') x e σ)) ?_ ?_
    ·replace h := hj2
     apply Runs.then
     refine Runs.regionH 1 rfl H ?_; intro b12 σ H
     refine Ops.move (v := (vb x3.2)) rfl rfl ?_
     apply Ops.nil
     replace H := H.all
     refine Runs.whether (v := x3.2) rfl ?_ ?_ <;> intro hc4
     ·replace h := cond_T hc4 h
      apply Runs.then
      refine Runs.regionH 8 rfl H ?_; intro b13 σ H
      refine Ops.loadHA (off := 0) (cs := [(vi f.Period), (vi f.Count), (vl (cL Span.cs) f.Core), (vl Granule.cs f.Odd)]) H 0 rfl rfl rfl rfl rfl rfl rfl nofun rfl ?_
      refine Ops.move (v := (vi x3.1)) rfl rfl ?_
      obtain ⟨x5, q5, h⟩ := bind_some h
      refine Ops.call (ys := [(.agg [(vi f.Period), (vi f.Count), (vl (cL Span.cs) f.Core), (vl Granule.cs f.Odd)]), (vi x3.1)]) (r := (.tup [(vl Span.cs x5.1), (vi x5.2)])) rfl (gran_Get_fn q5) rfl ?_
      refine Ops.move (v := (.tup [(vl Span.cs x5.1), (vi x5.2)])) rfl rfl ?_
      refine Ops.extract (v := (vl Span.cs x5.1)) rfl rfl rfl ?_
      refine Ops.extract (v := (vi x5.2)) rfl rfl rfl ?_
      refine Ops.assign (v := (vl Span.cs x5.1)) rfl rfl ?_
      refine Ops.assign (v := (vi x5.2)) rfl rfl ?_
      apply Ops.nil
      replace H := H.all
      apply Runs.then
      refine Runs.regionH 2 rfl H ?_; intro b14 σ H
      refine Ops.move (v := (vi x5.2)) rfl rfl ?_
      refine Ops.int (m := x5.2) (m' := 0) (r := .bool (x5.2 != 0)) rfl rfl rfl rfl rfl ?_
      apply Ops.nil
      replace H := H.all
      refine Runs.whether (v := (x5.2 != 0)) rfl ?_ ?_ <;> intro hc5
      ·replace h := cond_T hc5 h
       apply Runs.then
       refine Runs.regionH 1 rfl H ?_; intro b15 σ H
       refine Ops.assign (v := (vb false)) rfl rfl ?_
       apply Ops.nil
       replace H := H.all
       apply Runs.ret
       replace h := Option.some.inj h; subst h
       exact (.inr ⟨_, rfl, rfl, (Ends.H (xs := [(vb false)]) (.inr rfl) H (.tmp (v := (vb false)) rfl .nil) (.one (.c (.v _))))⟩)
      ·replace h := cond_F hc5 h
       apply Runs.skip
       replace h := Option.some.inj h; subst h
       exact (.inl ⟨_, (vl Span.cs x5.1), .inr rfl, rfl, rfl, ⟨rfl, rfl, rfl, trivial⟩, (H.erase 0)⟩)
     ·replace h := cond_F hc4 h
      apply Runs.skip
      replace h := Option.some.inj h; subst h
      exact (.inl ⟨_, .nils, .inl ⟨rfl, rfl⟩, rfl, rfl, ⟨rfl, rfl, rfl, trivial⟩, (H.erase 0)⟩)
    ·rintro x e σ (⟨a4, w4, hw4, rfl, rfl, he, H⟩ | ⟨r', rfl, rfl, hE⟩)
     ·skip
      replace h := jgo h
      obtain ⟨e, rfl⟩ := he.ex
      apply Runs.then
      refine Runs.regionH 14 rfl H ?_; intro b16 σ H
      refine Ops.move (v := w2) rfl rfl ?_
      refine Ops.move (v := (vl Span.cs x1.1)) rfl rfl ?_
      obtain ⟨x6, q6, h⟩ := bind_some h
      refine Ops.callX (xs := [w2, (vl Span.cs x1.1)]) (ys := [(vl Span.cs a2), (vl Span.cs x1.1)]) H rfl (.cons (.c (.ro hw2)) (.cons (.c (.v _)) .nil)) (spans_Ahead_fn q6) rfl rfl nofun rfl ?_; intro σ H
      refine Ops.move (v := (vb x6)) rfl rfl ?_
      obtain ⟨y3, hj3, h⟩ := bind_some h
      refine Ops.mid 4 (K1 := fun e σ => EnvHas e [(58, (vb y3)), (11, w2), (12, w4)] ∧ Has σ (b16 + 8) (b16 + 14) []) rfl ?_ ?_
      ·refine Ops.split rfl rfl ?_ ?_ <;> intro hc6
       ·replace h := cond_T hc6 hj3
        refine Ops.wanted rfl rfl ?_
        refine Ops.move (v := (vl Span.cs x1.1)) rfl rfl ?_
        refine Ops.wanted rfl rfl ?_
        refine Ops.move (v := w4) rfl rfl ?_
        refine Ops.wanted rfl rfl ?_
        obtain ⟨x7, q7, h⟩ := bind_some h
        refine Ops.callX (xs := [(vl Span.cs x1.1), w4]) (ys := [(vl Span.cs x1.1), (vl Span.cs a4)]) H rfl (.cons (.c (.v _)) (.cons (.c (.ro hw4)) .nil)) (spans_Ahead_fn q7) rfl rfl nofun rfl ?_; intro σ H
        refine Ops.pickT (v := (vb x7)) rfl rfl rfl ?_
        apply Ops.nil
        replace h := Option.some.inj h; subst h
        exact ⟨⟨rfl, rfl, rfl, trivial⟩, H.weak (by omega) (Nat.le_refl _)⟩
       ·replace h := cond_F hc6 hj3
        refine Ops.pass rfl rfl rfl ?_
        refine Ops.pass rfl rfl rfl ?_
        refine Ops.pass rfl rfl rfl ?_
        refine Ops.pickF (v := (vb false)) rfl rfl rfl ?_
        apply Ops.nil
        replace h := Option.some.inj h; subst h
        exact ⟨⟨rfl, rfl, rfl, trivial⟩, H.weak (by omega) (Nat.le_refl _)⟩
      ·rintro e σ ⟨he, H⟩
       obtain ⟨e, rfl⟩ := he.ex
       refine Ops.move (v := (vb y3)) rfl rfl ?_
       obtain ⟨y4, hj4, h⟩ := bind_some h
       refine Ops.mid 4 (K1 := fun e σ => EnvHas e [(63, (vb y4))] ∧ Has σ (b16 + 13) (b16 + 14) []) rfl ?_ ?_
       ·refine Ops.split rfl rfl ?_ ?_ <;> intro hc7
        ·replace h := cond_T hc7 hj4
         refine Ops.wanted rfl rfl ?_
         refine Ops.move (v := w2) rfl rfl ?_
         refine Ops.wanted rfl rfl ?_
         refine Ops.move (v := w4) rfl rfl ?_
         refine Ops.wanted rfl rfl ?_
         obtain ⟨x8, q8, h⟩ := bind_some h
         refine Ops.callX (xs := [w2, w4]) (ys := [(vl Span.cs a2), (vl Span.cs a4)]) H rfl (.cons (.c (.ro hw2)) (.cons (.c (.ro hw4)) .nil)) (spans_Ahead_fn q8) rfl rfl nofun rfl ?_; intro σ H
         refine Ops.pickT (v := (vb x8)) rfl rfl rfl ?_
         apply Ops.nil
         replace h := Option.some.inj h; subst h
         exact ⟨⟨rfl, trivial⟩, H.weak (by omega) (Nat.le_refl _)⟩
        ·replace h := cond_F hc7 hj4
         refine Ops.pass rfl rfl rfl ?_
         refine Ops.pass rfl rfl rfl ?_
         refine Ops.pass rfl rfl rfl ?_
         refine Ops.pickF (v := (vb false)) rfl rfl rfl ?_
         apply Ops.nil
         replace h := Option.some.inj h; subst h
         exact ⟨⟨rfl, trivial⟩, H.weak (by omega) (Nat.le_refl _)⟩
       ·rintro e σ ⟨he, H⟩
        obtain ⟨e, rfl⟩ := he.ex
        refine Ops.assign (v := (vb y4)) rfl rfl ?_
        apply Ops.nil
        replace H := H.all
        apply Runs.ret
        replace h := Option.some.inj h; subst h
        exact (Ends.H (xs := [(vb y4)]) (.inr rfl) H (.tmp (v := (vb y4)) rfl .nil) (.one (.c (.v _))))
     ·skip
      replace h := jret h
      replace h := Option.some.inj h; subst h
      exact hE
   ·skip
    replace h := jret h
    replace h := Option.some.inj h; subst h
    exact hE

set_option maxRecDepth 100000 in
set_option maxHeartbeats 4000000 in
theorem gran_Right_fn {f : Form} {r : Int} (h : gran_Right f = some r) : Fn CX 21 [(.agg (vs (Form.cs f)))] (vi r) := by
 refine Fn.ends Try.func21 rfl rfl rfl rfl rfl rfl ?_
 have H : Hs (⟨0, fun _ => .none⟩ : Heap) [] := Has.nil (Nat.le_refl _)
 generalize (⟨0, fun _ => .none⟩ : Heap) = σ at H ⊢
 unfold gran_Right at h
 apply Runs.then
 refine Runs.regionH 2 rfl H ?_; intro b1 σ H
 refine Ops.boxH (v := (.agg [(vi f.Period), (vi f.Count), (vl (cL Span.cs) f.Core), (vl Granule.cs f.Odd)])) (cs := [(vi f.Period), (vi f.Count), (vl (cL Span.cs) f.Core), (vl Granule.cs f.Odd)]) H (by omega) (by omega) rfl rfl rfl ?_; intro σ H
 refine Ops.assign (v := (vi 0)) rfl rfl ?_
 apply Ops.nil
 replace H := H.all
 apply Runs.then
 apply Runs.then
 refine Runs.regionH 15 rfl H ?_; intro b2 σ H
 refine Ops.fieldAddrH (off := 0) (fo := 2) H 0 rfl rfl rfl rfl rfl nofun rfl ?_
 refine Ops.loadH (off := 2) (v := (vl (cL Span.cs) f.Core)) H 0 rfl rfl rfl rfl rfl nofun rfl ?_
 refine Ops.lenPt (c := (cL Span.cs)) (xs := f.Core) rfl rfl rfl ?_
 refine Ops.int (m := (f.Core.length : Int)) (m' := 6000) (r := .bool (decide ((f.Core.length : Int) > 6000))) rfl rfl rfl rfl rfl ?_
 refine Ops.move (v := (vb (decide ((f.Core.length : Int) > 6000)))) rfl rfl ?_
 refine Ops.mid 5 (K1 := fun e σ => EnvHas e [(14, (vb ((decide ((f.Core.length : Int) > 6000)) || (decide ((f.Odd.length : Int) > 6000))))), (1, (.ptr (b1 + 0) 4 0))] ∧ Has σ (b2 + 10) (b2 + 15) [.blk (b1 + 0) 25 [(vi f.Period), (vi f.Count), (vl (cL Span.cs) f.Core), (vl Granule.cs f.Odd)]]) rfl ?_ ?_
 ·refine Ops.split rfl rfl ?_ ?_ <;> intro hc1
  ·skip
   refine Ops.pass rfl rfl rfl ?_
   refine Ops.pass rfl rfl rfl ?_
   refine Ops.pass rfl rfl rfl ?_
   refine Ops.pass rfl rfl rfl ?_
   refine Ops.pickT (v := (vb true)) rfl rfl rfl ?_
   apply Ops.nil
   exact ⟨⟨or_T hc1, rfl, trivial⟩, H.weak (by omega) (Nat.le_refl _)⟩
  ·skip
   refine Ops.wanted rfl rfl ?_
   refine Ops.fieldAddrH (off := 0) (fo := 3) H 0 rfl rfl rfl rfl rfl nofun rfl ?_
   refine Ops.wanted rfl rfl ?_
   refine Ops.loadH (off := 3) (v := (vl Granule.cs f.Odd)) H 0 rfl rfl rfl rfl rfl nofun rfl ?_
   refine Ops.wanted rfl rfl ?_
   refine Ops.lenPt (c := Granule.cs) (xs := f.Odd) rfl rfl rfl ?_
   refine Ops.wanted rfl rfl ?_
   refine Ops.int (m := (f.Odd.length : Int)) (m' := 6000) (r := .bool (decide ((f.Odd.length : Int) > 6000))) rfl rfl rfl rfl rfl ?_
   refine Ops.pickF (v := (vb (decide ((f.Odd.length : Int) > 6000)))) rfl rfl rfl ?_
   apply Ops.nil
   exact ⟨⟨or_F hc1, rfl, trivial⟩, H.weak (by omega) (Nat.le_refl _)⟩
 ·rintro e σ ⟨he, H⟩
  obtain ⟨e, rfl⟩ := he.ex
  refine Ops.move (v := (vb ((decide ((f.Core.length : Int) > 6000)) || (decide ((f.Odd.length : Int) > 6000))))) rfl rfl ?_
  obtain ⟨y1, hj1, h⟩ := bind_some h
  refine Ops.mid 4 (K1 := fun e σ => EnvHas e [(19, (vb y1)), (1, (.ptr (b1 + 0) 4 0))] ∧ Has σ (b2 + 15) (b2 + 15) [.blk (b1 + 0) 25 [(vi f.Period), (vi f.Count), (vl (cL Span.cs) f.Core), (vl Granule.cs f.Odd)]]) rfl ?_ ?_
  ·refine Ops.split rfl rfl ?_ ?_ <;> intro hc2
   ·replace h := cond_T hc2 hj1
    refine Ops.pass rfl rfl rfl ?_
    refine Ops.pass rfl rfl rfl ?_
    refine Ops.pass rfl rfl rfl ?_
    refine Ops.pickT (v := (vb true)) rfl rfl rfl ?_
    apply Ops.nil
    replace h := Option.some.inj h; subst h
    exact ⟨⟨rfl, rfl, trivial⟩, H.weak (by omega) (Nat.le_refl _)⟩
   ·replace h := cond_F hc2 hj1
    refine Ops.wanted rfl rfl ?_
    refine Ops.loadHA (off := 0) (cs := [(vi f.Period), (vi f.Count), (vl (cL Span.cs) f.Core), (vl Granule.cs f.Odd)]) H 0 rfl rfl rfl rfl rfl rfl rfl nofun rfl ?_
    refine Ops.wanted rfl rfl ?_
    obtain ⟨x1, q1, h⟩ := bind_some h
    refine Ops.call (ys := [(.agg [(vi f.Period), (vi f.Count), (vl (cL Span.cs) f.Core), (vl Granule.cs f.Odd)])]) (r := (vi x1)) rfl (gran_Size_fn q1) rfl ?_
    refine Ops.wanted rfl rfl ?_
    refine Ops.int (m := x1) (m' := 60000) (r := .bool (decide (x1 > 60000))) rfl rfl rfl rfl rfl ?_
    refine Ops.pickF (v := (vb (decide (x1 > 60000)))) rfl rfl rfl ?_
    apply Ops.nil
    replace h := Option.some.inj h; subst h
    exact ⟨⟨rfl, rfl, trivial⟩, H.weak (by omega) (Nat.le_refl _)⟩
  ·rintro e σ ⟨he, H⟩
   obtain ⟨e, rfl⟩ := he.ex
   apply Ops.nil
   replace H := H.all
   refine Runs.whether (v := y1) rfl ?_ ?_ <;> intro hc3
   ·replace h := cond_T hc3 h
    apply Runs.then
    refine Runs.regionH 1 rfl H ?_; intro b3 σ H
    refine Ops.assign (v := (vi 3)) rfl rfl ?_
    apply Ops.nil
    replace H := H.all
    apply Runs.ret
    replace h := Option.some.inj h; subst h
    exact (Ends.H (xs := [(vi 3)]) (.inr rfl) H (.tmp (v := (vi 3)) rfl .nil) (.one (.c (.v _))))
   ·replace h := cond_F hc3 h
    apply Runs.skip
    apply Runs.then
    apply Runs.then
    refine Runs.regionH 8 rfl H ?_; intro b4 σ H
    refine Ops.loadHA (off := 0) (cs := [(vi f.Period), (vi f.Count), (vl (cL Span.cs) f.Core), (vl Granule.cs f.Odd)]) H 0 rfl rfl rfl rfl rfl rfl rfl nofun rfl ?_
    obtain ⟨x2, q2, h⟩ := bind_some h
    refine Ops.call (ys := [(.agg [(vi f.Period), (vi f.Count), (vl (cL Span.cs) f.Core), (vl Granule.cs f.Odd)])]) (r := (vb x2)) rfl (gran_shape_fn q2) rfl ?_
    refine Ops.not (b := x2) rfl rfl ?_
    refine Ops.move (v := (vb (!x2))) rfl rfl ?_
    obtain ⟨y2, hj2, h⟩ := bind_some h
    refine Ops.mid 4 (K1 := fun e σ => EnvHas e [(27, (vb y2)), (1, (.ptr (b1 + 0) 4 0))] ∧ Has σ (b4 + 8) (b4 + 8) [.blk (b1 + 0) 25 [(vi f.Period), (vi f.Count), (vl (cL Span.cs) f.Core), (vl Granule.cs f.Odd)]]) rfl ?_ ?_
    ·refine Ops.split rfl rfl ?_ ?_ <;> intro hc4
     ·replace h := cond_T hc4 hj2
      refine Ops.pass rfl rfl rfl ?_
      refine Ops.pass rfl rfl rfl ?_
      refine Ops.pass rfl rfl rfl ?_
      refine Ops.pickT (v := (vb true)) rfl rfl rfl ?_
      apply Ops.nil
      replace h := Option.some.inj h; subst h
      exact ⟨⟨rfl, rfl, trivial⟩, H.weak (by omega) (Nat.le_refl _)⟩
     ·replace h := cond_F hc4 hj2
      refine Ops.wanted rfl rfl ?_
      refine Ops.loadHA (off := 0) (cs := [(vi f.Period), (vi f.Count), (vl (cL Span.cs) f.Core), (vl Granule.cs f.Odd)]) H 0 rfl rfl rfl rfl rfl rfl rfl nofun rfl ?_
      refine Ops.wanted rfl rfl ?_
      obtain ⟨x3, q3, h⟩ := bind_some h
      refine Ops.call (ys := [(.agg [(vi f.Period), (vi f.Count), (vl (cL Span.cs) f.Core), (vl Granule.cs f.Odd)])]) (r := (vb x3)) rfl (gran_turns_fn q3) rfl ?_
      refine Ops.wanted rfl rfl ?_
      refine Ops.not (b := x3) rfl rfl ?_
      refine Ops.pickF (v := (vb (!x3))) rfl rfl rfl ?_
      apply Ops.nil
      replace h := Option.some.inj h; subst h
      exact ⟨⟨rfl, rfl, trivial⟩, H.weak (by omega) (Nat.le_refl _)⟩
    ·rintro e σ ⟨he, H⟩
     obtain ⟨e, rfl⟩ := he.ex
     apply Ops.nil
     replace H := H.all
     refine Runs.whether (v := y2) rfl ?_ ?_ <;> intro hc5
     ·replace h := cond_T hc5 h
      apply Runs.then
      refine Runs.regionH 1 rfl H ?_; intro b5 σ H
      refine Ops.assign (v := (vi 50)) rfl rfl ?_
      apply Ops.nil
      replace H := H.all
      apply Runs.ret
      replace h := Option.some.inj h; subst h
      exact (Ends.H (xs := [(vi 50)]) (.inr rfl) H (.tmp (v := (vi 50)) rfl .nil) (.one (.c (.v _))))
     ·replace h := cond_F hc5 h
      apply Runs.skip
      apply Runs.then
      apply Runs.then
      refine Runs.regionH 4 rfl H ?_; intro b6 σ H
      refine Ops.fieldAddrH (off := 0) (fo := 3) H 0 rfl rfl rfl rfl rfl nofun rfl ?_
      refine Ops.loadH (off := 3) (v := (vl Granule.cs f.Odd)) H 0 rfl rfl rfl rfl rfl nofun rfl ?_
      refine Ops.lenPt (c := Granule.cs) (xs := f.Odd) rfl rfl rfl ?_
      refine Ops.move (v := (vi 0)) rfl rfl ?_
      apply Ops.nil
      replace H := H.all
      apply Runs.inBlock
      obtain ⟨y3, hj3, h⟩ := bind_some h
      obtain ⟨n1, hj3⟩ := loopO_iff.1 hj3
      refine Runs.mono (Runs.loopO hj3 (fun s1 e σ => EnvHas e [(1, (.ptr (b1 + 0) 4 0)), (29, (vl Granule.cs f.Odd)), (30, (vi (f.Odd.length : Int))), (31, (vi s1))] ∧ Hs σ [.blk (b1 + 0) 25 [(vi f.Period), (vi f.Count), (vl (cL Span.cs) f.Core), (vl Granule.cs f.Odd)]]) (fun y3 x e σ => (∃ a1, y3 = (.go a1) ∧ x = .exit 0 ∧ EnvHas e [] ∧ Hs σ []) ∨ (∃ r', y3 = (.ret r') ∧ x = .ret ∧ Ends CX Try.f21.results.toList (vi r') x e σ)) ⟨⟨rfl, rfl, rfl, rfl, trivial⟩, H⟩ ?_) ?_
      ·intro s1 e σ hI z h
       obtain ⟨he, H⟩ := hI
       obtain ⟨e, rfl⟩ := he.ex
       unfold gran_Right.s0 at h
       apply Runs.then
       refine Runs.regionH 1 rfl H ?_; intro b7 σ H
       refine Ops.int (m := s1) (m' := (f.Odd.length : Int)) (r := .bool (decide (s1 < (f.Odd.length : Int)))) rfl rfl rfl rfl rfl ?_
       apply Ops.nil
       replace H := H.all
       apply Runs.then
       refine Runs.whether (v := (decide (s1 < (f.Odd.length : Int)))) rfl ?_ ?_ <;> intro hc6
       ·replace h := cond_T hc6 h
        apply Runs.skip
        apply Runs.then
        apply Runs.inBlock
        apply Runs.then
        refine Runs.regionH 4 rfl H ?_; intro b8 σ H
        obtain ⟨x4, q4, h⟩ := bind_some h
        refine Ops.indexP (c := Granule.cs) (u := x4) rfl rfl q4 rfl rfl rfl rfl ?_
        refine Ops.loadPA (cs := [(.int .i64 x4.Index), (.sl (x4.Ticks.map Span.cs))]) rfl rfl rfl rfl rfl rfl ?_
        refine Ops.allocH (cs := [(vi 0), .nils]) H (by omega) (by omega) rfl rfl ?_; intro σ H
        refine Ops.storeH (off := 0) (v := (.agg [(vi x4.Index), (vl Span.cs x4.Ticks)])) (ys := [(vi x4.Index), (vl Span.cs x4.Ticks)]) (cells' := [(vi x4.Index), (vl Span.cs x4.Ticks)]) H 0 rfl rfl rfl rfl rfl rfl rfl rfl rfl nofun ?_; intro σ H
        apply Ops.nil
        replace H := H.all
        apply Runs.then
        refine Runs.regionH 5 rfl H ?_; intro b9 σ H
        refine Ops.loadHA (off := 0) (cs := [(vi f.Period), (vi f.Count), (vl (cL Span.cs) f.Core), (vl Granule.cs f.Odd)]) H 1 rfl rfl rfl rfl rfl rfl rfl nofun rfl ?_
        refine Ops.fieldAddrH (off := 0) (fo := 0) H 0 rfl rfl rfl rfl rfl nofun rfl ?_
        refine Ops.loadH (off := 0) (v := (vi x4.Index)) H 0 rfl rfl rfl rfl rfl nofun rfl ?_
        obtain ⟨x5, q5, h⟩ := bind_some h
        refine Ops.call (ys := [(.agg [(vi f.Period), (vi f.Count), (vl (cL Span.cs) f.Core), (vl Granule.cs f.Odd)]), (vi x4.Index)]) (r := (vb x5)) rfl (gran_beside_fn q5) rfl ?_
        refine Ops.not (b := x5) rfl rfl ?_
        apply Ops.nil
        replace H := H.all
        refine Runs.whether (v := (!x5)) rfl ?_ ?_ <;> intro hc7
        ·replace h := cond_T hc7 h
         apply Runs.then
         refine Runs.regionH 1 rfl H ?_; intro b10 σ H
         refine Ops.assign (v := (vi 50)) rfl rfl ?_
         apply Ops.nil
         replace H := H.all
         apply Runs.ret
         replace h := Option.some.inj h; subst h
         exact ⟨nofun, (.inr ⟨_, rfl, rfl, (Ends.H (xs := [(vi 50)]) (.inr rfl) H (.tmp (v := (vi 50)) rfl .nil) (.one (.c (.v _))))⟩)⟩
        ·replace h := cond_F hc7 h
         apply Runs.skip
         refine Runs.regionH 2 rfl H ?_; intro b11 σ H
         refine Ops.int (m := s1) (m' := 1) (r := .int .i64 (w64 (s1 + 1))) rfl rfl rfl rfl rfl ?_
         refine Ops.move (v := (vi (w64 (s1 + 1)))) rfl rfl ?_
         apply Ops.nil
         replace H := H.all
         replace h := Option.some.inj h; subst h
         exact ⟨rfl, ⟨rfl, rfl, rfl, rfl, trivial⟩, (H.erase 0)⟩
       ·replace h := cond_F hc6 h
        apply Runs.exit
        replace h := Option.some.inj h; subst h
        exact ⟨nofun, (.inl ⟨_, rfl, rfl, trivial, (H.erase 0)⟩)⟩
      ·rintro x e σ (⟨a2, rfl, rfl, he, H⟩ | ⟨r', rfl, rfl, hE⟩)
       ·skip
        replace h := jgo h
        obtain ⟨e, rfl⟩ := he.ex
        apply Runs.then
        refine Runs.regionH 1 rfl H ?_; intro b12 σ H
        refine Ops.assign (v := (vi 0)) rfl rfl ?_
        apply Ops.nil
        replace H := H.all
        apply Runs.ret
        replace h := Option.some.inj h; subst h
        exact (Ends.H (xs := [(vi 0)]) (.inr rfl) H (.tmp (v := (vi 0)) rfl .nil) (.one (.c (.v _))))
       ·skip
        replace h := jret h
        replace h := Option.some.inj h; subst h
        exact hE

set_option maxRecDepth 100000 in
set_option maxHeartbeats 4000000 in
theorem epactlaw25_small_fn {f : Form} {r : Bool} (h : epactlaw25_small f = some r) : Fn CX 19 [(.agg (vs (Form.cs f)))] (vb r) := by
 refine Fn.ends Try.func19 rfl rfl rfl rfl rfl rfl ?_
 have H : Hs (⟨0, fun _ => .none⟩ : Heap) [] := Has.nil (Nat.le_refl _)
 generalize (⟨0, fun _ => .none⟩ : Heap) = σ at H ⊢
 unfold epactlaw25_small at h
 apply Runs.then
 refine Runs.regionH 2 rfl H ?_; intro b1 σ H
 refine Ops.boxH (v := (.agg [(vi f.Period), (vi f.Count), (vl (cL Span.cs) f.Core), (vl Granule.cs f.Odd)])) (cs := [(vi f.Period), (vi f.Count), (vl (cL Span.cs) f.Core), (vl Granule.cs f.Odd)]) H (by omega) (by omega) rfl rfl rfl ?_; intro σ H
 refine Ops.assign (v := (vb false)) rfl rfl ?_
 apply Ops.nil
 replace H := H.all
 apply Runs.then
 refine Runs.regionH 8 rfl H ?_; intro b2 σ H
 refine Ops.loadHA (off := 0) (cs := [(vi f.Period), (vi f.Count), (vl (cL Span.cs) f.Core), (vl Granule.cs f.Odd)]) H 0 rfl rfl rfl rfl rfl rfl rfl nofun rfl ?_
 obtain ⟨x1, q1, h⟩ := bind_some h
 refine Ops.call (ys := [(.agg [(vi f.Period), (vi f.Count), (vl (cL Span.cs) f.Core), (vl Granule.cs f.Odd)])]) (r := (vb x1)) rfl (epactlaw05_Small_fn q1) rfl ?_
 refine Ops.move (v := (vb x1)) rfl rfl ?_
 obtain ⟨y1, hj1, h⟩ := bind_some h
 refine Ops.mid 4 (K1 := fun e σ => EnvHas e [(9, (vb y1))] ∧ Has σ (b2 + 7) (b2 + 8) []) rfl ?_ ?_
 ·refine Ops.split rfl rfl ?_ ?_ <;> intro hc1
  ·replace h := cond_T hc1 hj1
   refine Ops.wanted rfl rfl ?_
   refine Ops.loadHA (off := 0) (cs := [(vi f.Period), (vi f.Count), (vl (cL Span.cs) f.Core), (vl Granule.cs f.Odd)]) H 0 rfl rfl rfl rfl rfl rfl rfl nofun rfl ?_
   refine Ops.wanted rfl rfl ?_
   obtain ⟨x2, q2, h⟩ := bind_some h
   refine Ops.call (ys := [(.agg [(vi f.Period), (vi f.Count), (vl (cL Span.cs) f.Core), (vl Granule.cs f.Odd)])]) (r := (vi x2)) rfl (gran_Right_fn q2) rfl ?_
   refine Ops.wanted rfl rfl ?_
   refine Ops.int (m := x2) (m' := 0) (r := .bool (x2 == 0)) rfl rfl rfl rfl rfl ?_
   refine Ops.pickT (v := (vb (x2 == 0))) rfl rfl rfl ?_
   apply Ops.nil
   replace h := Option.some.inj h; subst h
   exact ⟨⟨rfl, trivial⟩, (H.erase 0).weak (by omega) (Nat.le_refl _)⟩
  ·replace h := cond_F hc1 hj1
   refine Ops.pass rfl rfl rfl ?_
   refine Ops.pass rfl rfl rfl ?_
   refine Ops.pass rfl rfl rfl ?_
   refine Ops.pickF (v := (vb false)) rfl rfl rfl ?_
   apply Ops.nil
   replace h := Option.some.inj h; subst h
   exact ⟨⟨rfl, trivial⟩, (H.erase 0).weak (by omega) (Nat.le_refl _)⟩
 ·rintro e σ ⟨he, H⟩
  obtain ⟨e, rfl⟩ := he.ex
  refine Ops.assign (v := (vb y1)) rfl rfl ?_
  apply Ops.nil
  replace H := H.all
  apply Runs.ret
  replace h := Option.some.inj h; subst h
  exact (Ends.H (xs := [(vb y1)]) (.inr rfl) H (.tmp (v := (vb y1)) rfl .nil) (.one (.c (.v _))))

set_option maxRecDepth 100000 in
set_option maxHeartbeats 4000000 in
theorem epactlaw05_Weeks_fn {r : Form} (h : epactlaw05_Weeks = r) : Fn CX 41 [] (.agg (vs (Form.cs r))) := by
 refine Fn.ends Try.func41 rfl rfl rfl rfl rfl rfl ?_
 have H : Hs (⟨0, fun _ => .none⟩ : Heap) [] := Has.nil (Nat.le_refl _)
 generalize (⟨0, fun _ => .none⟩ : Heap) = σ at H ⊢
 unfold epactlaw05_Weeks at h
 apply Runs.then
 refine Runs.regionH 1 rfl H ?_; intro b1 σ H
 refine Ops.allocH (cs := [(vi 0), (vi 0), .nils, .nils]) H (by omega) (by omega) rfl rfl ?_; intro σ H
 apply Ops.nil
 replace H := H.all
 apply Runs.then
 refine Runs.regionH 5 rfl H ?_; intro b2 σ H
 refine Ops.buildA (cs := [(vi 0), (vi 4)]) rfl rfl ?_
 refine Ops.buildS (sz := 2) ([(Span.mk 0 4)].map Span.cs) H (by omega) (by omega) rfl rfl rfl rfl rfl rfl rfl rfl rfl ?_; intro σ H
 refine Ops.buildSF (sz := 1) ([[(Span.mk 0 4)]].map (cL Span.cs)) H (by omega) (by omega) rfl rfl (.exp (.c (.s 0 rfl)) .nil) rfl rfl rfl rfl rfl rfl rfl nofun ?_; intro σ H
 refine Ops.buildA (cs := [(vi 7), (vi 1), (.buf (b2 + 2) 1 1), .nils]) rfl rfl ?_
 refine Ops.storeH (off := 0) (v := (.agg [(vi 7), (vi 1), (.buf (b2 + 2) 1 1), .nils])) (ys := [(vi 7), (vi 1), (.buf (b2 + 2) 1 1), .nils]) (cells' := [(vi 7), (vi 1), (.buf (b2 + 2) 1 1), .nils]) H 2 rfl rfl rfl rfl rfl rfl rfl rfl rfl nofun ?_; intro σ H
 apply Ops.nil
 replace H := H.all
 apply Runs.ret
 subst h
 exact (Ends.H (xs := [(.agg [(vi 7), (vi 1), (.buf (b2 + 2) 1 1), .nils])]) (.inr rfl) H (.agg (cs := [(vi 7), (vi 1), (.buf (b2 + 2) 1 1), .nils]) (off := 0) 2 rfl rfl rfl rfl rfl rfl rfl .nil) (.one (.a (.cons (.v _) (.cons (.v _) (.cons (.s 0 rfl) (.cons .n .nil)))))))

set_option maxRecDepth 100000 in
set_option maxHeartbeats 4000000 in
theorem sort_Search_fn {n : Int} {f : Int → Option Bool} {C : List Res} {cv0 : PV} (hs0 : cv0.still = true) (hp0 : cv0.pure = true → C = []) (hf0 : ∀ z0 y, f z0 = some y → CloH CX cv0 [(vi z0)] (vb y) C) {r : Int} (h : sort_Search n f = some r) : FnH CX 45 [(vi n), cv0] (vi r) C := by
 refine FnH.of Try.func45 rfl rfl rfl rfl (all_t rfl (all_t hs0 all_nil)) rfl (fun h => hp0 (all_get h 1 rfl)) ?_
 intro σ L hC H
 unfold sort_Search at h
 apply Runs.then
 refine Runs.regionH 1 rfl H ?_; intro b1 σ H
 refine Ops.assign (v := (vi 0)) rfl rfl ?_
 apply Ops.nil
 replace H := H.all
 apply Runs.then
 refine Runs.regionH 3 rfl H ?_; intro b2 σ H
 refine Ops.move (v := (vi n)) rfl rfl ?_
 refine Ops.assign (v := (vi 0)) rfl rfl ?_
 refine Ops.assign (v := (vi n)) rfl rfl ?_
 apply Ops.nil
 replace H := H.all
 apply Runs.then
 apply Runs.inBlock
 obtain ⟨y1, hj1, h⟩ := bind_some h
 obtain ⟨n1, hj1⟩ := loopO_iff.1 hj1
 refine Runs.mono (Runs.loopO hj1 (fun s1 e σ => EnvHas e [(1, cv0), (5, (vi s1.1)), (6, (vi s1.2))] ∧ Hs σ (L)) (fun y1 x e σ => x = .exit 0 ∧ EnvHas e [(5, (vi y1))] ∧ Hs σ (L)) ⟨⟨rfl, rfl, rfl, trivial⟩, H⟩ ?_) ?_
 ·intro s1 e σ hI z h
  obtain ⟨he, H⟩ := hI
  obtain ⟨e, rfl⟩ := he.ex
  unfold sort_Search.s0 at h
  apply Runs.then
  apply Runs.then
  refine Runs.regionH 3 rfl H ?_; intro b3 σ H
  refine Ops.move (v := (vi s1.1)) rfl rfl ?_
  refine Ops.move (v := (vi s1.2)) rfl rfl ?_
  refine Ops.int (m := s1.1) (m' := s1.2) (r := .bool (decide (s1.1 < s1.2))) rfl rfl rfl rfl rfl ?_
  apply Ops.nil
  replace H := H.all
  refine Runs.whether (v := (decide (s1.1 < s1.2))) rfl ?_ ?_ <;> intro hc1
  ·replace h := cond_T hc1 h
   apply Runs.skip
   apply Runs.inBlock
   obtain ⟨y2, hj2, h⟩ := bind_some h
   refine Runs.mono (Q := fun x e σ => x = .normal ∧ EnvHas e [(1, cv0), (5, (vi y2.1)), (6, (vi y2.2))] ∧ Hs σ (L)) ?_ ?_
   ·replace h := hj2
    apply Runs.then
    refine Runs.regionH 7 rfl H ?_; intro b4 σ H
    refine Ops.move (v := (vi s1.1)) rfl rfl ?_
    refine Ops.move (v := (vi s1.2)) rfl rfl ?_
    refine Ops.int (m := s1.1) (m' := s1.2) (r := .int .i64 (w64 (s1.1 + s1.2))) rfl rfl rfl rfl rfl ?_
    refine Ops.conv (m := (w64 (s1.1 + s1.2))) rfl rfl rfl rfl ?_
    refine Ops.shr (m := (IntKind.u64.wrap (w64 (s1.1 + s1.2)))) (m' := 1) rfl rfl (by decide) rfl ?_
    refine Ops.conv (m := ((IntKind.u64.wrap (w64 (s1.1 + s1.2))).fdiv (2 ^ 1))) rfl rfl rfl rfl ?_
    refine Ops.assign (v := (vi (w64 ((IntKind.u64.wrap (w64 (s1.1 + s1.2))).fdiv (2 ^ 1))))) rfl rfl ?_
    apply Ops.nil
    replace H := H.all
    apply Runs.then
    refine Runs.regionH 4 rfl H ?_; intro b5 σ H
    refine Ops.move (v := cv0) rfl rfl ?_
    refine Ops.move (v := (vi (w64 ((IntKind.u64.wrap (w64 (s1.1 + s1.2))).fdiv (2 ^ 1))))) rfl rfl ?_
    obtain ⟨x1, q1, h⟩ := bind_some h
    refine Ops.callV (cv := cv0) (ys := [(vi (w64 ((IntKind.u64.wrap (w64 (s1.1 + s1.2))).fdiv (2 ^ 1))))]) (r := (vb x1)) H rfl rfl (hf0 (w64 ((IntKind.u64.wrap (w64 (s1.1 + s1.2))).fdiv (2 ^ 1))) _ q1) hC nofun rfl ?_; intro σ H
    refine Ops.not (b := x1) rfl rfl ?_
    apply Ops.nil
    replace H := H.all
    refine Runs.whether (v := (!x1)) rfl ?_ ?_ <;> intro hc2
    ·replace h := cond_T hc2 h
     refine Runs.regionH 3 rfl H ?_; intro b6 σ H
     refine Ops.move (v := (vi (w64 ((IntKind.u64.wrap (w64 (s1.1 + s1.2))).fdiv (2 ^ 1))))) rfl rfl ?_
     refine Ops.int (m := (w64 ((IntKind.u64.wrap (w64 (s1.1 + s1.2))).fdiv (2 ^ 1)))) (m' := 1) (r := .int .i64 (w64 ((w64 ((IntKind.u64.wrap (w64 (s1.1 + s1.2))).fdiv (2 ^ 1))) + 1))) rfl rfl rfl rfl rfl ?_
     refine Ops.assign (v := (vi (w64 ((w64 ((IntKind.u64.wrap (w64 (s1.1 + s1.2))).fdiv (2 ^ 1))) + 1)))) rfl rfl ?_
     apply Ops.nil
     replace H := H.all
     replace h := Option.some.inj h; subst h
     exact ⟨rfl, ⟨rfl, rfl, rfl, trivial⟩, H⟩
    ·replace h := cond_F hc2 h
     refine Runs.regionH 2 rfl H ?_; intro b7 σ H
     refine Ops.move (v := (vi (w64 ((IntKind.u64.wrap (w64 (s1.1 + s1.2))).fdiv (2 ^ 1))))) rfl rfl ?_
     refine Ops.assign (v := (vi (w64 ((IntKind.u64.wrap (w64 (s1.1 + s1.2))).fdiv (2 ^ 1))))) rfl rfl ?_
     apply Ops.nil
     replace H := H.all
     replace h := Option.some.inj h; subst h
     exact ⟨rfl, ⟨rfl, rfl, rfl, trivial⟩, H⟩
   ·rintro x e σ ⟨rfl, he, H⟩
    obtain ⟨e, rfl⟩ := he.ex
    replace h := Option.some.inj h; subst h
    exact ⟨rfl, ⟨rfl, rfl, rfl, trivial⟩, H⟩
  ·replace h := cond_F hc1 h
   apply Runs.exit
   replace h := Option.some.inj h; subst h
   exact ⟨nofun, ⟨rfl, ⟨rfl, trivial⟩, H⟩⟩
 ·rintro x e σ ⟨rfl, he, H⟩
  obtain ⟨e, rfl⟩ := he.ex
  apply Runs.then
  refine Runs.regionH 2 rfl H ?_; intro b8 σ H
  refine Ops.move (v := (vi y1)) rfl rfl ?_
  refine Ops.assign (v := (vi y1)) rfl rfl ?_
  apply Ops.nil
  replace H := H.all
  apply Runs.ret
  replace h := Option.some.inj h; subst h
  exact (EndsH.H (xs := [(vi y1)]) (.inr rfl) H (.tmp (v := (vi y1)) rfl .nil) (.one (.c (.v _))) 0 rfl)

set_option maxRecDepth 100000 in
set_option maxHeartbeats 4000000 in
theorem size_inRange_fn {k : Int} {r : Bool} (h : size_inRange k = r) : Fn CX 58 [(vi k)] (vb r) := by
 refine Fn.ends Try.func58 rfl rfl rfl rfl rfl rfl ?_
 have H : Hs (⟨0, fun _ => .none⟩ : Heap) [] := Has.nil (Nat.le_refl _)
 generalize (⟨0, fun _ => .none⟩ : Heap) = σ at H ⊢
 unfold size_inRange at h
 apply Runs.then
 refine Runs.regionH 1 rfl H ?_; intro b1 σ H
 refine Ops.assign (v := (vb false)) rfl rfl ?_
 apply Ops.nil
 replace H := H.all
 apply Runs.then
 refine Runs.regionH 7 rfl H ?_; intro b2 σ H
 refine Ops.move (v := (vi k)) rfl rfl ?_
 refine Ops.int (m := k) (m' := (-1099511627776)) (r := .bool (decide (k ≥ (-1099511627776)))) rfl rfl rfl rfl rfl ?_
 refine Ops.move (v := (vb (decide (k ≥ (-1099511627776))))) rfl rfl ?_
 refine Ops.mid 3 (K1 := fun e σ => EnvHas e [(8, (vb ((decide (k ≥ (-1099511627776))) && (decide (k ≤ 1099511627776)))))] ∧ Has σ (b2 + 6) (b2 + 7) []) rfl ?_ ?_
 ·refine Ops.split rfl rfl ?_ ?_ <;> intro hc1
  ·skip
   refine Ops.wanted rfl rfl ?_
   refine Ops.move (v := (vi k)) rfl rfl ?_
   refine Ops.wanted rfl rfl ?_
   refine Ops.int (m := k) (m' := 1099511627776) (r := .bool (decide (k ≤ 1099511627776))) rfl rfl rfl rfl rfl ?_
   refine Ops.pickT (v := (vb (decide (k ≤ 1099511627776)))) rfl rfl rfl ?_
   apply Ops.nil
   exact ⟨⟨and_T hc1, trivial⟩, H.weak (by omega) (Nat.le_refl _)⟩
  ·skip
   refine Ops.pass rfl rfl rfl ?_
   refine Ops.pass rfl rfl rfl ?_
   refine Ops.pickF (v := (vb false)) rfl rfl rfl ?_
   apply Ops.nil
   exact ⟨⟨and_F hc1, trivial⟩, H.weak (by omega) (Nat.le_refl _)⟩
 ·rintro e σ ⟨he, H⟩
  obtain ⟨e, rfl⟩ := he.ex
  refine Ops.assign (v := (vb ((decide (k ≥ (-1099511627776))) && (decide (k ≤ 1099511627776))))) rfl rfl ?_
  apply Ops.nil
  replace H := H.all
  apply Runs.ret
  subst h
  exact (Ends.H (xs := [(vb ((decide (k ≥ (-1099511627776))) && (decide (k ≤ 1099511627776))))]) (.inr rfl) H (.tmp (v := (vb ((decide (k ≥ (-1099511627776))) && (decide (k ≤ 1099511627776))))) rfl .nil) (.one (.c (.v _))))

set_option maxRecDepth 100000 in
set_option maxHeartbeats 4000000 in
theorem canon_bare_1_fn {l : (List Span)} {r : Bool} (h : canon_bare_1 l = r) : Fn CX 117 [(vl Span.cs l)] (vb r) := by
 refine Fn.ends Try.func117 rfl rfl rfl rfl rfl rfl ?_
 have H : Hs (⟨0, fun _ => .none⟩ : Heap) [] := Has.nil (Nat.le_refl _)
 generalize (⟨0, fun _ => .none⟩ : Heap) = σ at H ⊢
 unfold canon_bare_1 at h
 apply Runs.then
 refine Runs.regionH 1 rfl H ?_; intro b1 σ H
 refine Ops.assign (v := (vb false)) rfl rfl ?_
 apply Ops.nil
 replace H := H.all
 apply Runs.then
 refine Runs.regionH 4 rfl H ?_; intro b2 σ H
 refine Ops.move (v := (vl Span.cs l)) rfl rfl ?_
 refine Ops.lenPt (c := Span.cs) (xs := l) rfl rfl rfl ?_
 refine Ops.int (m := (l.length : Int)) (m' := 0) (r := .bool (decide ((l.length : Int) > 0))) rfl rfl rfl rfl rfl ?_
 refine Ops.assign (v := (vb (decide ((l.length : Int) > 0)))) rfl rfl ?_
 apply Ops.nil
 replace H := H.all
 apply Runs.ret
 subst h
 exact (Ends.H (xs := [(vb (decide ((l.length : Int) > 0)))]) (.inr rfl) H (.tmp (v := (vb (decide ((l.length : Int) > 0)))) rfl .nil) (.one (.c (.v _))))

set_option maxRecDepth 100000 in
set_option maxHeartbeats 4000000 in
theorem canon_bare_fn {f : Form} {r : Bool} (h : canon_bare f = some r) : Fn CX 91 [(.agg (vs (Form.cs f)))] (vb r) := by
 refine Fn.ends Try.func91 rfl rfl rfl rfl rfl rfl ?_
 have H : Hs (⟨0, fun _ => .none⟩ : Heap) [] := Has.nil (Nat.le_refl _)
 generalize (⟨0, fun _ => .none⟩ : Heap) = σ at H ⊢
 unfold canon_bare at h
 apply Runs.then
 refine Runs.regionH 2 rfl H ?_; intro b1 σ H
 refine Ops.boxH (v := (.agg [(vi f.Period), (vi f.Count), (vl (cL Span.cs) f.Core), (vl Granule.cs f.Odd)])) (cs := [(vi f.Period), (vi f.Count), (vl (cL Span.cs) f.Core), (vl Granule.cs f.Odd)]) H (by omega) (by omega) rfl rfl rfl ?_; intro σ H
 refine Ops.assign (v := (vb false)) rfl rfl ?_
 apply Ops.nil
 replace H := H.all
 apply Runs.then
 refine Runs.regionH 5 rfl H ?_; intro b2 σ H
 refine Ops.fieldAddrH (off := 0) (fo := 2) H 0 rfl rfl rfl rfl rfl nofun rfl ?_
 refine Ops.loadH (off := 2) (v := (vl (cL Span.cs) f.Core)) H 0 rfl rfl rfl rfl rfl nofun rfl ?_
 obtain ⟨x1, q1, h⟩ := bind_some h
 refine Ops.callH (ys := [(vl (cL Span.cs) f.Core), (.v (.fn 117))]) (r := (vb x1)) H rfl (slices_ContainsFunc_SSSpan_SSpan_fn (C := []) rfl (fun _ => rfl) (fun z0 y hz => (CloH.fn (Fn.toH (canon_bare_1_fn (Option.some.inj hz)) _))) q1) .nil nofun rfl ?_; intro σ H
 refine Ops.not (b := x1) rfl rfl ?_
 refine Ops.assign (v := (vb (!x1))) rfl rfl ?_
 apply Ops.nil
 replace H := H.all
 apply Runs.ret
 replace h := Option.some.inj h; subst h
 exact (Ends.H (xs := [(vb (!x1))]) (.inr rfl) H (.tmp (v := (vb (!x1))) rfl .nil) (.one (.c (.v _))))

set_option maxRecDepth 100000 in
set_option maxHeartbeats 4000000 in
theorem canon_divisors_fn {n : Int} {σ : Heap} {lo hi : Nat} {L : List Res} (H : Has σ lo hi L) : ∃ r σ', callL CX (.fn 92) [(vi n)] σ = some (r, σ') ∧ ∃ i0' : Nat, r = (.clo 118 [] [(.ptr i0' 1 0)]) ∧ Hs σ' (.blk i0' 3 [(vi n)] :: L) := by
 refine callO_of (Post := fun r σ' => ∃ i0' : Nat, r = (.clo 118 [] [(.ptr i0' 1 0)]) ∧ Hs σ' (.blk i0' 3 [(vi n)] :: L)) Try.func92 rfl rfl rfl rfl rfl rfl ?_
 replace H := H.all
 apply Runs.then
 refine Runs.regionH 2 rfl H ?_; intro b1 σ H
 refine Ops.boxH (v := (vi n)) (cs := [(vi n)]) H (by omega) (by omega) rfl rfl rfl ?_; intro σ H
 refine Ops.assign (v := (.v .nilf)) rfl rfl ?_
 apply Ops.nil
 replace H := H.all
 apply Runs.then
 refine Runs.regionH 2 rfl H ?_; intro b2 σ H
 refine Ops.makeClo (fs := []) (cs := [(.ptr (b1 + 0) 1 0)]) rfl rfl rfl rfl ?_
 refine Ops.assign (v := (.clo 118 [] [(.ptr (b1 + 0) 1 0)])) rfl rfl ?_
 apply Ops.nil
 replace H := H.all
 apply Runs.ret
 exact ⟨.inr rfl, [(.clo 118 [] [(.ptr (b1 + 0) 1 0)])], resD_ok H (.tmp (v := (.clo 118 [] [(.ptr (b1 + 0) 1 0)])) rfl .nil), (b1 + 0), rfl, H.all⟩

set_option maxRecDepth 100000 in
set_option maxHeartbeats 4000000 in
theorem canon_divisors_1_fn {p1' : Int} {S : Type} {C : S → List Res → Prop} {yield : S → Int → Option (S × Bool)} {yid : Nat} {id0' : Nat} (hy : YldH CX yid C (fun z => [(vi z)]) yield) (hcap : ∀ s L, C s L → Sub [.blk id0' 3 [(vi p1')]] L) {st' r : S} (h : canon_divisors_1 p1' yield st' = some r) : ItF CX 118 [(.yld yid), (.ptr id0' 1 0)] C st' r := by
 refine ItF.of Try.func118 rfl rfl rfl rfl rfl rfl rfl rfl ?_
 intro σ L hC H
 have hc0 := hcap _ _ hC
 obtain ⟨k0', hk0', hc0⟩ := hc0.inv
 unfold canon_divisors_1 at h
 apply Runs.then
 refine Runs.regionH 1 rfl H ?_; intro b1 σ H
 refine Ops.assign (v := (vi 1)) rfl rfl ?_
 apply Ops.nil
 replace H := H.all
 apply Runs.inBlock
 obtain ⟨y1, hj1, h⟩ := bind_some h
 obtain ⟨n1, hj1⟩ := loopO_iff.1 hj1
 refine Runs.mono (Runs.loopO hj1 (fun s1 e σ => ∃ (L : List Res), C s1.2 L ∧ EnvHas e [(0, (.yld yid)), (1, (.ptr id0' 1 0)), (3, (vi s1.1))] ∧ Hs σ (L)) (fun y1 x e σ => (∃ a1, ∃ (L : List Res), C a1 L ∧ y1 = (.go a1) ∧ x = .exit 0 ∧ EnvHas e [] ∧ Hs σ (L)) ∨ (∃ r', y1 = (.ret r') ∧ x = .ret ∧ EndsI C r' x e σ)) ⟨_, hC, ⟨rfl, rfl, rfl, trivial⟩, H⟩ ?_) ?_
 ·intro s1 e σ hI z h
  obtain ⟨L, hC, he, H⟩ := hI
  obtain ⟨e, rfl⟩ := he.ex
  have hc0 := hcap _ _ hC
  obtain ⟨k0', hk0', hc0⟩ := hc0.inv
  unfold canon_divisors_1.s0 at h
  apply Runs.then
  apply Runs.then
  refine Runs.regionH 3 rfl H ?_; intro b2 σ H
  refine Ops.move (v := (vi s1.1)) rfl rfl ?_
  refine Ops.loadH (off := 0) (v := (vi p1')) H k0' hk0' rfl rfl rfl rfl nofun rfl ?_
  refine Ops.int (m := s1.1) (m' := p1') (r := .bool (decide (s1.1 ≤ p1'))) rfl rfl rfl rfl rfl ?_
  apply Ops.nil
  replace H := H.all
  refine Runs.whether (v := (decide (s1.1 ≤ p1'))) rfl ?_ ?_ <;> intro hc1
  ·replace h := cond_T hc1 h
   apply Runs.skip
   apply Runs.then
   apply Runs.inBlock
   apply Runs.then
   refine Runs.regionH 10 rfl H ?_; intro b3 σ H
   refine Ops.loadH (off := 0) (v := (vi p1')) H k0' hk0' rfl rfl rfl rfl nofun rfl ?_
   refine Ops.move (v := (vi s1.1)) rfl rfl ?_
   obtain ⟨u1, q1, h⟩ := bind_some h
   refine Ops.rem (m := p1') (m' := s1.1) rfl rfl (nz_ne q1) rfl ?_
   refine Ops.int (m := (p1'.tmod s1.1)) (m' := 0) (r := .bool ((p1'.tmod s1.1) == 0)) rfl rfl rfl rfl rfl ?_
   refine Ops.move (v := (vb ((p1'.tmod s1.1) == 0))) rfl rfl ?_
   obtain ⟨y2, hj2, h⟩ := bind_some h
   refine Ops.mid 5 (K1 := fun e σ => ∃ L, C y2.2 L ∧ EnvHas e [(18, (vb y2.1)), (0, (.yld yid)), (1, (.ptr id0' 1 0)), (3, (vi s1.1))] ∧ Hs σ (L)) rfl ?_ ?_
   ·refine Ops.split rfl rfl ?_ ?_ <;> intro hc2
    ·replace h := cond_T hc2 hj2
     refine Ops.wanted rfl rfl ?_
     refine Ops.move (v := (.yld yid)) rfl rfl ?_
     refine Ops.wanted rfl rfl ?_
     refine Ops.move (v := (vi s1.1)) rfl rfl ?_
     refine Ops.wanted rfl rfl ?_
     obtain ⟨x1, q2, h⟩ := bind_some h
     refine Ops.callY (z := s1.1) (s' := x1.1) (b := x1.2) [] H hC rfl rfl hy q2 rfl rfl ?_; intro σ L hC H
     have hc0 := hcap _ _ hC
     obtain ⟨k0', hk0', hc0⟩ := hc0.inv
     refine Ops.wanted rfl rfl ?_
     refine Ops.not (b := x1.2) rfl rfl ?_
     refine Ops.pickT (v := (vb (!x1.2))) rfl rfl rfl ?_
     apply Ops.nil
     replace h := Option.some.inj h; subst h
     exact ⟨_, hC, ⟨rfl, rfl, rfl, rfl, trivial⟩, H.all⟩
    ·replace h := cond_F hc2 hj2
     refine Ops.pass rfl rfl rfl ?_
     refine Ops.pass rfl rfl rfl ?_
     refine Ops.pass rfl rfl rfl ?_
     refine Ops.pass rfl rfl rfl ?_
     refine Ops.pickF (v := (vb false)) rfl rfl rfl ?_
     apply Ops.nil
     replace h := Option.some.inj h; subst h
     exact ⟨_, hC, ⟨rfl, rfl, rfl, rfl, trivial⟩, H.all⟩
   ·rintro e σ ⟨L, hC, he, H⟩
    obtain ⟨e, rfl⟩ := he.ex
    have hc0 := hcap _ _ hC
    obtain ⟨k0', hk0', hc0⟩ := hc0.inv
    apply Ops.nil
    replace H := H.all
    refine Runs.whether (v := y2.1) rfl ?_ ?_ <;> intro hc3
    ·replace h := cond_T hc3 h
     apply Runs.ret
     replace h := Option.some.inj h; subst h
     exact ⟨nofun, (.inr ⟨_, rfl, rfl, (EndsI.H (.inr rfl) H 0 rfl hC)⟩)⟩
    ·replace h := cond_F hc3 h
     apply Runs.skip
     refine Runs.regionH 3 rfl H ?_; intro b4 σ H
     refine Ops.move (v := (vi s1.1)) rfl rfl ?_
     refine Ops.int (m := s1.1) (m' := 1) (r := .int .i64 (w64 (s1.1 + 1))) rfl rfl rfl rfl rfl ?_
     refine Ops.assign (v := (vi (w64 (s1.1 + 1)))) rfl rfl ?_
     apply Ops.nil
     replace H := H.all
     replace h := Option.some.inj h; subst h
     exact ⟨rfl, _, hC, ⟨rfl, rfl, rfl, trivial⟩, H⟩
  ·replace h := cond_F hc1 h
   apply Runs.exit
   replace h := Option.some.inj h; subst h
   exact ⟨nofun, (.inl ⟨_, _, hC, rfl, rfl, trivial, H⟩)⟩
 ·rintro x e σ (⟨a2, L, hC, rfl, rfl, he, H⟩ | ⟨r', rfl, rfl, hE⟩)
  ·skip
   replace h := jgo h
   obtain ⟨e, rfl⟩ := he.ex
   have hc0 := hcap _ _ hC
   obtain ⟨k0', hk0', hc0⟩ := hc0.inv
   replace h := Option.some.inj h; subst h
   exact (EndsI.H (.inl rfl) H 0 rfl hC)
  ·skip
   replace h := jret h
   replace h := Option.some.inj h; subst h
   exact hE

set_option maxRecDepth 100000 in
set_option maxHeartbeats 4000000 in
theorem slices_EqualFunc_SSpan_SSpan_Span_Span_fn {s1' : (List Span)} {s2' : (List Span)} {eq : Span → Span → Option Bool} {C : List Res} {cv0 : PV} (hs0 : cv0.still = true) (hp0 : cv0.pure = true → C = []) (hf0 : ∀ z0 z1 y, eq z0 z1 = some y → CloH CX cv0 [(.agg (vs (Span.cs z0))), (.agg (vs (Span.cs z1)))] (vb y) C) {r : Bool} (h : slices_EqualFunc_SSpan_SSpan_Span_Span s1' s2' eq = some r) : FnH CX 132 [(vl Span.cs s1'), (vl Span.cs s2'), cv0] (vb r) C := by
 refine FnH.of Try.func132 rfl rfl rfl rfl (all_t rfl (all_t rfl (all_t hs0 all_nil))) rfl (fun h => hp0 (all_get h 2 rfl)) ?_
 intro σ L hC H
 unfold slices_EqualFunc_SSpan_SSpan_Span_Span at h
 apply Runs.then
 refine Runs.regionH 1 rfl H ?_; intro b1 σ H
 refine Ops.assign (v := (vb false)) rfl rfl ?_
 apply Ops.nil
 replace H := H.all
 apply Runs.then
 apply Runs.then
 refine Runs.regionH 5 rfl H ?_; intro b2 σ H
 refine Ops.move (v := (vl Span.cs s1')) rfl rfl ?_
 refine Ops.lenPt (c := Span.cs) (xs := s1') rfl rfl rfl ?_
 refine Ops.move (v := (vl Span.cs s2')) rfl rfl ?_
 refine Ops.lenPt (c := Span.cs) (xs := s2') rfl rfl rfl ?_
 refine Ops.int (m := (s1'.length : Int)) (m' := (s2'.length : Int)) (r := .bool ((s1'.length : Int) != (s2'.length : Int))) rfl rfl rfl rfl rfl ?_
 apply Ops.nil
 replace H := H.all
 refine Runs.whether (v := ((s1'.length : Int) != (s2'.length : Int))) rfl ?_ ?_ <;> intro hc1
 ·replace h := cond_T hc1 h
  apply Runs.then
  refine Runs.regionH 1 rfl H ?_; intro b3 σ H
  refine Ops.assign (v := (vb false)) rfl rfl ?_
  apply Ops.nil
  replace H := H.all
  apply Runs.ret
  replace h := Option.some.inj h; subst h
  exact (EndsH.H (xs := [(vb false)]) (.inr rfl) H (.tmp (v := (vb false)) rfl .nil) (.one (.c (.v _))) 0 rfl)
 ·replace h := cond_F hc1 h
  apply Runs.skip
  apply Runs.then
  apply Runs.then
  refine Runs.regionH 3 rfl H ?_; intro b4 σ H
  refine Ops.move (v := (vl Span.cs s1')) rfl rfl ?_
  refine Ops.lenPt (c := Span.cs) (xs := s1') rfl rfl rfl ?_
  refine Ops.move (v := (vi 0)) rfl rfl ?_
  apply Ops.nil
  replace H := H.all
  apply Runs.inBlock
  obtain ⟨y1, hj1, h⟩ := bind_some h
  obtain ⟨n1, hj1⟩ := loopO_iff.1 hj1
  refine Runs.mono (Runs.loopO hj1 (fun s1 e σ => EnvHas e [(1, (vl Span.cs s2')), (2, cv0), (15, (vl Span.cs s1')), (16, (vi (s1'.length : Int))), (17, (vi s1))] ∧ Hs σ (L)) (fun y1 x e σ => (∃ a1, y1 = (.go a1) ∧ x = .exit 0 ∧ EnvHas e [] ∧ Hs σ (L)) ∨ (∃ r', y1 = (.ret r') ∧ x = .ret ∧ EndsH CX Try.f132.results.toList (vb r') L x e σ)) ⟨⟨rfl, rfl, rfl, rfl, rfl, trivial⟩, H⟩ ?_) ?_
  ·intro s1 e σ hI z h
   obtain ⟨he, H⟩ := hI
   obtain ⟨e, rfl⟩ := he.ex
   unfold slices_EqualFunc_SSpan_SSpan_Span_Span.s0 at h
   apply Runs.then
   refine Runs.regionH 1 rfl H ?_; intro b5 σ H
   refine Ops.int (m := s1) (m' := (s1'.length : Int)) (r := .bool (decide (s1 < (s1'.length : Int)))) rfl rfl rfl rfl rfl ?_
   apply Ops.nil
   replace H := H.all
   apply Runs.then
   refine Runs.whether (v := (decide (s1 < (s1'.length : Int)))) rfl ?_ ?_ <;> intro hc2
   ·replace h := cond_T hc2 h
    apply Runs.skip
    apply Runs.then
    apply Runs.inBlock
    apply Runs.then
    refine Runs.regionH 6 rfl H ?_; intro b6 σ H
    refine Ops.move (v := (vi s1)) rfl rfl ?_
    obtain ⟨x1, q1, h⟩ := bind_some h
    refine Ops.indexP (c := Span.cs) (u := x1) rfl rfl q1 rfl rfl rfl rfl ?_
    refine Ops.loadPA (cs := [(.int .i64 x1.From), (.int .i64 x1.To)]) rfl rfl rfl rfl rfl rfl ?_
    refine Ops.allocH (cs := [(vi 0), (vi 0)]) H (by omega) (by omega) rfl rfl ?_; intro σ H
    refine Ops.assign (v := (vi s1)) rfl rfl ?_
    refine Ops.storeH (off := 0) (v := (.agg [(vi x1.From), (vi x1.To)])) (ys := [(vi x1.From), (vi x1.To)]) (cells' := [(vi x1.From), (vi x1.To)]) H 0 rfl rfl rfl rfl rfl rfl rfl rfl rfl nofun ?_; intro σ H
    apply Ops.nil
    replace H := H.all
    apply Runs.then
    refine Runs.regionH 6 rfl H ?_; intro b7 σ H
    refine Ops.move (v := (vl Span.cs s2')) rfl rfl ?_
    refine Ops.move (v := (vi s1)) rfl rfl ?_
    obtain ⟨x2, q2, h⟩ := bind_some h
    refine Ops.indexP (c := Span.cs) (u := x2) rfl rfl q2 rfl rfl rfl rfl ?_
    refine Ops.loadPA (cs := [(.int .i64 x2.From), (.int .i64 x2.To)]) rfl rfl rfl rfl rfl rfl ?_
    refine Ops.allocH (cs := [(vi 0), (vi 0)]) H (by omega) (by omega) rfl rfl ?_; intro σ H
    refine Ops.storeH (off := 0) (v := (.agg [(vi x2.From), (vi x2.To)])) (ys := [(vi x2.From), (vi x2.To)]) (cells' := [(vi x2.From), (vi x2.To)]) H 0 rfl rfl rfl rfl rfl rfl rfl rfl rfl nofun ?_; intro σ H
    apply Ops.nil
    replace H := H.all
    apply Runs.then
    refine Runs.regionH 5 rfl H ?_; intro b8 σ H
    refine Ops.move (v := cv0) rfl rfl ?_
    refine Ops.loadHA (off := 0) (cs := [(vi x1.From), (vi x1.To)]) H 1 rfl rfl rfl rfl rfl rfl rfl nofun rfl ?_
    refine Ops.loadHA (off := 0) (cs := [(vi x2.From), (vi x2.To)]) H 0 rfl rfl rfl rfl rfl rfl rfl nofun rfl ?_
    obtain ⟨x3, q3, h⟩ := bind_some h
    refine Ops.callV (cv := cv0) (ys := [(.agg (vs (Span.cs x1))), (.agg (vs (Span.cs x2)))]) (r := (vb x3)) H rfl rfl (hf0 x1 x2 _ q3) hC.push.push nofun rfl ?_; intro σ H
    refine Ops.not (b := x3) rfl rfl ?_
    apply Ops.nil
    replace H := H.all
    refine Runs.whether (v := (!x3)) rfl ?_ ?_ <;> intro hc3
    ·replace h := cond_T hc3 h
     apply Runs.then
     refine Runs.regionH 1 rfl H ?_; intro b9 σ H
     refine Ops.assign (v := (vb false)) rfl rfl ?_
     apply Ops.nil
     replace H := H.all
     apply Runs.ret
     replace h := Option.some.inj h; subst h
     exact ⟨nofun, (.inr ⟨_, rfl, rfl, (EndsH.H (xs := [(vb false)]) (.inr rfl) H (.tmp (v := (vb false)) rfl .nil) (.one (.c (.v _))) 2 rfl)⟩)⟩
    ·replace h := cond_F hc3 h
     apply Runs.skip
     refine Runs.regionH 2 rfl H ?_; intro b10 σ H
     refine Ops.int (m := s1) (m' := 1) (r := .int .i64 (w64 (s1 + 1))) rfl rfl rfl rfl rfl ?_
     refine Ops.move (v := (vi (w64 (s1 + 1)))) rfl rfl ?_
     apply Ops.nil
     replace H := H.all
     replace h := Option.some.inj h; subst h
     exact ⟨rfl, ⟨rfl, rfl, rfl, rfl, rfl, trivial⟩, ((H.erase 1).erase 0)⟩
   ·replace h := cond_F hc2 h
    apply Runs.exit
    replace h := Option.some.inj h; subst h
    exact ⟨nofun, (.inl ⟨_, rfl, rfl, trivial, H⟩)⟩
  ·rintro x e σ (⟨a2, rfl, rfl, he, H⟩ | ⟨r', rfl, rfl, hE⟩)
   ·skip
    replace h := jgo h
    obtain ⟨e, rfl⟩ := he.ex
    apply Runs.then
    refine Runs.regionH 1 rfl H ?_; intro b11 σ H
    refine Ops.assign (v := (vb true)) rfl rfl ?_
    apply Ops.nil
    replace H := H.all
    apply Runs.ret
    replace h := Option.some.inj h; subst h
    exact (EndsH.H (xs := [(vb true)]) (.inr rfl) H (.tmp (v := (vb true)) rfl .nil) (.one (.c (.v _))) 0 rfl)
   ·skip
    replace h := jret h
    replace h := Option.some.inj h; subst h
    exact hE

set_option maxRecDepth 100000 in
set_option maxHeartbeats 4000000 in
theorem canon_shifted_1_fn {x' : Span} {y : Span} {p2' : Int} {id0' : Nat} {r : Bool} (h : canon_shifted_1 x' y p2' = r) : FnH CX 133 [(.agg (vs (Span.cs x'))), (.agg (vs (Span.cs y))), (.ptr id0' 1 0)] (vb r) [.blk id0' 3 [(vi p2')]] := by
 refine FnH.of Try.func133 rfl rfl rfl rfl rfl rfl (fun h => by have := all_get h 2 rfl; cases this) ?_
 intro σ L hC H
 have hC0 := hC
 obtain ⟨k0', hk0', hC⟩ := hC.inv
 unfold canon_shifted_1 at h
 apply Runs.then
 refine Runs.regionH 3 rfl H ?_; intro b1 σ H
 refine Ops.boxH (v := (.agg [(vi x'.From), (vi x'.To)])) (cs := [(vi x'.From), (vi x'.To)]) H (by omega) (by omega) rfl rfl rfl ?_; intro σ H
 refine Ops.boxH (v := (.agg [(vi y.From), (vi y.To)])) (cs := [(vi y.From), (vi y.To)]) H (by omega) (by omega) rfl rfl rfl ?_; intro σ H
 refine Ops.assign (v := (vb false)) rfl rfl ?_
 apply Ops.nil
 replace H := H.all
 apply Runs.then
 refine Runs.regionH 17 rfl H ?_; intro b2 σ H
 refine Ops.fieldAddrH (off := 0) (fo := 0) H 0 rfl rfl rfl rfl rfl nofun rfl ?_
 refine Ops.loadH (off := 0) (v := (vi y.From)) H 0 rfl rfl rfl rfl rfl nofun rfl ?_
 refine Ops.fieldAddrH (off := 0) (fo := 0) H 1 rfl rfl rfl rfl rfl nofun rfl ?_
 refine Ops.loadH (off := 0) (v := (vi x'.From)) H 1 rfl rfl rfl rfl rfl nofun rfl ?_
 refine Ops.int (m := y.From) (m' := x'.From) (r := .int .i64 (w64 (y.From - x'.From))) rfl rfl rfl rfl rfl ?_
 refine Ops.loadH (off := 0) (v := (vi p2')) H (k0' + 2) hk0' rfl rfl rfl rfl nofun rfl ?_
 refine Ops.int (m := (w64 (y.From - x'.From))) (m' := p2') (r := .bool ((w64 (y.From - x'.From)) == p2')) rfl rfl rfl rfl rfl ?_
 refine Ops.move (v := (vb ((w64 (y.From - x'.From)) == p2'))) rfl rfl ?_
 refine Ops.mid 8 (K1 := fun e σ => EnvHas e [(21, (vb (((w64 (y.From - x'.From)) == p2') && ((w64 (y.To - x'.To)) == p2'))))] ∧ Has σ (b2 + 16) (b2 + 17) (L)) rfl ?_ ?_
 ·refine Ops.split rfl rfl ?_ ?_ <;> intro hc1
  ·skip
   refine Ops.wanted rfl rfl ?_
   refine Ops.fieldAddrH (off := 0) (fo := 1) H 0 rfl rfl rfl rfl rfl nofun rfl ?_
   refine Ops.wanted rfl rfl ?_
   refine Ops.loadH (off := 1) (v := (vi y.To)) H 0 rfl rfl rfl rfl rfl nofun rfl ?_
   refine Ops.wanted rfl rfl ?_
   refine Ops.fieldAddrH (off := 0) (fo := 1) H 1 rfl rfl rfl rfl rfl nofun rfl ?_
   refine Ops.wanted rfl rfl ?_
   refine Ops.loadH (off := 1) (v := (vi x'.To)) H 1 rfl rfl rfl rfl rfl nofun rfl ?_
   refine Ops.wanted rfl rfl ?_
   refine Ops.int (m := y.To) (m' := x'.To) (r := .int .i64 (w64 (y.To - x'.To))) rfl rfl rfl rfl rfl ?_
   refine Ops.wanted rfl rfl ?_
   refine Ops.loadH (off := 0) (v := (vi p2')) H (k0' + 2) hk0' rfl rfl rfl rfl nofun rfl ?_
   refine Ops.wanted rfl rfl ?_
   refine Ops.int (m := (w64 (y.To - x'.To))) (m' := p2') (r := .bool ((w64 (y.To - x'.To)) == p2')) rfl rfl rfl rfl rfl ?_
   refine Ops.pickT (v := (vb ((w64 (y.To - x'.To)) == p2'))) rfl rfl rfl ?_
   apply Ops.nil
   exact ⟨⟨and_T hc1, trivial⟩, ((H.erase 1).erase 0).weak (by omega) (Nat.le_refl _)⟩
  ·skip
   refine Ops.pass rfl rfl rfl ?_
   refine Ops.pass rfl rfl rfl ?_
   refine Ops.pass rfl rfl rfl ?_
   refine Ops.pass rfl rfl rfl ?_
   refine Ops.pass rfl rfl rfl ?_
   refine Ops.pass rfl rfl rfl ?_
   refine Ops.pass rfl rfl rfl ?_
   refine Ops.pickF (v := (vb false)) rfl rfl rfl ?_
   apply Ops.nil
   exact ⟨⟨and_F hc1, trivial⟩, ((H.erase 1).erase 0).weak (by omega) (Nat.le_refl _)⟩
 ·rintro e σ ⟨he, H⟩
  obtain ⟨e, rfl⟩ := he.ex
  refine Ops.assign (v := (vb (((w64 (y.From - x'.From)) == p2') && ((w64 (y.To - x'.To)) == p2')))) rfl rfl ?_
  apply Ops.nil
  replace H := H.all
  apply Runs.ret
  subst h
  exact (EndsH.H (xs := [(vb (((w64 (y.From - x'.From)) == p2') && ((w64 (y.To - x'.To)) == p2')))]) (.inr rfl) H (.tmp (v := (vb (((w64 (y.From - x'.From)) == p2') && ((w64 (y.To - x'.To)) == p2')))) rfl .nil) (.one (.c (.v _))) 0 rfl)

set_option maxRecDepth 100000 in
set_option maxHeartbeats 4000000 in
theorem canon_shifted_fn {a : (List Span)} {b : (List Span)} {by' : Int} {r : Bool} (h : canon_shifted a b by' = some r) : Fn CX 119 [(vl Span.cs a), (vl Span.cs b), (vi by')] (vb r) := by
 refine Fn.ends Try.func119 rfl rfl rfl rfl rfl rfl ?_
 have H : Hs (⟨0, fun _ => .none⟩ : Heap) [] := Has.nil (Nat.le_refl _)
 generalize (⟨0, fun _ => .none⟩ : Heap) = σ at H ⊢
 unfold canon_shifted at h
 apply Runs.then
 refine Runs.regionH 2 rfl H ?_; intro b1 σ H
 refine Ops.boxH (v := (vi by')) (cs := [(vi by')]) H (by omega) (by omega) rfl rfl rfl ?_; intro σ H
 refine Ops.assign (v := (vb false)) rfl rfl ?_
 apply Ops.nil
 replace H := H.all
 apply Runs.then
 refine Runs.regionH 5 rfl H ?_; intro b2 σ H
 refine Ops.move (v := (vl Span.cs a)) rfl rfl ?_
 refine Ops.move (v := (vl Span.cs b)) rfl rfl ?_
 refine Ops.makeClo (fs := []) (cs := [(.ptr (b1 + 0) 1 0)]) rfl rfl rfl rfl ?_
 obtain ⟨x1, q1, h⟩ := bind_some h
 refine Ops.callH (ys := [(vl Span.cs a), (vl Span.cs b), (.clo 133 [] [(.ptr (b1 + 0) 1 0)])]) (r := (vb x1)) H rfl (slices_EqualFunc_SSpan_SSpan_Span_Span_fn (C := [.blk (b1 + 0) 3 [(vi by')]]) rfl (fun h => by simp [PV.pure] at h) (fun z0 z1 y hz => (CloH.clo (canon_shifted_1_fn (Option.some.inj hz)))) q1) (.cons 0 rfl .nil) nofun rfl ?_; intro σ H
 refine Ops.assign (v := (vb x1)) rfl rfl ?_
 apply Ops.nil
 replace H := H.all
 apply Runs.ret
 replace h := Option.some.inj h; subst h
 exact (Ends.H (xs := [(vb x1)]) (.inr rfl) H (.tmp (v := (vb x1)) rfl .nil) (.one (.c (.v _))))

set_option maxRecDepth 100000 in
set_option maxHeartbeats 4000000 in
theorem canon_turn_fn {f : Form} {d : Int} {by' : Int} {r : Bool} (h : canon_turn f d by' = some r) : Fn CX 93 [(.agg (vs (Form.cs f))), (vi d), (vi by')] (vb r) := by
 refine Fn.ends Try.func93 rfl rfl rfl rfl rfl rfl ?_
 have H : Hs (⟨0, fun _ => .none⟩ : Heap) [] := Has.nil (Nat.le_refl _)
 generalize (⟨0, fun _ => .none⟩ : Heap) = σ at H ⊢
 unfold canon_turn at h
 apply Runs.then
 refine Runs.regionH 2 rfl H ?_; intro b1 σ H
 refine Ops.boxH (v := (.agg [(vi f.Period), (vi f.Count), (vl (cL Span.cs) f.Core), (vl Granule.cs f.Odd)])) (cs := [(vi f.Period), (vi f.Count), (vl (cL Span.cs) f.Core), (vl Granule.cs f.Odd)]) H (by omega) (by omega) rfl rfl rfl ?_; intro σ H
 refine Ops.assign (v := (vb false)) rfl rfl ?_
 apply Ops.nil
 replace H := H.all
 apply Runs.then
 apply Runs.then
 refine Runs.regionH 4 rfl H ?_; intro b2 σ H
 refine Ops.fieldAddrH (off := 0) (fo := 2) H 0 rfl rfl rfl rfl rfl nofun rfl ?_
 refine Ops.loadH (off := 2) (v := (vl (cL Span.cs) f.Core)) H 0 rfl rfl rfl rfl rfl nofun rfl ?_
 refine Ops.lenPt (c := (cL Span.cs)) (xs := f.Core) rfl rfl rfl ?_
 refine Ops.move (v := (vi 0)) rfl rfl ?_
 apply Ops.nil
 replace H := H.all
 apply Runs.inBlock
 obtain ⟨y1, hj1, h⟩ := bind_some h
 obtain ⟨n1, hj1⟩ := loopO_iff.1 hj1
 refine Runs.mono (Runs.loopO hj1 (fun s1 e σ => EnvHas e [(1, (vi d)), (2, (vi by')), (3, (.ptr (b1 + 0) 4 0)), (12, (vl (cL Span.cs) f.Core)), (13, (vi (f.Core.length : Int))), (14, (vi s1))] ∧ Hs σ [.blk (b1 + 0) 25 [(vi f.Period), (vi f.Count), (vl (cL Span.cs) f.Core), (vl Granule.cs f.Odd)]]) (fun y1 x e σ => (∃ a1, y1 = (.go a1) ∧ x = .exit 0 ∧ EnvHas e [] ∧ Hs σ []) ∨ (∃ r', y1 = (.ret r') ∧ x = .ret ∧ Ends CX Try.f93.results.toList (vb r') x e σ)) ⟨⟨rfl, rfl, rfl, rfl, rfl, rfl, trivial⟩, H⟩ ?_) ?_
 ·intro s1 e σ hI z h
  obtain ⟨he, H⟩ := hI
  obtain ⟨e, rfl⟩ := he.ex
  unfold canon_turn.s0 at h
  apply Runs.then
  refine Runs.regionH 1 rfl H ?_; intro b3 σ H
  refine Ops.int (m := s1) (m' := (f.Core.length : Int)) (r := .bool (decide (s1 < (f.Core.length : Int)))) rfl rfl rfl rfl rfl ?_
  apply Ops.nil
  replace H := H.all
  apply Runs.then
  refine Runs.whether (v := (decide (s1 < (f.Core.length : Int)))) rfl ?_ ?_ <;> intro hc1
  ·replace h := cond_T hc1 h
   apply Runs.skip
   apply Runs.then
   obtain ⟨y2, hj2, h⟩ := bind_some h
   refine Runs.mono (Q := fun x e σ => (∃ a2, y2 = (.go a2) ∧ x = .normal ∧ EnvHas e [(1, (vi d)), (2, (vi by')), (3, (.ptr (b1 + 0) 4 0)), (12, (vl (cL Span.cs) f.Core)), (13, (vi (f.Core.length : Int))), (14, (vi s1))] ∧ Hs σ [.blk (b1 + 0) 25 [(vi f.Period), (vi f.Count), (vl (cL Span.cs) f.Core), (vl Granule.cs f.Odd)]]) ∨ (∃ r', y2 = (.ret r') ∧ x = .ret ∧ Ends CX Try.f93.results.toList (vb r') x e σ)) ?_ ?_
   ·replace h := hj2
    apply Runs.inBlock
    obtain ⟨y3, hj3, h⟩ := bind_some h
    refine Runs.mono (Q := fun x e σ => (∃ a3, y3 = (.go a3) ∧ x = .normal ∧ EnvHas e [(1, (vi d)), (2, (vi by')), (3, (.ptr (b1 + 0) 4 0)), (12, (vl (cL Span.cs) f.Core)), (13, (vi (f.Core.length : Int))), (14, (vi s1))] ∧ Hs σ [.blk (b1 + 0) 25 [(vi f.Period), (vi f.Count), (vl (cL Span.cs) f.Core), (vl Granule.cs f.Odd)]]) ∨ (∃ r', y3 = (.ret r') ∧ x = .ret ∧ Ends CX Try.f93.results.toList (vb r') x e σ)) ?_ ?_
    ·replace h := hj3
     apply Runs.then
     refine Runs.regionH 5 rfl H ?_; intro b4 σ H
     refine Ops.move (v := (vi s1)) rfl rfl ?_
     obtain ⟨x1, q1, h⟩ := bind_some h
     refine Ops.indexP (c := (cL Span.cs)) (u := x1) rfl rfl q1 rfl rfl rfl rfl ?_
     refine Ops.loadP (u := (.sl (x1.map Span.cs))) rfl rfl rfl rfl ?_
     refine Ops.assign (v := (vi s1)) rfl rfl ?_
     refine Ops.assign (v := (vl Span.cs x1)) rfl rfl ?_
     apply Ops.nil
     replace H := H.all
     apply Runs.then
     refine Runs.regionH 4 rfl H ?_; intro b5 σ H
     refine Ops.move (v := (vi s1)) rfl rfl ?_
     refine Ops.move (v := (vi d)) rfl rfl ?_
     refine Ops.int (m := s1) (m' := d) (r := .int .i64 (w64 (s1 + d))) rfl rfl rfl rfl rfl ?_
     refine Ops.assign (v := (vi (w64 (s1 + d)))) rfl rfl ?_
     apply Ops.nil
     replace H := H.all
     apply Runs.then
     refine Runs.regionH 1 rfl H ?_; intro b6 σ H
     refine Ops.assign (v := (vi 0)) rfl rfl ?_
     apply Ops.nil
     replace H := H.all
     apply Runs.then
     obtain ⟨y4, hj4, h⟩ := bind_some h
     refine Runs.mono (Q := fun x e σ => x = .normal ∧ EnvHas e [(1, (vi d)), (2, (vi by')), (3, (.ptr (b1 + 0) 4 0)), (8, (vl Span.cs x1)), (9, (vi y4.1)), (10, (vi y4.2)), (12, (vl (cL Span.cs) f.Core)), (13, (vi (f.Core.length : Int))), (14, (vi s1))] ∧ Hs σ [.blk (b1 + 0) 25 [(vi f.Period), (vi f.Count), (vl (cL Span.cs) f.Core), (vl Granule.cs f.Odd)]]) ?_ ?_
     ·replace h := hj4
      apply Runs.then
      refine Runs.regionH 4 rfl H ?_; intro b7 σ H
      refine Ops.move (v := (vi (w64 (s1 + d)))) rfl rfl ?_
      refine Ops.fieldAddrH (off := 0) (fo := 1) H 0 rfl rfl rfl rfl rfl nofun rfl ?_
      refine Ops.loadH (off := 1) (v := (vi f.Count)) H 0 rfl rfl rfl rfl rfl nofun rfl ?_
      refine Ops.int (m := (w64 (s1 + d))) (m' := f.Count) (r := .bool (decide ((w64 (s1 + d)) ≥ f.Count))) rfl rfl rfl rfl rfl ?_
      apply Ops.nil
      replace H := H.all
      refine Runs.whether (v := (decide ((w64 (s1 + d)) ≥ f.Count))) rfl ?_ ?_ <;> intro hc2
      ·replace h := cond_T hc2 h
       refine Runs.drawnH 8 rfl (by kernel_rfl) H ?_; intro b8 σ H B8
       refine Ops.move (v := (vi (w64 (s1 + d)))) rfl rfl ?_
       refine Ops.fieldAddrH (off := 0) (fo := 1) H 0 rfl rfl rfl rfl rfl (fun _ => .inl ⟨B8 0 _ rfl _ rfl, nofun⟩) rfl ?_
       refine Ops.loadH (off := 1) (v := (vi f.Count)) H 0 rfl rfl rfl rfl rfl (fun _ => .inl ⟨B8 0 _ rfl _ rfl, nofun⟩) rfl ?_
       refine Ops.int (m := (w64 (s1 + d))) (m' := f.Count) (r := .int .i64 (w64 ((w64 (s1 + d)) - f.Count))) rfl rfl rfl rfl rfl ?_
       refine Ops.fieldAddrH (off := 0) (fo := 0) H 0 rfl rfl rfl rfl rfl (fun _ => .inl ⟨B8 0 _ rfl _ rfl, nofun⟩) rfl ?_
       refine Ops.loadH (off := 0) (v := (vi f.Period)) H 0 rfl rfl rfl rfl rfl (fun _ => .inl ⟨B8 0 _ rfl _ rfl, nofun⟩) rfl ?_
       refine Ops.assign (v := (vi (w64 ((w64 (s1 + d)) - f.Count)))) rfl rfl ?_
       refine Ops.assign (v := (vi f.Period)) rfl rfl ?_
       apply Ops.nil
       replace H := H.all
       replace h := Option.some.inj h; subst h
       exact ⟨rfl, ⟨rfl, rfl, rfl, rfl, rfl, rfl, rfl, rfl, rfl, trivial⟩, H⟩
      ·replace h := cond_F hc2 h
       apply Runs.skip
       replace h := Option.some.inj h; subst h
       exact ⟨rfl, ⟨rfl, rfl, rfl, rfl, rfl, rfl, rfl, rfl, rfl, trivial⟩, H⟩
     ·rintro x e σ ⟨rfl, he, H⟩
      obtain ⟨e, rfl⟩ := he.ex
      apply Runs.then
      refine Runs.regionH 11 rfl H ?_; intro b9 σ H
      refine Ops.move (v := (vl Span.cs x1)) rfl rfl ?_
      refine Ops.fieldAddrH (off := 0) (fo := 2) H 0 rfl rfl rfl rfl rfl nofun rfl ?_
      refine Ops.loadH (off := 2) (v := (vl (cL Span.cs) f.Core)) H 0 rfl rfl rfl rfl rfl nofun rfl ?_
      refine Ops.move (v := (vi y4.1)) rfl rfl ?_
      obtain ⟨x2, q2, h⟩ := bind_some h
      refine Ops.indexP (c := (cL Span.cs)) (u := x2) rfl rfl q2 rfl rfl rfl rfl ?_
      refine Ops.loadP (u := (.sl (x2.map Span.cs))) rfl rfl rfl rfl ?_
      refine Ops.move (v := (vi by')) rfl rfl ?_
      refine Ops.move (v := (vi y4.2)) rfl rfl ?_
      refine Ops.int (m := by') (m' := y4.2) (r := .int .i64 (w64 (by' - y4.2))) rfl rfl rfl rfl rfl ?_
      obtain ⟨x3, q3, h⟩ := bind_some h
      refine Ops.call (ys := [(vl Span.cs x1), (vl Span.cs x2), (vi (w64 (by' - y4.2)))]) (r := (vb x3)) rfl (canon_shifted_fn q3) rfl ?_
      refine Ops.not (b := x3) rfl rfl ?_
      apply Ops.nil
      replace H := H.all
      refine Runs.whether (v := (!x3)) rfl ?_ ?_ <;> intro hc3
      ·replace h := cond_T hc3 h
       apply Runs.then
       refine Runs.regionH 1 rfl H ?_; intro b10 σ H
       refine Ops.assign (v := (vb false)) rfl rfl ?_
       apply Ops.nil
       replace H := H.all
       apply Runs.ret
       replace h := Option.some.inj h; subst h
       exact (.inr ⟨_, rfl, rfl, (Ends.H (xs := [(vb false)]) (.inr rfl) H (.tmp (v := (vb false)) rfl .nil) (.one (.c (.v _))))⟩)
      ·replace h := cond_F hc3 h
       apply Runs.skip
       replace h := Option.some.inj h; subst h
       exact (.inl ⟨_, rfl, rfl, ⟨rfl, rfl, rfl, rfl, rfl, rfl, trivial⟩, H⟩)
    ·rintro x e σ (⟨a4, rfl, rfl, he, H⟩ | ⟨r', rfl, rfl, hE⟩)
     ·skip
      replace h := jgo h
      obtain ⟨e, rfl⟩ := he.ex
      replace h := Option.some.inj h; subst h
      exact (.inl ⟨_, rfl, rfl, ⟨rfl, rfl, rfl, rfl, rfl, rfl, trivial⟩, H⟩)
     ·skip
      replace h := jret h
      replace h := Option.some.inj h; subst h
      exact (.inr ⟨_, rfl, rfl, hE⟩)
   ·rintro x e σ (⟨a5, rfl, rfl, he, H⟩ | ⟨r', rfl, rfl, hE⟩)
    ·skip
     replace h := jgo h
     obtain ⟨e, rfl⟩ := he.ex
     refine Runs.regionH 2 rfl H ?_; intro b11 σ H
     refine Ops.int (m := s1) (m' := 1) (r := .int .i64 (w64 (s1 + 1))) rfl rfl rfl rfl rfl ?_
     refine Ops.move (v := (vi (w64 (s1 + 1)))) rfl rfl ?_
     apply Ops.nil
     replace H := H.all
     replace h := Option.some.inj h; subst h
     exact ⟨rfl, ⟨rfl, rfl, rfl, rfl, rfl, rfl, trivial⟩, H⟩
    ·skip
     replace h := jret h
     replace h := Option.some.inj h; subst h
     exact ⟨nofun, (.inr ⟨_, rfl, rfl, hE⟩)⟩
  ·replace h := cond_F hc1 h
   apply Runs.exit
   replace h := Option.some.inj h; subst h
   exact ⟨nofun, (.inl ⟨_, rfl, rfl, trivial, (H.erase 0)⟩)⟩
 ·rintro x e σ (⟨a6, rfl, rfl, he, H⟩ | ⟨r', rfl, rfl, hE⟩)
  ·skip
   replace h := jgo h
   obtain ⟨e, rfl⟩ := he.ex
   apply Runs.then
   refine Runs.regionH 1 rfl H ?_; intro b12 σ H
   refine Ops.assign (v := (vb true)) rfl rfl ?_
   apply Ops.nil
   replace H := H.all
   apply Runs.ret
   replace h := Option.some.inj h; subst h
   exact (Ends.H (xs := [(vb true)]) (.inr rfl) H (.tmp (v := (vb true)) rfl .nil) (.one (.c (.v _))))
  ·skip
   replace h := jret h
   replace h := Option.some.inj h; subst h
   exact hE

end Go.Dn
