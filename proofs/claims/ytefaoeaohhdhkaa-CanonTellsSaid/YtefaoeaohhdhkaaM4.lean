/- Part 4 of what the row stands on. -/
import Derived.Test.YtefaoeaohhdhkaaM3
set_option linter.unusedVariables false
set_option linter.unusedSimpArgs false
namespace Go.Dn
open Go Go.Proofs

set_option maxRecDepth 100000 in
set_option maxHeartbeats 4000000 in
theorem epactlaw06_right_fn {f : Form} {r : Bool} (h : epactlaw06_right f = some r) : Fn CX 25 [(.agg (vs (Form.cs f)))] (.v (.bool r)) := by
  refine Fn.ends Try.func25 rfl rfl rfl rfl rfl rfl ?_
  have H : Hs (⟨0, fun _ => .none⟩ : Heap) [] := Has.nil (Nat.le_refl _)
  generalize (⟨0, fun _ => .none⟩ : Heap) = σ at H ⊢
  unfold epactlaw06_right at h
  apply Runs.then
  refine Runs.regionH 2 rfl H ?_; intro b1 σ H
  refine Ops.boxH (v := (.agg [(.v (.int .i64 f.Period)), (.v (.int .i64 f.Count)), (.v (.sl (f.Core.map (cL Span.cs)))), (.v (.sl (f.Odd.map Granule.cs)))])) (cs := [(.v (.int .i64 f.Period)), (.v (.int .i64 f.Count)), (.v (.sl (f.Core.map (cL Span.cs)))), (.v (.sl (f.Odd.map Granule.cs)))]) H (by omega) (by omega) rfl rfl rfl ?_; intro σ H
  refine Ops.assign (v := (.v (.bool false))) rfl rfl ?_
  apply Ops.nil
  replace H := H.all
  apply Runs.then
  refine Runs.regionH 8 rfl H ?_; intro b2 σ H
  refine Ops.loadHA (off := 0) (cs := [(.v (.int .i64 f.Period)), (.v (.int .i64 f.Count)), (.v (.sl (f.Core.map (cL Span.cs)))), (.v (.sl (f.Odd.map Granule.cs)))]) H 0 rfl rfl rfl rfl rfl rfl rfl nofun rfl ?_
  obtain ⟨x1, q1, h⟩ := bind_some h
  refine Ops.call (ys := [(.agg [(.v (.int .i64 f.Period)), (.v (.int .i64 f.Count)), (.v (.sl (f.Core.map (cL Span.cs)))), (.v (.sl (f.Odd.map Granule.cs)))])]) (r := (.v (.bool x1))) rfl (epactlaw05_Small_fn q1) rfl ?_
  refine Ops.move (v := (.v (.bool x1))) rfl rfl ?_
  obtain ⟨y1, hj1, h⟩ := bind_some h
  refine Ops.mid 4 (K1 := fun e σ => EnvHas e [(9, (.v (.bool y1)))] ∧ Has σ (b2 + 7) (b2 + 8) []) rfl ?_ ?_
  · refine Ops.split rfl rfl ?_ ?_ <;> intro hc1
    · replace h := cond_T hc1 hj1
      refine Ops.wanted rfl rfl ?_
      refine Ops.loadHA (off := 0) (cs := [(.v (.int .i64 f.Period)), (.v (.int .i64 f.Count)), (.v (.sl (f.Core.map (cL Span.cs)))), (.v (.sl (f.Odd.map Granule.cs)))]) H 0 rfl rfl rfl rfl rfl rfl rfl nofun rfl ?_
      refine Ops.wanted rfl rfl ?_
      obtain ⟨x2, q2, h⟩ := bind_some h
      refine Ops.call (ys := [(.agg [(.v (.int .i64 f.Period)), (.v (.int .i64 f.Count)), (.v (.sl (f.Core.map (cL Span.cs)))), (.v (.sl (f.Odd.map Granule.cs)))])]) (r := (.v (.int .i64 x2))) rfl (gran_Right_fn q2) rfl ?_
      refine Ops.wanted rfl rfl ?_
      refine Ops.int (m := x2) (m' := 0) (r := .bool (x2 == 0)) rfl rfl rfl rfl rfl ?_
      refine Ops.pickT (v := (.v (.bool (x2 == 0)))) rfl rfl rfl ?_
      apply Ops.nil
      replace h := Option.some.inj h; subst h
      exact ⟨⟨rfl, trivial⟩, (H.erase 0).weak (by omega) (Nat.le_refl _)⟩
    · replace h := cond_F hc1 hj1
      refine Ops.pass rfl rfl rfl ?_
      refine Ops.pass rfl rfl rfl ?_
      refine Ops.pass rfl rfl rfl ?_
      refine Ops.pickF (v := (.v (.bool false))) rfl rfl rfl ?_
      apply Ops.nil
      replace h := Option.some.inj h; subst h
      exact ⟨⟨rfl, trivial⟩, (H.erase 0).weak (by omega) (Nat.le_refl _)⟩
  · rintro e σ ⟨he, H⟩
    obtain ⟨e, rfl⟩ := he.ex
    refine Ops.assign (v := (.v (.bool y1))) rfl rfl ?_
    apply Ops.nil
    replace H := H.all
    apply Runs.ret
    replace h := Option.some.inj h; subst h
    exact (Ends.H (xs := [(.v (.bool y1))]) (.inr rfl) H (.tmp (v := (.v (.bool y1))) rfl .nil) (.one (.c (.v _))))

set_option maxRecDepth 100000 in
theorem epactlaw06_awake_fn {r : Bool} (h : epactlaw06_awake = r) : Fn CX 26 [] (.v (.bool r)) := by
  subst h
  exact Fn.intr (by rfl) rfl rfl rfl

set_option maxRecDepth 100000 in
set_option maxHeartbeats 4000000 in
theorem canon_bare_1_fn {l : (List Span)} {r : Bool} (h : canon_bare_1 l = r) : Fn CX 79 [(.v (.sl (l.map Span.cs)))] (.v (.bool r)) := by
  refine Fn.ends Try.func79 rfl rfl rfl rfl rfl rfl ?_
  have H : Hs (⟨0, fun _ => .none⟩ : Heap) [] := Has.nil (Nat.le_refl _)
  generalize (⟨0, fun _ => .none⟩ : Heap) = σ at H ⊢
  unfold canon_bare_1 at h
  apply Runs.then
  refine Runs.regionH 1 rfl H ?_; intro b1 σ H
  refine Ops.assign (v := (.v (.bool false))) rfl rfl ?_
  apply Ops.nil
  replace H := H.all
  apply Runs.then
  refine Runs.regionH 4 rfl H ?_; intro b2 σ H
  refine Ops.move (v := (.v (.sl (l.map Span.cs)))) rfl rfl ?_
  refine Ops.lenPt (c := Span.cs) (xs := l) rfl rfl rfl ?_
  refine Ops.int (m := (l.length : Int)) (m' := 0) (r := .bool (decide ((l.length : Int) > 0))) rfl rfl rfl rfl rfl ?_
  refine Ops.assign (v := (.v (.bool (decide ((l.length : Int) > 0))))) rfl rfl ?_
  apply Ops.nil
  replace H := H.all
  apply Runs.ret
  subst h
  exact (Ends.H (xs := [(.v (.bool (decide ((l.length : Int) > 0))))]) (.inr rfl) H (.tmp (v := (.v (.bool (decide ((l.length : Int) > 0))))) rfl .nil) (.one (.c (.v _))))

set_option maxRecDepth 100000 in
set_option maxHeartbeats 4000000 in
theorem canon_bare_fn {f : Form} {r : Bool} (h : canon_bare f = some r) : Fn CX 64 [(.agg (vs (Form.cs f)))] (.v (.bool r)) := by
  refine Fn.ends Try.func64 rfl rfl rfl rfl rfl rfl ?_
  have H : Hs (⟨0, fun _ => .none⟩ : Heap) [] := Has.nil (Nat.le_refl _)
  generalize (⟨0, fun _ => .none⟩ : Heap) = σ at H ⊢
  unfold canon_bare at h
  apply Runs.then
  refine Runs.regionH 2 rfl H ?_; intro b1 σ H
  refine Ops.boxH (v := (.agg [(.v (.int .i64 f.Period)), (.v (.int .i64 f.Count)), (.v (.sl (f.Core.map (cL Span.cs)))), (.v (.sl (f.Odd.map Granule.cs)))])) (cs := [(.v (.int .i64 f.Period)), (.v (.int .i64 f.Count)), (.v (.sl (f.Core.map (cL Span.cs)))), (.v (.sl (f.Odd.map Granule.cs)))]) H (by omega) (by omega) rfl rfl rfl ?_; intro σ H
  refine Ops.assign (v := (.v (.bool false))) rfl rfl ?_
  apply Ops.nil
  replace H := H.all
  apply Runs.then
  refine Runs.regionH 5 rfl H ?_; intro b2 σ H
  refine Ops.fieldAddrH (off := 0) (fo := 2) H 0 rfl rfl rfl rfl rfl nofun rfl ?_
  refine Ops.loadH (off := 2) (v := (.v (.sl (f.Core.map (cL Span.cs))))) H 0 rfl rfl rfl rfl rfl nofun rfl ?_
  obtain ⟨x1, q1, h⟩ := bind_some h
  refine Ops.callH (ys := [(.v (.sl (f.Core.map (cL Span.cs)))), (.v (.fn 79))]) (r := (.v (.bool x1))) H rfl (slices_ContainsFunc_SSSpan_SSpan_fn (C := []) rfl (fun _ => rfl) (fun z0 y hz => (CloH.fn (Fn.toH (canon_bare_1_fn (Option.some.inj hz)) _))) q1) .nil nofun rfl ?_; intro σ H
  refine Ops.not (b := x1) rfl rfl ?_
  refine Ops.assign (v := (.v (.bool (!x1)))) rfl rfl ?_
  apply Ops.nil
  replace H := H.all
  apply Runs.ret
  replace h := Option.some.inj h; subst h
  exact (Ends.H (xs := [(.v (.bool (!x1)))]) (.inr rfl) H (.tmp (v := (.v (.bool (!x1)))) rfl .nil) (.one (.c (.v _))))

set_option maxRecDepth 100000 in
set_option maxHeartbeats 4000000 in
theorem canon_divisors_fn {n : Int} {σ : Heap} {lo hi : Nat} {L : List Res} (H : Has σ lo hi L) : ∃ r σ', callL CX (.fn 65) [(.v (.int .i64 n))] σ = some (r, σ') ∧ ∃ i0' : Nat, r = (.clo 80 [] [(.ptr i0' 1 0)]) ∧ Hs σ' (.blk i0' 3 [(.v (.int .i64 n))] :: L) := by
  refine callO_of (Post := fun r σ' => ∃ i0' : Nat, r = (.clo 80 [] [(.ptr i0' 1 0)]) ∧ Hs σ' (.blk i0' 3 [(.v (.int .i64 n))] :: L)) Try.func65 rfl rfl rfl rfl rfl rfl ?_
  replace H := H.all
  apply Runs.then
  refine Runs.regionH 2 rfl H ?_; intro b1 σ H
  refine Ops.boxH (v := (.v (.int .i64 n))) (cs := [(.v (.int .i64 n))]) H (by omega) (by omega) rfl rfl rfl ?_; intro σ H
  refine Ops.assign (v := (.v .nilf)) rfl rfl ?_
  apply Ops.nil
  replace H := H.all
  apply Runs.then
  refine Runs.regionH 2 rfl H ?_; intro b2 σ H
  refine Ops.makeClo (fs := []) (cs := [(.ptr (b1 + 0) 1 0)]) rfl rfl rfl rfl ?_
  refine Ops.assign (v := (.clo 80 [] [(.ptr (b1 + 0) 1 0)])) rfl rfl ?_
  apply Ops.nil
  replace H := H.all
  apply Runs.ret
  exact ⟨.inr rfl, [(.clo 80 [] [(.ptr (b1 + 0) 1 0)])], resD_ok H (.tmp (v := (.clo 80 [] [(.ptr (b1 + 0) 1 0)])) rfl .nil), (b1 + 0), rfl, H.all⟩

set_option maxRecDepth 100000 in
set_option maxHeartbeats 4000000 in
theorem canon_divisors_1_fn {p1' : Int} {S : Type} {C : S → List Res → Prop} {yield : S → Int → Option (S × Bool)} {yid : Nat} {id0' : Nat} (hy : YldH CX yid C (fun z => [(.v (.int .i64 z))]) yield) (hcap : ∀ s L, C s L → Sub [.blk id0' 3 [(.v (.int .i64 p1'))]] L) {st' r : S} (h : canon_divisors_1 p1' yield st' = some r) : ItF CX 80 [(.yld yid), (.ptr id0' 1 0)] C st' r := by
  refine ItF.of Try.func80 rfl rfl rfl rfl rfl rfl rfl rfl ?_
  intro σ L hC H
  have hc0 := hcap _ _ hC
  obtain ⟨k0', hk0', hc0⟩ := hc0.inv
  unfold canon_divisors_1 at h
  apply Runs.then
  refine Runs.regionH 1 rfl H ?_; intro b1 σ H
  refine Ops.assign (v := (.v (.int .i64 1))) rfl rfl ?_
  apply Ops.nil
  replace H := H.all
  apply Runs.inBlock
  obtain ⟨y1, hj1, h⟩ := bind_some h
  obtain ⟨n1, hj1⟩ := loopO_iff.1 hj1
  refine Runs.mono (Runs.loopO hj1 (fun s1 e σ => ∃ (L : List Res), C s1.2 L ∧ EnvHas e [(0, (.yld yid)), (1, (.ptr id0' 1 0)), (3, (.v (.int .i64 s1.1)))] ∧ Hs σ (L)) (fun y1 x e σ => (∃ a1, ∃ (L : List Res), C a1 L ∧ y1 = (.go a1) ∧ x = .exit 0 ∧ EnvHas e [] ∧ Hs σ (L)) ∨ (∃ r', y1 = (.ret r') ∧ x = .ret ∧ EndsI C r' x e σ)) ⟨_, hC, ⟨rfl, rfl, rfl, trivial⟩, H⟩ ?_) ?_
  · intro s1 e σ hI z h
    obtain ⟨L, hC, he, H⟩ := hI
    obtain ⟨e, rfl⟩ := he.ex
    have hc0 := hcap _ _ hC
    obtain ⟨k0', hk0', hc0⟩ := hc0.inv
    unfold canon_divisors_1.s0 at h
    apply Runs.then
    apply Runs.then
    refine Runs.regionH 3 rfl H ?_; intro b2 σ H
    refine Ops.move (v := (.v (.int .i64 s1.1))) rfl rfl ?_
    refine Ops.loadH (off := 0) (v := (.v (.int .i64 p1'))) H k0' hk0' rfl rfl rfl rfl nofun rfl ?_
    refine Ops.int (m := s1.1) (m' := p1') (r := .bool (decide (s1.1 ≤ p1'))) rfl rfl rfl rfl rfl ?_
    apply Ops.nil
    replace H := H.all
    refine Runs.whether (v := (decide (s1.1 ≤ p1'))) rfl ?_ ?_ <;> intro hc1
    · replace h := cond_T hc1 h
      apply Runs.skip
      apply Runs.then
      apply Runs.inBlock
      apply Runs.then
      refine Runs.regionH 10 rfl H ?_; intro b3 σ H
      refine Ops.loadH (off := 0) (v := (.v (.int .i64 p1'))) H k0' hk0' rfl rfl rfl rfl nofun rfl ?_
      refine Ops.move (v := (.v (.int .i64 s1.1))) rfl rfl ?_
      obtain ⟨u1, q1, h⟩ := bind_some h
      refine Ops.rem (m := p1') (m' := s1.1) rfl rfl (nz_ne q1) rfl ?_
      refine Ops.int (m := (p1'.tmod s1.1)) (m' := 0) (r := .bool ((p1'.tmod s1.1) == 0)) rfl rfl rfl rfl rfl ?_
      refine Ops.move (v := (.v (.bool ((p1'.tmod s1.1) == 0)))) rfl rfl ?_
      obtain ⟨y2, hj2, h⟩ := bind_some h
      refine Ops.mid 5 (K1 := fun e σ => ∃ L, C y2.2 L ∧ EnvHas e [(18, (.v (.bool y2.1))), (0, (.yld yid)), (1, (.ptr id0' 1 0)), (3, (.v (.int .i64 s1.1)))] ∧ Hs σ (L)) rfl ?_ ?_
      · refine Ops.split rfl rfl ?_ ?_ <;> intro hc2
        · replace h := cond_T hc2 hj2
          refine Ops.wanted rfl rfl ?_
          refine Ops.move (v := (.yld yid)) rfl rfl ?_
          refine Ops.wanted rfl rfl ?_
          refine Ops.move (v := (.v (.int .i64 s1.1))) rfl rfl ?_
          refine Ops.wanted rfl rfl ?_
          obtain ⟨x1, q2, h⟩ := bind_some h
          refine Ops.callY (z := s1.1) (s' := x1.1) (b := x1.2) [] H hC rfl rfl hy q2 rfl rfl ?_; intro σ L hC H
          have hc0 := hcap _ _ hC
          obtain ⟨k0', hk0', hc0⟩ := hc0.inv
          refine Ops.wanted rfl rfl ?_
          refine Ops.not (b := x1.2) rfl rfl ?_
          refine Ops.pickT (v := (.v (.bool (!x1.2)))) rfl rfl rfl ?_
          apply Ops.nil
          replace h := Option.some.inj h; subst h
          exact ⟨_, hC, ⟨rfl, rfl, rfl, rfl, trivial⟩, H.all⟩
        · replace h := cond_F hc2 hj2
          refine Ops.pass rfl rfl rfl ?_
          refine Ops.pass rfl rfl rfl ?_
          refine Ops.pass rfl rfl rfl ?_
          refine Ops.pass rfl rfl rfl ?_
          refine Ops.pickF (v := (.v (.bool false))) rfl rfl rfl ?_
          apply Ops.nil
          replace h := Option.some.inj h; subst h
          exact ⟨_, hC, ⟨rfl, rfl, rfl, rfl, trivial⟩, H.all⟩
      · rintro e σ ⟨L, hC, he, H⟩
        obtain ⟨e, rfl⟩ := he.ex
        have hc0 := hcap _ _ hC
        obtain ⟨k0', hk0', hc0⟩ := hc0.inv
        apply Ops.nil
        replace H := H.all
        refine Runs.whether (v := y2.1) rfl ?_ ?_ <;> intro hc3
        · replace h := cond_T hc3 h
          apply Runs.ret
          replace h := Option.some.inj h; subst h
          exact ⟨nofun, (.inr ⟨_, rfl, rfl, (EndsI.H (.inr rfl) H 0 rfl hC)⟩)⟩
        · replace h := cond_F hc3 h
          apply Runs.skip
          refine Runs.regionH 3 rfl H ?_; intro b4 σ H
          refine Ops.move (v := (.v (.int .i64 s1.1))) rfl rfl ?_
          refine Ops.int (m := s1.1) (m' := 1) (r := .int .i64 (w64 (s1.1 + 1))) rfl rfl rfl rfl rfl ?_
          refine Ops.assign (v := (.v (.int .i64 (w64 (s1.1 + 1))))) rfl rfl ?_
          apply Ops.nil
          replace H := H.all
          replace h := Option.some.inj h; subst h
          exact ⟨rfl, _, hC, ⟨rfl, rfl, rfl, trivial⟩, H⟩
    · replace h := cond_F hc1 h
      apply Runs.exit
      replace h := Option.some.inj h; subst h
      exact ⟨nofun, (.inl ⟨_, _, hC, rfl, rfl, trivial, H⟩)⟩
  · rintro x e σ (⟨a2, L, hC, rfl, rfl, he, H⟩ | ⟨r', rfl, rfl, hE⟩)
    · skip
      replace h := jgo h
      obtain ⟨e, rfl⟩ := he.ex
      have hc0 := hcap _ _ hC
      obtain ⟨k0', hk0', hc0⟩ := hc0.inv
      replace h := Option.some.inj h; subst h
      exact (EndsI.H (.inl rfl) H 0 rfl hC)
    · skip
      replace h := jret h
      replace h := Option.some.inj h; subst h
      exact hE

set_option maxRecDepth 100000 in
set_option maxHeartbeats 4000000 in
theorem slices_EqualFunc_SSpan_SSpan_Span_Span_fn {s1' : (List Span)} {s2' : (List Span)} {eq : Span → Span → Option Bool} {C : List Res} {cv0 : PV} (hs0 : cv0.still = true) (hp0 : cv0.pure = true → C = []) (hf0 : ∀ z0 z1 y, eq z0 z1 = some y → CloH CX cv0 [(.agg (vs (Span.cs z0))), (.agg (vs (Span.cs z1)))] (.v (.bool y)) C) {r : Bool} (h : slices_EqualFunc_SSpan_SSpan_Span_Span s1' s2' eq = some r) : FnH CX 84 [(.v (.sl (s1'.map Span.cs))), (.v (.sl (s2'.map Span.cs))), cv0] (.v (.bool r)) C := by
  refine FnH.of Try.func84 rfl rfl rfl rfl (all_t rfl (all_t rfl (all_t hs0 all_nil))) rfl (fun h => hp0 (all_get h 2 rfl)) ?_
  intro σ L hC H
  unfold slices_EqualFunc_SSpan_SSpan_Span_Span at h
  apply Runs.then
  refine Runs.regionH 1 rfl H ?_; intro b1 σ H
  refine Ops.assign (v := (.v (.bool false))) rfl rfl ?_
  apply Ops.nil
  replace H := H.all
  apply Runs.then
  apply Runs.then
  refine Runs.regionH 5 rfl H ?_; intro b2 σ H
  refine Ops.move (v := (.v (.sl (s1'.map Span.cs)))) rfl rfl ?_
  refine Ops.lenPt (c := Span.cs) (xs := s1') rfl rfl rfl ?_
  refine Ops.move (v := (.v (.sl (s2'.map Span.cs)))) rfl rfl ?_
  refine Ops.lenPt (c := Span.cs) (xs := s2') rfl rfl rfl ?_
  refine Ops.int (m := (s1'.length : Int)) (m' := (s2'.length : Int)) (r := .bool ((s1'.length : Int) != (s2'.length : Int))) rfl rfl rfl rfl rfl ?_
  apply Ops.nil
  replace H := H.all
  refine Runs.whether (v := ((s1'.length : Int) != (s2'.length : Int))) rfl ?_ ?_ <;> intro hc1
  · replace h := cond_T hc1 h
    apply Runs.then
    refine Runs.regionH 1 rfl H ?_; intro b3 σ H
    refine Ops.assign (v := (.v (.bool false))) rfl rfl ?_
    apply Ops.nil
    replace H := H.all
    apply Runs.ret
    replace h := Option.some.inj h; subst h
    exact (EndsH.H (xs := [(.v (.bool false))]) (.inr rfl) H (.tmp (v := (.v (.bool false))) rfl .nil) (.one (.c (.v _))) 0 rfl)
  · replace h := cond_F hc1 h
    apply Runs.skip
    apply Runs.then
    apply Runs.then
    refine Runs.regionH 3 rfl H ?_; intro b4 σ H
    refine Ops.move (v := (.v (.sl (s1'.map Span.cs)))) rfl rfl ?_
    refine Ops.lenPt (c := Span.cs) (xs := s1') rfl rfl rfl ?_
    refine Ops.move (v := (.v (.int .i64 0))) rfl rfl ?_
    apply Ops.nil
    replace H := H.all
    apply Runs.inBlock
    obtain ⟨y1, hj1, h⟩ := bind_some h
    obtain ⟨n1, hj1⟩ := loopO_iff.1 hj1
    refine Runs.mono (Runs.loopO hj1 (fun s1 e σ => EnvHas e [(1, (.v (.sl (s2'.map Span.cs)))), (2, cv0), (15, (.v (.sl (s1'.map Span.cs)))), (16, (.v (.int .i64 (s1'.length : Int)))), (17, (.v (.int .i64 s1)))] ∧ Hs σ (L)) (fun y1 x e σ => (∃ a1, y1 = (.go a1) ∧ x = .exit 0 ∧ EnvHas e [] ∧ Hs σ (L)) ∨ (∃ r', y1 = (.ret r') ∧ x = .ret ∧ EndsH CX Try.f84.results.toList (.v (.bool r')) L x e σ)) ⟨⟨rfl, rfl, rfl, rfl, rfl, trivial⟩, H⟩ ?_) ?_
    · intro s1 e σ hI z h
      obtain ⟨he, H⟩ := hI
      obtain ⟨e, rfl⟩ := he.ex
      unfold slices_EqualFunc_SSpan_SSpan_Span_Span.s0 at h
      apply Runs.then
      refine Runs.regionH 1 rfl H ?_; intro b5 σ H
      refine Ops.int (m := s1) (m' := (s1'.length : Int)) (r := .bool (decide (s1 < (s1'.length : Int)))) rfl rfl rfl rfl rfl ?_
      apply Ops.nil
      replace H := H.all
      apply Runs.then
      refine Runs.whether (v := (decide (s1 < (s1'.length : Int)))) rfl ?_ ?_ <;> intro hc2
      · replace h := cond_T hc2 h
        apply Runs.skip
        apply Runs.then
        apply Runs.inBlock
        apply Runs.then
        refine Runs.regionH 6 rfl H ?_; intro b6 σ H
        refine Ops.move (v := (.v (.int .i64 s1))) rfl rfl ?_
        obtain ⟨x1, q1, h⟩ := bind_some h
        refine Ops.indexP (c := Span.cs) (u := x1) rfl rfl q1 rfl rfl rfl rfl ?_
        refine Ops.loadPA (cs := [(.int .i64 x1.From), (.int .i64 x1.To)]) rfl rfl rfl rfl rfl rfl ?_
        refine Ops.allocH (cs := [(.v (.int .i64 0)), (.v (.int .i64 0))]) H (by omega) (by omega) rfl rfl ?_; intro σ H
        refine Ops.assign (v := (.v (.int .i64 s1))) rfl rfl ?_
        refine Ops.storeH (off := 0) (v := (.agg [(.v (.int .i64 x1.From)), (.v (.int .i64 x1.To))])) (ys := [(.v (.int .i64 x1.From)), (.v (.int .i64 x1.To))]) (cells' := [(.v (.int .i64 x1.From)), (.v (.int .i64 x1.To))]) H 0 rfl rfl rfl rfl rfl rfl rfl rfl rfl nofun ?_; intro σ H
        apply Ops.nil
        replace H := H.all
        apply Runs.then
        refine Runs.regionH 6 rfl H ?_; intro b7 σ H
        refine Ops.move (v := (.v (.sl (s2'.map Span.cs)))) rfl rfl ?_
        refine Ops.move (v := (.v (.int .i64 s1))) rfl rfl ?_
        obtain ⟨x2, q2, h⟩ := bind_some h
        refine Ops.indexP (c := Span.cs) (u := x2) rfl rfl q2 rfl rfl rfl rfl ?_
        refine Ops.loadPA (cs := [(.int .i64 x2.From), (.int .i64 x2.To)]) rfl rfl rfl rfl rfl rfl ?_
        refine Ops.allocH (cs := [(.v (.int .i64 0)), (.v (.int .i64 0))]) H (by omega) (by omega) rfl rfl ?_; intro σ H
        refine Ops.storeH (off := 0) (v := (.agg [(.v (.int .i64 x2.From)), (.v (.int .i64 x2.To))])) (ys := [(.v (.int .i64 x2.From)), (.v (.int .i64 x2.To))]) (cells' := [(.v (.int .i64 x2.From)), (.v (.int .i64 x2.To))]) H 0 rfl rfl rfl rfl rfl rfl rfl rfl rfl nofun ?_; intro σ H
        apply Ops.nil
        replace H := H.all
        apply Runs.then
        refine Runs.regionH 5 rfl H ?_; intro b8 σ H
        refine Ops.move (v := cv0) rfl rfl ?_
        refine Ops.loadHA (off := 0) (cs := [(.v (.int .i64 x1.From)), (.v (.int .i64 x1.To))]) H 1 rfl rfl rfl rfl rfl rfl rfl nofun rfl ?_
        refine Ops.loadHA (off := 0) (cs := [(.v (.int .i64 x2.From)), (.v (.int .i64 x2.To))]) H 0 rfl rfl rfl rfl rfl rfl rfl nofun rfl ?_
        obtain ⟨x3, q3, h⟩ := bind_some h
        refine Ops.callV (cv := cv0) (ys := [(.agg (vs (Span.cs x1))), (.agg (vs (Span.cs x2)))]) (r := (.v (.bool x3))) H rfl rfl (hf0 x1 x2 _ q3) hC.push.push nofun rfl ?_; intro σ H
        refine Ops.not (b := x3) rfl rfl ?_
        apply Ops.nil
        replace H := H.all
        refine Runs.whether (v := (!x3)) rfl ?_ ?_ <;> intro hc3
        · replace h := cond_T hc3 h
          apply Runs.then
          refine Runs.regionH 1 rfl H ?_; intro b9 σ H
          refine Ops.assign (v := (.v (.bool false))) rfl rfl ?_
          apply Ops.nil
          replace H := H.all
          apply Runs.ret
          replace h := Option.some.inj h; subst h
          exact ⟨nofun, (.inr ⟨_, rfl, rfl, (EndsH.H (xs := [(.v (.bool false))]) (.inr rfl) H (.tmp (v := (.v (.bool false))) rfl .nil) (.one (.c (.v _))) 2 rfl)⟩)⟩
        · replace h := cond_F hc3 h
          apply Runs.skip
          refine Runs.regionH 2 rfl H ?_; intro b10 σ H
          refine Ops.int (m := s1) (m' := 1) (r := .int .i64 (w64 (s1 + 1))) rfl rfl rfl rfl rfl ?_
          refine Ops.move (v := (.v (.int .i64 (w64 (s1 + 1))))) rfl rfl ?_
          apply Ops.nil
          replace H := H.all
          replace h := Option.some.inj h; subst h
          exact ⟨rfl, ⟨rfl, rfl, rfl, rfl, rfl, trivial⟩, ((H.erase 1).erase 0)⟩
      · replace h := cond_F hc2 h
        apply Runs.exit
        replace h := Option.some.inj h; subst h
        exact ⟨nofun, (.inl ⟨_, rfl, rfl, trivial, H⟩)⟩
    · rintro x e σ (⟨a2, rfl, rfl, he, H⟩ | ⟨r', rfl, rfl, hE⟩)
      · skip
        replace h := jgo h
        obtain ⟨e, rfl⟩ := he.ex
        apply Runs.then
        refine Runs.regionH 1 rfl H ?_; intro b11 σ H
        refine Ops.assign (v := (.v (.bool true))) rfl rfl ?_
        apply Ops.nil
        replace H := H.all
        apply Runs.ret
        replace h := Option.some.inj h; subst h
        exact (EndsH.H (xs := [(.v (.bool true))]) (.inr rfl) H (.tmp (v := (.v (.bool true))) rfl .nil) (.one (.c (.v _))) 0 rfl)
      · skip
        replace h := jret h
        replace h := Option.some.inj h; subst h
        exact hE

set_option maxRecDepth 100000 in
set_option maxHeartbeats 4000000 in
theorem canon_shifted_1_fn {x' : Span} {y : Span} {p2' : Int} {id0' : Nat} {r : Bool} (h : canon_shifted_1 x' y p2' = r) : FnH CX 85 [(.agg (vs (Span.cs x'))), (.agg (vs (Span.cs y))), (.ptr id0' 1 0)] (.v (.bool r)) [.blk id0' 3 [(.v (.int .i64 p2'))]] := by
  refine FnH.of Try.func85 rfl rfl rfl rfl rfl rfl (fun h => by have := all_get h 2 rfl; cases this) ?_
  intro σ L hC H
  have hC0 := hC
  obtain ⟨k0', hk0', hC⟩ := hC.inv
  unfold canon_shifted_1 at h
  apply Runs.then
  refine Runs.regionH 3 rfl H ?_; intro b1 σ H
  refine Ops.boxH (v := (.agg [(.v (.int .i64 x'.From)), (.v (.int .i64 x'.To))])) (cs := [(.v (.int .i64 x'.From)), (.v (.int .i64 x'.To))]) H (by omega) (by omega) rfl rfl rfl ?_; intro σ H
  refine Ops.boxH (v := (.agg [(.v (.int .i64 y.From)), (.v (.int .i64 y.To))])) (cs := [(.v (.int .i64 y.From)), (.v (.int .i64 y.To))]) H (by omega) (by omega) rfl rfl rfl ?_; intro σ H
  refine Ops.assign (v := (.v (.bool false))) rfl rfl ?_
  apply Ops.nil
  replace H := H.all
  apply Runs.then
  refine Runs.regionH 17 rfl H ?_; intro b2 σ H
  refine Ops.fieldAddrH (off := 0) (fo := 0) H 0 rfl rfl rfl rfl rfl nofun rfl ?_
  refine Ops.loadH (off := 0) (v := (.v (.int .i64 y.From))) H 0 rfl rfl rfl rfl rfl nofun rfl ?_
  refine Ops.fieldAddrH (off := 0) (fo := 0) H 1 rfl rfl rfl rfl rfl nofun rfl ?_
  refine Ops.loadH (off := 0) (v := (.v (.int .i64 x'.From))) H 1 rfl rfl rfl rfl rfl nofun rfl ?_
  refine Ops.int (m := y.From) (m' := x'.From) (r := .int .i64 (w64 (y.From - x'.From))) rfl rfl rfl rfl rfl ?_
  refine Ops.loadH (off := 0) (v := (.v (.int .i64 p2'))) H (k0' + 2) hk0' rfl rfl rfl rfl nofun rfl ?_
  refine Ops.int (m := (w64 (y.From - x'.From))) (m' := p2') (r := .bool ((w64 (y.From - x'.From)) == p2')) rfl rfl rfl rfl rfl ?_
  refine Ops.move (v := (.v (.bool ((w64 (y.From - x'.From)) == p2')))) rfl rfl ?_
  refine Ops.mid 8 (K1 := fun e σ => EnvHas e [(21, (.v (.bool (((w64 (y.From - x'.From)) == p2') && ((w64 (y.To - x'.To)) == p2')))))] ∧ Has σ (b2 + 16) (b2 + 17) (L)) rfl ?_ ?_
  · refine Ops.split rfl rfl ?_ ?_ <;> intro hc1
    · skip
      refine Ops.wanted rfl rfl ?_
      refine Ops.fieldAddrH (off := 0) (fo := 1) H 0 rfl rfl rfl rfl rfl nofun rfl ?_
      refine Ops.wanted rfl rfl ?_
      refine Ops.loadH (off := 1) (v := (.v (.int .i64 y.To))) H 0 rfl rfl rfl rfl rfl nofun rfl ?_
      refine Ops.wanted rfl rfl ?_
      refine Ops.fieldAddrH (off := 0) (fo := 1) H 1 rfl rfl rfl rfl rfl nofun rfl ?_
      refine Ops.wanted rfl rfl ?_
      refine Ops.loadH (off := 1) (v := (.v (.int .i64 x'.To))) H 1 rfl rfl rfl rfl rfl nofun rfl ?_
      refine Ops.wanted rfl rfl ?_
      refine Ops.int (m := y.To) (m' := x'.To) (r := .int .i64 (w64 (y.To - x'.To))) rfl rfl rfl rfl rfl ?_
      refine Ops.wanted rfl rfl ?_
      refine Ops.loadH (off := 0) (v := (.v (.int .i64 p2'))) H (k0' + 2) hk0' rfl rfl rfl rfl nofun rfl ?_
      refine Ops.wanted rfl rfl ?_
      refine Ops.int (m := (w64 (y.To - x'.To))) (m' := p2') (r := .bool ((w64 (y.To - x'.To)) == p2')) rfl rfl rfl rfl rfl ?_
      refine Ops.pickT (v := (.v (.bool ((w64 (y.To - x'.To)) == p2')))) rfl rfl rfl ?_
      apply Ops.nil
      exact ⟨⟨and_T hc1, trivial⟩, ((H.erase 1).erase 0).weak (by omega) (Nat.le_refl _)⟩
    · skip
      refine Ops.pass rfl rfl rfl ?_
      refine Ops.pass rfl rfl rfl ?_
      refine Ops.pass rfl rfl rfl ?_
      refine Ops.pass rfl rfl rfl ?_
      refine Ops.pass rfl rfl rfl ?_
      refine Ops.pass rfl rfl rfl ?_
      refine Ops.pass rfl rfl rfl ?_
      refine Ops.pickF (v := (.v (.bool false))) rfl rfl rfl ?_
      apply Ops.nil
      exact ⟨⟨and_F hc1, trivial⟩, ((H.erase 1).erase 0).weak (by omega) (Nat.le_refl _)⟩
  · rintro e σ ⟨he, H⟩
    obtain ⟨e, rfl⟩ := he.ex
    refine Ops.assign (v := (.v (.bool (((w64 (y.From - x'.From)) == p2') && ((w64 (y.To - x'.To)) == p2'))))) rfl rfl ?_
    apply Ops.nil
    replace H := H.all
    apply Runs.ret
    subst h
    exact (EndsH.H (xs := [(.v (.bool (((w64 (y.From - x'.From)) == p2') && ((w64 (y.To - x'.To)) == p2'))))]) (.inr rfl) H (.tmp (v := (.v (.bool (((w64 (y.From - x'.From)) == p2') && ((w64 (y.To - x'.To)) == p2'))))) rfl .nil) (.one (.c (.v _))) 0 rfl)

set_option maxRecDepth 100000 in
set_option maxHeartbeats 4000000 in
theorem canon_shifted_fn {a : (List Span)} {b : (List Span)} {by' : Int} {r : Bool} (h : canon_shifted a b by' = some r) : Fn CX 81 [(.v (.sl (a.map Span.cs))), (.v (.sl (b.map Span.cs))), (.v (.int .i64 by'))] (.v (.bool r)) := by
  refine Fn.ends Try.func81 rfl rfl rfl rfl rfl rfl ?_
  have H : Hs (⟨0, fun _ => .none⟩ : Heap) [] := Has.nil (Nat.le_refl _)
  generalize (⟨0, fun _ => .none⟩ : Heap) = σ at H ⊢
  unfold canon_shifted at h
  apply Runs.then
  refine Runs.regionH 2 rfl H ?_; intro b1 σ H
  refine Ops.boxH (v := (.v (.int .i64 by'))) (cs := [(.v (.int .i64 by'))]) H (by omega) (by omega) rfl rfl rfl ?_; intro σ H
  refine Ops.assign (v := (.v (.bool false))) rfl rfl ?_
  apply Ops.nil
  replace H := H.all
  apply Runs.then
  refine Runs.regionH 5 rfl H ?_; intro b2 σ H
  refine Ops.move (v := (.v (.sl (a.map Span.cs)))) rfl rfl ?_
  refine Ops.move (v := (.v (.sl (b.map Span.cs)))) rfl rfl ?_
  refine Ops.makeClo (fs := []) (cs := [(.ptr (b1 + 0) 1 0)]) rfl rfl rfl rfl ?_
  obtain ⟨x1, q1, h⟩ := bind_some h
  refine Ops.callH (ys := [(.v (.sl (a.map Span.cs))), (.v (.sl (b.map Span.cs))), (.clo 85 [] [(.ptr (b1 + 0) 1 0)])]) (r := (.v (.bool x1))) H rfl (slices_EqualFunc_SSpan_SSpan_Span_Span_fn (C := [.blk (b1 + 0) 3 [(.v (.int .i64 by'))]]) rfl (fun h => by simp [PV.pure] at h) (fun z0 z1 y hz => (CloH.clo (canon_shifted_1_fn (Option.some.inj hz)))) q1) (.cons 0 rfl .nil) nofun rfl ?_; intro σ H
  refine Ops.assign (v := (.v (.bool x1))) rfl rfl ?_
  apply Ops.nil
  replace H := H.all
  apply Runs.ret
  replace h := Option.some.inj h; subst h
  exact (Ends.H (xs := [(.v (.bool x1))]) (.inr rfl) H (.tmp (v := (.v (.bool x1))) rfl .nil) (.one (.c (.v _))))

set_option maxRecDepth 100000 in
set_option maxHeartbeats 4000000 in
theorem canon_turn_fn {f : Form} {d : Int} {by' : Int} {r : Bool} (h : canon_turn f d by' = some r) : Fn CX 66 [(.agg (vs (Form.cs f))), (.v (.int .i64 d)), (.v (.int .i64 by'))] (.v (.bool r)) := by
  refine Fn.ends Try.func66 rfl rfl rfl rfl rfl rfl ?_
  have H : Hs (⟨0, fun _ => .none⟩ : Heap) [] := Has.nil (Nat.le_refl _)
  generalize (⟨0, fun _ => .none⟩ : Heap) = σ at H ⊢
  unfold canon_turn at h
  apply Runs.then
  refine Runs.regionH 2 rfl H ?_; intro b1 σ H
  refine Ops.boxH (v := (.agg [(.v (.int .i64 f.Period)), (.v (.int .i64 f.Count)), (.v (.sl (f.Core.map (cL Span.cs)))), (.v (.sl (f.Odd.map Granule.cs)))])) (cs := [(.v (.int .i64 f.Period)), (.v (.int .i64 f.Count)), (.v (.sl (f.Core.map (cL Span.cs)))), (.v (.sl (f.Odd.map Granule.cs)))]) H (by omega) (by omega) rfl rfl rfl ?_; intro σ H
  refine Ops.assign (v := (.v (.bool false))) rfl rfl ?_
  apply Ops.nil
  replace H := H.all
  apply Runs.then
  apply Runs.then
  refine Runs.regionH 4 rfl H ?_; intro b2 σ H
  refine Ops.fieldAddrH (off := 0) (fo := 2) H 0 rfl rfl rfl rfl rfl nofun rfl ?_
  refine Ops.loadH (off := 2) (v := (.v (.sl (f.Core.map (cL Span.cs))))) H 0 rfl rfl rfl rfl rfl nofun rfl ?_
  refine Ops.lenPt (c := (cL Span.cs)) (xs := f.Core) rfl rfl rfl ?_
  refine Ops.move (v := (.v (.int .i64 0))) rfl rfl ?_
  apply Ops.nil
  replace H := H.all
  apply Runs.inBlock
  obtain ⟨y1, hj1, h⟩ := bind_some h
  obtain ⟨n1, hj1⟩ := loopO_iff.1 hj1
  refine Runs.mono (Runs.loopO hj1 (fun s1 e σ => EnvHas e [(1, (.v (.int .i64 d))), (2, (.v (.int .i64 by'))), (3, (.ptr (b1 + 0) 4 0)), (12, (.v (.sl (f.Core.map (cL Span.cs))))), (13, (.v (.int .i64 (f.Core.length : Int)))), (14, (.v (.int .i64 s1)))] ∧ Hs σ [.blk (b1 + 0) 25 [(.v (.int .i64 f.Period)), (.v (.int .i64 f.Count)), (.v (.sl (f.Core.map (cL Span.cs)))), (.v (.sl (f.Odd.map Granule.cs)))]]) (fun y1 x e σ => (∃ a1, y1 = (.go a1) ∧ x = .exit 0 ∧ EnvHas e [] ∧ Hs σ []) ∨ (∃ r', y1 = (.ret r') ∧ x = .ret ∧ Ends CX Try.f66.results.toList (.v (.bool r')) x e σ)) ⟨⟨rfl, rfl, rfl, rfl, rfl, rfl, trivial⟩, H⟩ ?_) ?_
  · intro s1 e σ hI z h
    obtain ⟨he, H⟩ := hI
    obtain ⟨e, rfl⟩ := he.ex
    unfold canon_turn.s0 at h
    apply Runs.then
    refine Runs.regionH 1 rfl H ?_; intro b3 σ H
    refine Ops.int (m := s1) (m' := (f.Core.length : Int)) (r := .bool (decide (s1 < (f.Core.length : Int)))) rfl rfl rfl rfl rfl ?_
    apply Ops.nil
    replace H := H.all
    apply Runs.then
    refine Runs.whether (v := (decide (s1 < (f.Core.length : Int)))) rfl ?_ ?_ <;> intro hc1
    · replace h := cond_T hc1 h
      apply Runs.skip
      apply Runs.then
      obtain ⟨y2, hj2, h⟩ := bind_some h
      refine Runs.mono (Q := fun x e σ => (∃ a2, y2 = (.go a2) ∧ x = .normal ∧ EnvHas e [(1, (.v (.int .i64 d))), (2, (.v (.int .i64 by'))), (3, (.ptr (b1 + 0) 4 0)), (12, (.v (.sl (f.Core.map (cL Span.cs))))), (13, (.v (.int .i64 (f.Core.length : Int)))), (14, (.v (.int .i64 s1)))] ∧ Hs σ [.blk (b1 + 0) 25 [(.v (.int .i64 f.Period)), (.v (.int .i64 f.Count)), (.v (.sl (f.Core.map (cL Span.cs)))), (.v (.sl (f.Odd.map Granule.cs)))]]) ∨ (∃ r', y2 = (.ret r') ∧ x = .ret ∧ Ends CX Try.f66.results.toList (.v (.bool r')) x e σ)) ?_ ?_
      · replace h := hj2
        apply Runs.inBlock
        obtain ⟨y3, hj3, h⟩ := bind_some h
        refine Runs.mono (Q := fun x e σ => (∃ a3, y3 = (.go a3) ∧ x = .normal ∧ EnvHas e [(1, (.v (.int .i64 d))), (2, (.v (.int .i64 by'))), (3, (.ptr (b1 + 0) 4 0)), (12, (.v (.sl (f.Core.map (cL Span.cs))))), (13, (.v (.int .i64 (f.Core.length : Int)))), (14, (.v (.int .i64 s1)))] ∧ Hs σ [.blk (b1 + 0) 25 [(.v (.int .i64 f.Period)), (.v (.int .i64 f.Count)), (.v (.sl (f.Core.map (cL Span.cs)))), (.v (.sl (f.Odd.map Granule.cs)))]]) ∨ (∃ r', y3 = (.ret r') ∧ x = .ret ∧ Ends CX Try.f66.results.toList (.v (.bool r')) x e σ)) ?_ ?_
        · replace h := hj3
          apply Runs.then
          refine Runs.regionH 5 rfl H ?_; intro b4 σ H
          refine Ops.move (v := (.v (.int .i64 s1))) rfl rfl ?_
          obtain ⟨x1, q1, h⟩ := bind_some h
          refine Ops.indexP (c := (cL Span.cs)) (u := x1) rfl rfl q1 rfl rfl rfl rfl ?_
          refine Ops.loadP (u := (.sl (x1.map Span.cs))) rfl rfl rfl rfl ?_
          refine Ops.assign (v := (.v (.int .i64 s1))) rfl rfl ?_
          refine Ops.assign (v := (.v (.sl (x1.map Span.cs)))) rfl rfl ?_
          apply Ops.nil
          replace H := H.all
          apply Runs.then
          refine Runs.regionH 4 rfl H ?_; intro b5 σ H
          refine Ops.move (v := (.v (.int .i64 s1))) rfl rfl ?_
          refine Ops.move (v := (.v (.int .i64 d))) rfl rfl ?_
          refine Ops.int (m := s1) (m' := d) (r := .int .i64 (w64 (s1 + d))) rfl rfl rfl rfl rfl ?_
          refine Ops.assign (v := (.v (.int .i64 (w64 (s1 + d))))) rfl rfl ?_
          apply Ops.nil
          replace H := H.all
          apply Runs.then
          refine Runs.regionH 1 rfl H ?_; intro b6 σ H
          refine Ops.assign (v := (.v (.int .i64 0))) rfl rfl ?_
          apply Ops.nil
          replace H := H.all
          apply Runs.then
          obtain ⟨y4, hj4, h⟩ := bind_some h
          refine Runs.mono (Q := fun x e σ => x = .normal ∧ EnvHas e [(1, (.v (.int .i64 d))), (2, (.v (.int .i64 by'))), (3, (.ptr (b1 + 0) 4 0)), (8, (.v (.sl (x1.map Span.cs)))), (9, (.v (.int .i64 y4.1))), (10, (.v (.int .i64 y4.2))), (12, (.v (.sl (f.Core.map (cL Span.cs))))), (13, (.v (.int .i64 (f.Core.length : Int)))), (14, (.v (.int .i64 s1)))] ∧ Hs σ [.blk (b1 + 0) 25 [(.v (.int .i64 f.Period)), (.v (.int .i64 f.Count)), (.v (.sl (f.Core.map (cL Span.cs)))), (.v (.sl (f.Odd.map Granule.cs)))]]) ?_ ?_
          · replace h := hj4
            apply Runs.then
            refine Runs.regionH 4 rfl H ?_; intro b7 σ H
            refine Ops.move (v := (.v (.int .i64 (w64 (s1 + d))))) rfl rfl ?_
            refine Ops.fieldAddrH (off := 0) (fo := 1) H 0 rfl rfl rfl rfl rfl nofun rfl ?_
            refine Ops.loadH (off := 1) (v := (.v (.int .i64 f.Count))) H 0 rfl rfl rfl rfl rfl nofun rfl ?_
            refine Ops.int (m := (w64 (s1 + d))) (m' := f.Count) (r := .bool (decide ((w64 (s1 + d)) ≥ f.Count))) rfl rfl rfl rfl rfl ?_
            apply Ops.nil
            replace H := H.all
            refine Runs.whether (v := (decide ((w64 (s1 + d)) ≥ f.Count))) rfl ?_ ?_ <;> intro hc2
            · replace h := cond_T hc2 h
              refine Runs.drawnH 8 rfl (by kernel_rfl) H ?_; intro b8 σ H B8
              refine Ops.move (v := (.v (.int .i64 (w64 (s1 + d))))) rfl rfl ?_
              refine Ops.fieldAddrH (off := 0) (fo := 1) H 0 rfl rfl rfl rfl rfl (fun _ => .inl ⟨B8 0 _ rfl _ rfl, nofun⟩) rfl ?_
              refine Ops.loadH (off := 1) (v := (.v (.int .i64 f.Count))) H 0 rfl rfl rfl rfl rfl (fun _ => .inl ⟨B8 0 _ rfl _ rfl, nofun⟩) rfl ?_
              refine Ops.int (m := (w64 (s1 + d))) (m' := f.Count) (r := .int .i64 (w64 ((w64 (s1 + d)) - f.Count))) rfl rfl rfl rfl rfl ?_
              refine Ops.fieldAddrH (off := 0) (fo := 0) H 0 rfl rfl rfl rfl rfl (fun _ => .inl ⟨B8 0 _ rfl _ rfl, nofun⟩) rfl ?_
              refine Ops.loadH (off := 0) (v := (.v (.int .i64 f.Period))) H 0 rfl rfl rfl rfl rfl (fun _ => .inl ⟨B8 0 _ rfl _ rfl, nofun⟩) rfl ?_
              refine Ops.assign (v := (.v (.int .i64 (w64 ((w64 (s1 + d)) - f.Count))))) rfl rfl ?_
              refine Ops.assign (v := (.v (.int .i64 f.Period))) rfl rfl ?_
              apply Ops.nil
              replace H := H.all
              replace h := Option.some.inj h; subst h
              exact ⟨rfl, ⟨rfl, rfl, rfl, rfl, rfl, rfl, rfl, rfl, rfl, trivial⟩, H⟩
            · replace h := cond_F hc2 h
              apply Runs.skip
              replace h := Option.some.inj h; subst h
              exact ⟨rfl, ⟨rfl, rfl, rfl, rfl, rfl, rfl, rfl, rfl, rfl, trivial⟩, H⟩
          · rintro x e σ ⟨rfl, he, H⟩
            obtain ⟨e, rfl⟩ := he.ex
            apply Runs.then
            refine Runs.regionH 11 rfl H ?_; intro b9 σ H
            refine Ops.move (v := (.v (.sl (x1.map Span.cs)))) rfl rfl ?_
            refine Ops.fieldAddrH (off := 0) (fo := 2) H 0 rfl rfl rfl rfl rfl nofun rfl ?_
            refine Ops.loadH (off := 2) (v := (.v (.sl (f.Core.map (cL Span.cs))))) H 0 rfl rfl rfl rfl rfl nofun rfl ?_
            refine Ops.move (v := (.v (.int .i64 y4.1))) rfl rfl ?_
            obtain ⟨x2, q2, h⟩ := bind_some h
            refine Ops.indexP (c := (cL Span.cs)) (u := x2) rfl rfl q2 rfl rfl rfl rfl ?_
            refine Ops.loadP (u := (.sl (x2.map Span.cs))) rfl rfl rfl rfl ?_
            refine Ops.move (v := (.v (.int .i64 by'))) rfl rfl ?_
            refine Ops.move (v := (.v (.int .i64 y4.2))) rfl rfl ?_
            refine Ops.int (m := by') (m' := y4.2) (r := .int .i64 (w64 (by' - y4.2))) rfl rfl rfl rfl rfl ?_
            obtain ⟨x3, q3, h⟩ := bind_some h
            refine Ops.call (ys := [(.v (.sl (x1.map Span.cs))), (.v (.sl (x2.map Span.cs))), (.v (.int .i64 (w64 (by' - y4.2))))]) (r := (.v (.bool x3))) rfl (canon_shifted_fn q3) rfl ?_
            refine Ops.not (b := x3) rfl rfl ?_
            apply Ops.nil
            replace H := H.all
            refine Runs.whether (v := (!x3)) rfl ?_ ?_ <;> intro hc3
            · replace h := cond_T hc3 h
              apply Runs.then
              refine Runs.regionH 1 rfl H ?_; intro b10 σ H
              refine Ops.assign (v := (.v (.bool false))) rfl rfl ?_
              apply Ops.nil
              replace H := H.all
              apply Runs.ret
              replace h := Option.some.inj h; subst h
              exact (.inr ⟨_, rfl, rfl, (Ends.H (xs := [(.v (.bool false))]) (.inr rfl) H (.tmp (v := (.v (.bool false))) rfl .nil) (.one (.c (.v _))))⟩)
            · replace h := cond_F hc3 h
              apply Runs.skip
              replace h := Option.some.inj h; subst h
              exact (.inl ⟨_, rfl, rfl, ⟨rfl, rfl, rfl, rfl, rfl, rfl, trivial⟩, H⟩)
        · rintro x e σ (⟨a4, rfl, rfl, he, H⟩ | ⟨r', rfl, rfl, hE⟩)
          · skip
            replace h := jgo h
            obtain ⟨e, rfl⟩ := he.ex
            replace h := Option.some.inj h; subst h
            exact (.inl ⟨_, rfl, rfl, ⟨rfl, rfl, rfl, rfl, rfl, rfl, trivial⟩, H⟩)
          · skip
            replace h := jret h
            replace h := Option.some.inj h; subst h
            exact (.inr ⟨_, rfl, rfl, hE⟩)
      · rintro x e σ (⟨a5, rfl, rfl, he, H⟩ | ⟨r', rfl, rfl, hE⟩)
        · skip
          replace h := jgo h
          obtain ⟨e, rfl⟩ := he.ex
          refine Runs.regionH 2 rfl H ?_; intro b11 σ H
          refine Ops.int (m := s1) (m' := 1) (r := .int .i64 (w64 (s1 + 1))) rfl rfl rfl rfl rfl ?_
          refine Ops.move (v := (.v (.int .i64 (w64 (s1 + 1))))) rfl rfl ?_
          apply Ops.nil
          replace H := H.all
          replace h := Option.some.inj h; subst h
          exact ⟨rfl, ⟨rfl, rfl, rfl, rfl, rfl, rfl, trivial⟩, H⟩
        · skip
          replace h := jret h
          replace h := Option.some.inj h; subst h
          exact ⟨nofun, (.inr ⟨_, rfl, rfl, hE⟩)⟩
    · replace h := cond_F hc1 h
      apply Runs.exit
      replace h := Option.some.inj h; subst h
      exact ⟨nofun, (.inl ⟨_, rfl, rfl, trivial, (H.erase 0)⟩)⟩
  · rintro x e σ (⟨a6, rfl, rfl, he, H⟩ | ⟨r', rfl, rfl, hE⟩)
    · skip
      replace h := jgo h
      obtain ⟨e, rfl⟩ := he.ex
      apply Runs.then
      refine Runs.regionH 1 rfl H ?_; intro b12 σ H
      refine Ops.assign (v := (.v (.bool true))) rfl rfl ?_
      apply Ops.nil
      replace H := H.all
      apply Runs.ret
      replace h := Option.some.inj h; subst h
      exact (Ends.H (xs := [(.v (.bool true))]) (.inr rfl) H (.tmp (v := (.v (.bool true))) rfl .nil) (.one (.c (.v _))))
    · skip
      replace h := jret h
      replace h := Option.some.inj h; subst h
      exact hE

theorem slices_Clone_SSpan_Span_fn {l : List Span} {r : List Span} (h : clone? 16 l = some r) : Fn CX 47 [(.v (.sl (l.map Span.cs)))] (.v (.sl (r.map Span.cs))) := by
  obtain ⟨h1, rfl⟩ := clone_some h
  refine Fn.intr ?_ rfl rfl rfl
  rw [cx_intr47]
  unfold cloneV
  dsimp only
  rw [if_pos ⟨by simp [Span.cs], by simpa using h1⟩]

set_option maxRecDepth 100000 in
set_option maxHeartbeats 4000000 in
theorem canon_core_fn {f : Form} {r : Form} (h : canon_core f = some r) : Fn CX 49 [(.agg (vs (Form.cs f)))] (.agg (vs (Form.cs r))) := by
  refine Fn.ends Try.func49 rfl rfl rfl rfl rfl rfl ?_
  have H : Hs (⟨0, fun _ => .none⟩ : Heap) [] := Has.nil (Nat.le_refl _)
  generalize (⟨0, fun _ => .none⟩ : Heap) = σ at H ⊢
  unfold canon_core at h
  apply Runs.then
  refine Runs.regionH 2 rfl H ?_; intro b1 σ H
  refine Ops.boxH (v := (.agg [(.v (.int .i64 f.Period)), (.v (.int .i64 f.Count)), (.v (.sl (f.Core.map (cL Span.cs)))), (.v (.sl (f.Odd.map Granule.cs)))])) (cs := [(.v (.int .i64 f.Period)), (.v (.int .i64 f.Count)), (.v (.sl (f.Core.map (cL Span.cs)))), (.v (.sl (f.Odd.map Granule.cs)))]) H (by omega) (by omega) rfl rfl rfl ?_; intro σ H
  refine Ops.allocH (cs := [(.v (.int .i64 0)), (.v (.int .i64 0)), .nils, .nils]) H (by omega) (by omega) rfl rfl ?_; intro σ H
  apply Ops.nil
  replace H := H.all
  apply Runs.scope
  apply Runs.then
  refine Runs.regionH 3 rfl H ?_; intro b2 σ H
  refine Ops.buildA (cs := [(.v (.int .i64 0)), (.v (.int .i64 0)), .nils, .nils]) rfl rfl ?_
  refine Ops.allocH (cs := [(.v (.int .i64 0)), (.v (.int .i64 0)), .nils, .nils]) H (by omega) (by omega) rfl rfl ?_; intro σ H
  refine Ops.storeH (off := 0) (v := (.agg [(.v (.int .i64 0)), (.v (.int .i64 0)), .nils, .nils])) (ys := [(.v (.int .i64 0)), (.v (.int .i64 0)), .nils, .nils]) (cells' := [(.v (.int .i64 0)), (.v (.int .i64 0)), .nils, .nils]) H 0 rfl rfl rfl rfl rfl rfl rfl rfl rfl nofun ?_; intro σ H
  apply Ops.nil
  replace H := H.all
  apply Runs.then
  apply Runs.then
  refine Runs.regionH 2 rfl H ?_; intro b3 σ H
  refine Ops.loadHA (off := 0) (cs := [(.v (.int .i64 f.Period)), (.v (.int .i64 f.Count)), (.v (.sl (f.Core.map (cL Span.cs)))), (.v (.sl (f.Odd.map Granule.cs)))]) H 2 rfl rfl rfl rfl rfl rfl rfl nofun rfl ?_
  obtain ⟨x1, q1, h⟩ := bind_some h
  refine Ops.call (ys := [(.agg [(.v (.int .i64 f.Period)), (.v (.int .i64 f.Count)), (.v (.sl (f.Core.map (cL Span.cs)))), (.v (.sl (f.Odd.map Granule.cs)))])]) (r := (.v (.bool x1))) rfl (canon_bare_fn q1) rfl ?_
  apply Ops.nil
  replace H := H.all
  refine Runs.whether (v := x1) rfl ?_ ?_ <;> intro hc1
  · replace h := cond_T hc1 h
    apply Runs.then
    refine Runs.regionH 2 rfl H ?_; intro b4 σ H
    refine Ops.loadHA (off := 0) (cs := [(.v (.int .i64 0)), (.v (.int .i64 0)), .nils, .nils]) H 0 rfl rfl rfl rfl rfl rfl rfl nofun rfl ?_
    refine Ops.storeH (off := 0) (v := (.agg [(.v (.int .i64 0)), (.v (.int .i64 0)), .nils, .nils])) (ys := [(.v (.int .i64 0)), (.v (.int .i64 0)), .nils, .nils]) (cells' := [(.v (.int .i64 0)), (.v (.int .i64 0)), .nils, .nils]) H 1 rfl rfl rfl rfl rfl rfl rfl rfl rfl nofun ?_; intro σ H
    apply Ops.nil
    replace H := H.all
    apply Runs.ret
    replace h := Option.some.inj h; subst h
    exact (Ends.H (xs := [(.agg [(.v (.int .i64 0)), (.v (.int .i64 0)), .nils, .nils])]) (.inr rfl) H (.agg (cs := [(.v (.int .i64 0)), (.v (.int .i64 0)), .nils, .nils]) (off := 0) 1 rfl rfl rfl rfl rfl rfl rfl .nil) (.one (.a (.cons (.v _) (.cons (.v _) (.cons .n (.cons .n .nil)))))))
  · replace h := cond_F hc1 h
    apply Runs.skip
    apply Runs.then
    apply Runs.label
    apply Runs.then
    obtain ⟨y1, hj1, h⟩ := bind_some h
    refine Runs.mono (Q := fun x e σ => ∃ (w1 : PV), x = .normal ∧ EnvHas e [(2, (.ptr (b1 + 1) 4 0)), (3, (.ptr (b2 + 1) 4 0))] ∧ Hs σ [.sl w1 31 1 (y1.1.map (cL Span.cs)) true, .blk (b2 + 1) 25 [(.v (.int .i64 y1.2.1)), (.v (.int .i64 y1.2.2)), w1, .nils], .blk (b1 + 1) 25 [(.v (.int .i64 0)), (.v (.int .i64 0)), .nils, .nils]]) ?_ ?_
    · replace h := hj1
      apply Runs.then
      refine Runs.regionH 3 rfl H ?_; intro b5 σ H
      refine Ops.fieldAddrH (off := 0) (fo := 1) H 2 rfl rfl rfl rfl rfl nofun rfl ?_
      refine Ops.loadH (off := 1) (v := (.v (.int .i64 f.Count))) H 2 rfl rfl rfl rfl rfl nofun rfl ?_
      refine Ops.callO (ys := [(.v (.int .i64 f.Count))]) rfl (canon_divisors_fn H) nofun rfl ?_; rintro _ σ ⟨id1, rfl, H⟩
      apply Ops.nil
      replace H := H.all
      apply Runs.inBlock
      replace H := H.pushNil 31 1 true
      obtain ⟨y2, hj2, h⟩ := bind_some h
      refine Runs.rangeH H rfl (fun s2 M => ∃ (w4 : PV), M = [.sl w4 31 1 (s2.1.map (cL Span.cs)) true, .blk id1 3 [(.v (.int .i64 f.Count))], .blk (b2 + 1) 25 [(.v (.int .i64 s2.2.1)), (.v (.int .i64 s2.2.2)), w4, .nils], .blk (b1 + 1) 25 [(.v (.int .i64 0)), (.v (.int .i64 0)), .nils, .nils], .blk (b1 + 0) 25 [(.v (.int .i64 f.Period)), (.v (.int .i64 f.Count)), (.v (.sl (f.Core.map (cL Span.cs)))), (.v (.sl (f.Odd.map Granule.cs)))]]) (fun z2 => [(.v (.int .i64 z2))]) (canon_core.b0 f) (fun p => if p = 0 then none else some (.exit 0)) rfl (fun p => by (repeat' split) <;> exact ⟨_, rfl⟩) (r := y2) ⟨.nils, rfl⟩ (fun _ => rfl) (fun _ => rfl) ?_ (fun id hy => canon_divisors_1_fn hy (fun s L hL => by obtain ⟨M, hM, rfl⟩ := hL; obtain ⟨_, rfl⟩ := hM; exact (.cons 2 rfl .nil)) hj2) ?_
      · intro R0 R1 s2 z2 s' p h σ M O hM H
        obtain ⟨w4, rfl⟩ := hM
        unfold canon_core.b0 at h
        refine Runs.env [(17, (.v (.int .i64 z2))), (1, (.ptr (b1 + 0) 4 0)), (2, (.ptr (b1 + 1) 4 0)), (3, (.ptr (b2 + 1) 4 0)), (16, (.clo 80 [] [(.ptr id1 1 0)]))] ⟨rfl, rfl, rfl, rfl, rfl, trivial⟩ fun e => ?_
        refine Runs.regionH 1 rfl H ?_; intro b6 σ H
        refine Ops.assign (v := (.v (.int .i64 z2))) rfl rfl ?_
        apply Ops.nil
        replace H := H.all
        refine ⟨rfl, [.sl w4 31 1 (s2.1.map (cL Span.cs)) true, .blk id1 3 [(.v (.int .i64 f.Count))], .blk (b2 + 1) 25 [(.v (.int .i64 s2.2.1)), (.v (.int .i64 s2.2.2)), w4, .nils], .blk (b1 + 1) 25 [(.v (.int .i64 0)), (.v (.int .i64 0)), .nils, .nils], .blk (b1 + 0) 25 [(.v (.int .i64 f.Period)), (.v (.int .i64 f.Count)), (.v (.sl (f.Core.map (cL Span.cs)))), (.v (.sl (f.Odd.map Granule.cs)))]], H, ?_⟩; intro σ H
        apply Runs.inBlock
        apply Runs.then
        refine Runs.drawnH 14 rfl (by kernel_rfl) H ?_; intro b7 σ H B7
        refine Ops.fieldAddrH (off := 0) (fo := 0) H 5 rfl rfl rfl rfl rfl (fun _ => .inl ⟨B7 5 _ rfl _ rfl, nofun⟩) rfl ?_
        refine Ops.loadH (off := 0) (v := (.v (.int .i64 f.Period))) H 5 rfl rfl rfl rfl rfl (fun _ => .inl ⟨B7 5 _ rfl _ rfl, nofun⟩) rfl ?_
        refine Ops.fieldAddrH (off := 0) (fo := 1) H 5 rfl rfl rfl rfl rfl (fun _ => .inl ⟨B7 5 _ rfl _ rfl, nofun⟩) rfl ?_
        refine Ops.loadH (off := 1) (v := (.v (.int .i64 f.Count))) H 5 rfl rfl rfl rfl rfl (fun _ => .inl ⟨B7 5 _ rfl _ rfl, nofun⟩) rfl ?_
        refine Ops.move (v := (.v (.int .i64 z2))) rfl rfl ?_
        obtain ⟨u1, q2, h⟩ := bind_some h
        refine Ops.quo (m := f.Count) (m' := z2) rfl rfl (nz_ne q2) rfl ?_
        obtain ⟨x2, q3, h⟩ := bind_some h
        refine Ops.call (ys := [(.v (.int .i64 f.Period)), (.v (.int .i64 (w64 (f.Count.tdiv z2))))]) (r := (.tup [(.v (.int .i64 x2.1)), (.v (.int .i64 x2.2.1)), (.v (.int .i64 x2.2.2))])) rfl (safe_Floor_fn q3) rfl ?_
        refine Ops.move (v := (.tup [(.v (.int .i64 x2.1)), (.v (.int .i64 x2.2.1)), (.v (.int .i64 x2.2.2))])) rfl rfl ?_
        refine Ops.extract (v := (.v (.int .i64 x2.1))) rfl rfl rfl ?_
        refine Ops.extract (v := (.v (.int .i64 x2.2.1))) rfl rfl rfl ?_
        refine Ops.extract (v := (.v (.int .i64 x2.2.2))) rfl rfl rfl ?_
        refine Ops.assign (v := (.v (.int .i64 x2.1))) rfl rfl ?_
        refine Ops.assign (v := (.v (.int .i64 x2.2.1))) rfl rfl ?_
        refine Ops.assign (v := (.v (.int .i64 x2.2.2))) rfl rfl ?_
        apply Ops.nil
        replace H := H.all
        apply Runs.then
        apply Runs.then
        refine Runs.regionH 9 rfl H ?_; intro b8 σ H
        refine Ops.move (v := (.v (.int .i64 x2.2.1))) rfl rfl ?_
        refine Ops.int (m := x2.2.1) (m' := 0) (r := .bool (x2.2.1 != 0)) rfl rfl rfl rfl rfl ?_
        refine Ops.move (v := (.v (.bool (x2.2.1 != 0)))) rfl rfl ?_
        obtain ⟨y3, hj3, h⟩ := bind_some h
        refine Ops.mid 6 (K1 := fun e σ => EnvHas e [(37, (.v (.bool y3))), (1, (.ptr (b1 + 0) 4 0)), (2, (.ptr (b1 + 1) 4 0)), (3, (.ptr (b2 + 1) 4 0)), (4, (.v (.int .i64 z2))), (5, (.v (.int .i64 x2.1)))] ∧ Has σ (b8 + 9) (b8 + 9) (R1 :: .sl w4 31 1 (s2.1.map (cL Span.cs)) true :: .blk id1 3 [(.v (.int .i64 f.Count))] :: .blk (b2 + 1) 25 [(.v (.int .i64 s2.2.1)), (.v (.int .i64 s2.2.2)), w4, .nils] :: .blk (b1 + 1) 25 [(.v (.int .i64 0)), (.v (.int .i64 0)), .nils, .nils] :: .blk (b1 + 0) 25 [(.v (.int .i64 f.Period)), (.v (.int .i64 f.Count)), (.v (.sl (f.Core.map (cL Span.cs)))), (.v (.sl (f.Odd.map Granule.cs)))] :: O)) rfl ?_ ?_
        · refine Ops.split rfl rfl ?_ ?_ <;> intro hc2
          · replace h := cond_T hc2 hj3
            refine Ops.pass rfl rfl rfl ?_
            refine Ops.pass rfl rfl rfl ?_
            refine Ops.pass rfl rfl rfl ?_
            refine Ops.pass rfl rfl rfl ?_
            refine Ops.pass rfl rfl rfl ?_
            refine Ops.pickT (v := (.v (.bool true))) rfl rfl rfl ?_
            apply Ops.nil
            replace h := Option.some.inj h; subst h
            exact ⟨⟨rfl, rfl, rfl, rfl, rfl, rfl, trivial⟩, H.weak (by omega) (Nat.le_refl _)⟩
          · replace h := cond_F hc2 hj3
            refine Ops.wanted rfl rfl ?_
            refine Ops.loadHA (off := 0) (cs := [(.v (.int .i64 f.Period)), (.v (.int .i64 f.Count)), (.v (.sl (f.Core.map (cL Span.cs)))), (.v (.sl (f.Odd.map Granule.cs)))]) H 5 rfl rfl rfl rfl rfl rfl rfl nofun rfl ?_
            refine Ops.wanted rfl rfl ?_
            refine Ops.move (v := (.v (.int .i64 z2))) rfl rfl ?_
            refine Ops.wanted rfl rfl ?_
            refine Ops.move (v := (.v (.int .i64 x2.1))) rfl rfl ?_
            refine Ops.wanted rfl rfl ?_
            obtain ⟨x3, q4, h⟩ := bind_some h
            refine Ops.call (ys := [(.agg [(.v (.int .i64 f.Period)), (.v (.int .i64 f.Count)), (.v (.sl (f.Core.map (cL Span.cs)))), (.v (.sl (f.Odd.map Granule.cs)))]), (.v (.int .i64 z2)), (.v (.int .i64 x2.1))]) (r := (.v (.bool x3))) rfl (canon_turn_fn q4) rfl ?_
            refine Ops.wanted rfl rfl ?_
            refine Ops.not (b := x3) rfl rfl ?_
            refine Ops.pickF (v := (.v (.bool (!x3)))) rfl rfl rfl ?_
            apply Ops.nil
            replace h := Option.some.inj h; subst h
            exact ⟨⟨rfl, rfl, rfl, rfl, rfl, rfl, trivial⟩, H.weak (by omega) (Nat.le_refl _)⟩
        · rintro e σ ⟨he, H⟩
          obtain ⟨e, rfl⟩ := he.ex
          apply Ops.nil
          replace H := H.all
          refine Runs.whether (v := y3) rfl ?_ ?_ <;> intro hc3
          · replace h := cond_T hc3 h
            apply Runs.exit
            obtain ⟨rfl, rfl⟩ := Prod.mk.inj (Option.some.inj h)
            exact ⟨⟨rfl, (iff_of_true rfl rfl)⟩, _, ⟨w4, rfl⟩, H⟩
          · replace h := cond_F hc3 h
            apply Runs.skip
            apply Runs.then
            refine Runs.regionH 6 rfl H ?_; intro b9 σ H
            refine Ops.move (v := (.v (.int .i64 x2.1))) rfl rfl ?_
            refine Ops.move (v := (.v (.int .i64 z2))) rfl rfl ?_
            refine Ops.fieldAddrH (off := 0) (fo := 0) H 3 rfl rfl rfl rfl rfl nofun rfl ?_
            refine Ops.storeH (off := 0) (v := (.v (.int .i64 x2.1))) (ys := [(.v (.int .i64 x2.1))]) (cells' := [(.v (.int .i64 x2.1)), (.v (.int .i64 s2.2.2)), w4, .nils]) H 3 rfl rfl rfl rfl rfl rfl rfl rfl rfl nofun ?_; intro σ H
            refine Ops.fieldAddrH (off := 0) (fo := 1) H 3 rfl rfl rfl rfl rfl nofun rfl ?_
            refine Ops.storeH (off := 1) (v := (.v (.int .i64 z2))) (ys := [(.v (.int .i64 z2))]) (cells' := [(.v (.int .i64 x2.1)), (.v (.int .i64 z2)), w4, .nils]) H 3 rfl rfl rfl rfl rfl rfl rfl rfl rfl nofun ?_; intro σ H
            apply Ops.nil
            replace H := H.all
            apply Runs.then
            apply Runs.then
            refine Runs.regionH 6 rfl H ?_; intro b10 σ H
            refine Ops.fieldAddrH (off := 0) (fo := 2) H 5 rfl rfl rfl rfl rfl nofun rfl ?_
            refine Ops.loadH (off := 2) (v := (.v (.sl (f.Core.map (cL Span.cs))))) H 5 rfl rfl rfl rfl rfl nofun rfl ?_
            refine Ops.move (v := (.v (.int .i64 z2))) rfl rfl ?_
            obtain ⟨x4, q5, h⟩ := bind_some h
            refine Ops.sliceP01 (c := (cL Span.cs)) q5 rfl rfl rfl rfl (fun _ => rfl) rfl ?_
            refine Ops.lenPt (c := (cL Span.cs)) (xs := x4) rfl rfl rfl ?_
            refine Ops.move (v := (.v (.int .i64 0))) rfl rfl ?_
            apply Ops.nil
            replace H := H.all
            apply Runs.inBlock
            obtain ⟨y4, hj4, h⟩ := bind_some h
            obtain ⟨n1, hj4⟩ := loopO_iff.1 hj4
            refine Runs.mono (Runs.loopO hj4 (fun s3 e σ => ∃ (w7 : PV), EnvHas e [(2, (.ptr (b1 + 1) 4 0)), (3, (.ptr (b2 + 1) 4 0)), (45, (.v (.sl (x4.map (cL Span.cs))))), (46, (.v (.int .i64 (x4.length : Int)))), (47, (.v (.int .i64 s3.1)))] ∧ Hs σ (R1 :: .sl w7 31 1 (s3.2.map (cL Span.cs)) true :: .blk id1 3 [(.v (.int .i64 f.Count))] :: .blk (b2 + 1) 25 [(.v (.int .i64 x2.1)), (.v (.int .i64 z2)), w7, .nils] :: .blk (b1 + 1) 25 [(.v (.int .i64 0)), (.v (.int .i64 0)), .nils, .nils] :: .blk (b1 + 0) 25 [(.v (.int .i64 f.Period)), (.v (.int .i64 f.Count)), (.v (.sl (f.Core.map (cL Span.cs)))), (.v (.sl (f.Odd.map Granule.cs)))] :: O)) (fun y4 x e σ => ∃ (w8 : PV), x = .exit 2 ∧ EnvHas e [(2, (.ptr (b1 + 1) 4 0)), (3, (.ptr (b2 + 1) 4 0))] ∧ Hs σ (R1 :: .sl w8 31 1 (y4.map (cL Span.cs)) true :: .blk id1 3 [(.v (.int .i64 f.Count))] :: .blk (b2 + 1) 25 [(.v (.int .i64 x2.1)), (.v (.int .i64 z2)), w8, .nils] :: .blk (b1 + 1) 25 [(.v (.int .i64 0)), (.v (.int .i64 0)), .nils, .nils] :: .blk (b1 + 0) 25 [(.v (.int .i64 f.Period)), (.v (.int .i64 f.Count)), (.v (.sl (f.Core.map (cL Span.cs)))), (.v (.sl (f.Odd.map Granule.cs)))] :: O)) ⟨w4, ⟨rfl, rfl, rfl, rfl, rfl, trivial⟩, H⟩ ?_) ?_
            · intro s3 e σ hI z h
              obtain ⟨w7, he, H⟩ := hI
              obtain ⟨e, rfl⟩ := he.ex
              unfold canon_core.s1 at h
              apply Runs.then
              refine Runs.regionH 1 rfl H ?_; intro b11 σ H
              refine Ops.int (m := s3.1) (m' := (x4.length : Int)) (r := .bool (decide (s3.1 < (x4.length : Int)))) rfl rfl rfl rfl rfl ?_
              apply Ops.nil
              replace H := H.all
              apply Runs.then
              refine Runs.whether (v := (decide (s3.1 < (x4.length : Int)))) rfl ?_ ?_ <;> intro hc4
              · replace h := cond_T hc4 h
                apply Runs.skip
                apply Runs.then
                apply Runs.inBlock
                apply Runs.then
                refine Runs.regionH 3 rfl H ?_; intro b12 σ H
                obtain ⟨x5, q6, h⟩ := bind_some h
                refine Ops.indexP (c := (cL Span.cs)) (u := x5) rfl rfl q6 rfl rfl rfl rfl ?_
                refine Ops.loadP (u := (.sl (x5.map Span.cs))) rfl rfl rfl rfl ?_
                refine Ops.assign (v := (.v (.sl (x5.map Span.cs)))) rfl rfl ?_
                apply Ops.nil
                replace H := H.all
                refine Runs.drawnH 8 rfl (by kernel_rfl) H ?_; intro b13 σ H B13
                refine Ops.fieldAddrH (off := 0) (fo := 2) H 3 rfl rfl rfl rfl rfl (fun _ => .inl ⟨B13 3 _ rfl _ rfl, nofun⟩) rfl ?_
                refine Ops.loadH (off := 2) (v := w7) H 3 rfl rfl rfl rfl rfl (fun _ => .inl ⟨B13 3 _ rfl _ rfl, nofun⟩) rfl ?_
                refine Ops.move (v := (.v (.sl (x5.map Span.cs)))) rfl rfl ?_
                obtain ⟨x6, q7, h⟩ := bind_some h
                refine Ops.call (ys := [(.v (.sl (x5.map Span.cs)))]) (r := (.v (.sl (x6.map Span.cs)))) rfl (slices_Clone_SSpan_Span_fn q7) rfl ?_
                refine Ops.buildS (sz := 1) ([x6].map (cL Span.cs)) H (by omega) (by omega) rfl rfl rfl rfl rfl rfl rfl rfl rfl ?_; intro σ H
                obtain ⟨x7, q8, h⟩ := bind_some h
                refine Ops.appendSt (c := (cL Span.cs)) (v := w7) (w := (.buf (b13 + 4) 1 1)) (xs := s3.2) (ys := [x6]) H (by omega) (by omega) 2 rfl rfl rfl (.s 0 rfl) q8 rfl rfl rfl rfl rfl (fun h => ⟨(fun id ho => .inl ⟨B13 1 _ rfl id ho, (fun _ => by kernel_rfl)⟩), (fun id ho => .inr ⟨4, (by cases ho; rfl), (fun h => nomatch h), by kernel_rfl, by decide⟩)⟩) rfl ?_; intro w9 σ H
                refine Ops.fieldAddrH (off := 0) (fo := 2) H 4 rfl rfl rfl rfl rfl (fun _ => .inl ⟨B13 3 _ rfl _ rfl, nofun⟩) rfl ?_
                refine Ops.storeH (off := 2) (v := w9) (ys := [w9]) (cells' := [(.v (.int .i64 x2.1)), (.v (.int .i64 z2)), w9, .nils]) H 4 rfl rfl rfl rfl (H.slCells (k := 2) rfl) rfl rfl rfl rfl (fun _ => .inl ⟨B13 3 _ rfl _ rfl, (fresh_static (by kernel_rfl))⟩) ?_; intro σ H
                apply Ops.nil
                replace H := H.all
                refine Runs.regionH 2 rfl H ?_; intro b14 σ H
                refine Ops.int (m := s3.1) (m' := 1) (r := .int .i64 (w64 (s3.1 + 1))) rfl rfl rfl rfl rfl ?_
                refine Ops.move (v := (.v (.int .i64 (w64 (s3.1 + 1))))) rfl rfl ?_
                apply Ops.nil
                replace H := H.all
                replace h := Option.some.inj h; subst h
                exact ⟨rfl, w9, ⟨rfl, rfl, rfl, rfl, rfl, trivial⟩, (H.erase 0)⟩
              · replace h := cond_F hc4 h
                apply Runs.exit
                replace h := Option.some.inj h; subst h
                exact ⟨nofun, ⟨w7, rfl, ⟨rfl, rfl, trivial⟩, H⟩⟩
            · rintro x e σ ⟨w10, rfl, he, H⟩
              obtain ⟨e, rfl⟩ := he.ex
              apply Runs.exit
              obtain ⟨rfl, rfl⟩ := Prod.mk.inj (Option.some.inj h)
              exact ⟨⟨rfl, (iff_of_false nofun nofun)⟩, _, ⟨w10, rfl⟩, H⟩
      · intro x σ M hx hM H
        obtain ⟨w11, rfl⟩ := hM
        cases hc0_ : (y2.2 == 0)
        · replace h := cond_F hc0_ h
          have hx : x = .exit 0 := by simpa [ne_of_beq_false hc0_, jumpD] using hx.symm
          subst hx
          replace h := Option.some.inj h; subst h
          exact ⟨w11, rfl, ⟨rfl, rfl, trivial⟩, ((H.erase 4).erase 1)⟩
        · replace h := cond_T hc0_ h
          have hx : x = .normal := by rw [eq_of_beq hc0_] at hx; exact (Option.some.inj hx).symm
          subst hx
          replace h := Option.some.inj h; subst h
          exact ⟨w11, rfl, ⟨rfl, rfl, trivial⟩, ((H.erase 4).erase 1)⟩
    · rintro x e σ ⟨w12, rfl, he, H⟩
      obtain ⟨e, rfl⟩ := he.ex
      apply Runs.then
      refine Runs.regionH 2 rfl H ?_; intro b15 σ H
      refine Ops.loadHA (off := 0) (cs := [(.v (.int .i64 y1.2.1)), (.v (.int .i64 y1.2.2)), w12, .nils]) H 1 rfl rfl rfl rfl rfl rfl rfl nofun rfl ?_
      refine Ops.storeH (off := 0) (v := (.agg [(.v (.int .i64 y1.2.1)), (.v (.int .i64 y1.2.2)), w12, .nils])) (ys := [(.v (.int .i64 y1.2.1)), (.v (.int .i64 y1.2.2)), w12, .nils]) (cells' := [(.v (.int .i64 y1.2.1)), (.v (.int .i64 y1.2.2)), w12, .nils]) H 2 rfl rfl rfl rfl rfl rfl rfl rfl rfl nofun ?_; intro σ H
      apply Ops.nil
      replace H := H.all
      apply Runs.ret
      replace h := Option.some.inj h; subst h
      exact (Ends.H (xs := [(.agg [(.v (.int .i64 y1.2.1)), (.v (.int .i64 y1.2.2)), w12, .nils])]) (.inr rfl) H (.agg (cs := [(.v (.int .i64 y1.2.1)), (.v (.int .i64 y1.2.2)), w12, .nils]) (off := 0) 2 rfl rfl rfl rfl rfl rfl rfl .nil) (.one (.a (.cons (.v _) (.cons (.v _) (.cons (.s 0 rfl) (.cons .n .nil)))))))

set_option maxRecDepth 100000 in
set_option maxHeartbeats 4000000 in
theorem canon_plain_fn {f : Form} {g : Granule} {r : Bool} (h : canon_plain f g = some r) : Fn CX 50 [(.agg (vs (Form.cs f))), (.agg (vs (Granule.cs g)))] (.v (.bool r)) := by
  refine Fn.ends Try.func50 rfl rfl rfl rfl rfl rfl ?_
  have H : Hs (⟨0, fun _ => .none⟩ : Heap) [] := Has.nil (Nat.le_refl _)
  generalize (⟨0, fun _ => .none⟩ : Heap) = σ at H ⊢
  unfold canon_plain at h
  apply Runs.then
  refine Runs.regionH 3 rfl H ?_; intro b1 σ H
  refine Ops.boxH (v := (.agg [(.v (.int .i64 f.Period)), (.v (.int .i64 f.Count)), (.v (.sl (f.Core.map (cL Span.cs)))), (.v (.sl (f.Odd.map Granule.cs)))])) (cs := [(.v (.int .i64 f.Period)), (.v (.int .i64 f.Count)), (.v (.sl (f.Core.map (cL Span.cs)))), (.v (.sl (f.Odd.map Granule.cs)))]) H (by omega) (by omega) rfl rfl rfl ?_; intro σ H
  refine Ops.boxH (v := (.agg [(.v (.int .i64 g.Index)), (.v (.sl (g.Ticks.map Span.cs)))])) (cs := [(.v (.int .i64 g.Index)), (.v (.sl (g.Ticks.map Span.cs)))]) H (by omega) (by omega) rfl rfl rfl ?_; intro σ H
  refine Ops.assign (v := (.v (.bool false))) rfl rfl ?_
  apply Ops.nil
  replace H := H.all
  apply Runs.then
  refine Runs.regionH 9 rfl H ?_; intro b2 σ H
  refine Ops.loadHA (off := 0) (cs := [(.v (.int .i64 f.Period)), (.v (.int .i64 f.Count)), (.v (.sl (f.Core.map (cL Span.cs)))), (.v (.sl (f.Odd.map Granule.cs)))]) H 1 rfl rfl rfl rfl rfl rfl rfl nofun rfl ?_
  refine Ops.fieldAddrH (off := 0) (fo := 0) H 0 rfl rfl rfl rfl rfl nofun rfl ?_
  refine Ops.loadH (off := 0) (v := (.v (.int .i64 g.Index))) H 0 rfl rfl rfl rfl rfl nofun rfl ?_
  obtain ⟨x1, q1, h⟩ := bind_some h
  refine Ops.call (ys := [(.agg [(.v (.int .i64 f.Period)), (.v (.int .i64 f.Count)), (.v (.sl (f.Core.map (cL Span.cs)))), (.v (.sl (f.Odd.map Granule.cs)))]), (.v (.int .i64 g.Index))]) (r := (.tup [(.v (.sl (x1.1.map Span.cs))), (.v (.int .i64 x1.2))])) rfl (gran_Get_fn q1) rfl ?_
  refine Ops.move (v := (.tup [(.v (.sl (x1.1.map Span.cs))), (.v (.int .i64 x1.2))])) rfl rfl ?_
  refine Ops.extract (v := (.v (.sl (x1.1.map Span.cs)))) rfl rfl rfl ?_
  refine Ops.extract (v := (.v (.int .i64 x1.2))) rfl rfl rfl ?_
  refine Ops.assign (v := (.v (.sl (x1.1.map Span.cs)))) rfl rfl ?_
  refine Ops.assign (v := (.v (.int .i64 x1.2))) rfl rfl ?_
  apply Ops.nil
  replace H := H.all
  apply Runs.then
  refine Runs.regionH 9 rfl H ?_; intro b3 σ H
  refine Ops.move (v := (.v (.int .i64 x1.2))) rfl rfl ?_
  refine Ops.int (m := x1.2) (m' := 0) (r := .bool (x1.2 == 0)) rfl rfl rfl rfl rfl ?_
  refine Ops.move (v := (.v (.bool (x1.2 == 0)))) rfl rfl ?_
  obtain ⟨y1, hj1, h⟩ := bind_some h
  refine Ops.mid 5 (K1 := fun e σ => EnvHas e [(21, (.v (.bool y1)))] ∧ Has σ (b3 + 8) (b3 + 9) []) rfl ?_ ?_
  · refine Ops.split rfl rfl ?_ ?_ <;> intro hc1
    · replace h := cond_T hc1 hj1
      refine Ops.wanted rfl rfl ?_
      refine Ops.move (v := (.v (.sl (x1.1.map Span.cs)))) rfl rfl ?_
      refine Ops.wanted rfl rfl ?_
      refine Ops.fieldAddrH (off := 0) (fo := 1) H 0 rfl rfl rfl rfl rfl nofun rfl ?_
      refine Ops.wanted rfl rfl ?_
      refine Ops.loadH (off := 1) (v := (.v (.sl (g.Ticks.map Span.cs)))) H 0 rfl rfl rfl rfl rfl nofun rfl ?_
      refine Ops.wanted rfl rfl ?_
      obtain ⟨x2, q2, h⟩ := bind_some h
      refine Ops.call (ys := [(.v (.sl (x1.1.map Span.cs))), (.v (.sl (g.Ticks.map Span.cs)))]) (r := (.v (.bool x2))) rfl (spans_Same_fn q2) rfl ?_
      refine Ops.pickT (v := (.v (.bool x2))) rfl rfl rfl ?_
      apply Ops.nil
      replace h := Option.some.inj h; subst h
      exact ⟨⟨rfl, trivial⟩, ((H.erase 1).erase 0).weak (by omega) (Nat.le_refl _)⟩
    · replace h := cond_F hc1 hj1
      refine Ops.pass rfl rfl rfl ?_
      refine Ops.pass rfl rfl rfl ?_
      refine Ops.pass rfl rfl rfl ?_
      refine Ops.pass rfl rfl rfl ?_
      refine Ops.pickF (v := (.v (.bool false))) rfl rfl rfl ?_
      apply Ops.nil
      replace h := Option.some.inj h; subst h
      exact ⟨⟨rfl, trivial⟩, ((H.erase 1).erase 0).weak (by omega) (Nat.le_refl _)⟩
  · rintro e σ ⟨he, H⟩
    obtain ⟨e, rfl⟩ := he.ex
    refine Ops.assign (v := (.v (.bool y1))) rfl rfl ?_
    apply Ops.nil
    replace H := H.all
    apply Runs.ret
    replace h := Option.some.inj h; subst h
    exact (Ends.H (xs := [(.v (.bool y1))]) (.inr rfl) H (.tmp (v := (.v (.bool y1))) rfl .nil) (.one (.c (.v _))))

set_option maxRecDepth 100000 in
set_option maxHeartbeats 4000000 in
theorem canon_Form_fn {f : Form} {r : Form} (h : canon_Form f = some r) : Fn CX 27 [(.agg (vs (Form.cs f)))] (.agg (vs (Form.cs r))) := by
  refine Fn.ends Try.func27 rfl rfl rfl rfl rfl rfl ?_
  have H : Hs (⟨0, fun _ => .none⟩ : Heap) [] := Has.nil (Nat.le_refl _)
  generalize (⟨0, fun _ => .none⟩ : Heap) = σ at H ⊢
  unfold canon_Form at h
  apply Runs.then
  refine Runs.regionH 2 rfl H ?_; intro b1 σ H
  refine Ops.boxH (v := (.agg [(.v (.int .i64 f.Period)), (.v (.int .i64 f.Count)), (.v (.sl (f.Core.map (cL Span.cs)))), (.v (.sl (f.Odd.map Granule.cs)))])) (cs := [(.v (.int .i64 f.Period)), (.v (.int .i64 f.Count)), (.v (.sl (f.Core.map (cL Span.cs)))), (.v (.sl (f.Odd.map Granule.cs)))]) H (by omega) (by omega) rfl rfl rfl ?_; intro σ H
  refine Ops.allocH (cs := [(.v (.int .i64 0)), (.v (.int .i64 0)), .nils, .nils]) H (by omega) (by omega) rfl rfl ?_; intro σ H
  apply Ops.nil
  replace H := H.all
  apply Runs.then
  refine Runs.regionH 4 rfl H ?_; intro b2 σ H
  refine Ops.loadHA (off := 0) (cs := [(.v (.int .i64 f.Period)), (.v (.int .i64 f.Count)), (.v (.sl (f.Core.map (cL Span.cs)))), (.v (.sl (f.Odd.map Granule.cs)))]) H 1 rfl rfl rfl rfl rfl rfl rfl nofun rfl ?_
  obtain ⟨x1, q1, h⟩ := bind_some h
  refine Ops.call (ys := [(.agg [(.v (.int .i64 f.Period)), (.v (.int .i64 f.Count)), (.v (.sl (f.Core.map (cL Span.cs)))), (.v (.sl (f.Odd.map Granule.cs)))])]) (r := (.agg [(.v (.int .i64 x1.Period)), (.v (.int .i64 x1.Count)), (.v (.sl (x1.Core.map (cL Span.cs)))), (.v (.sl (x1.Odd.map Granule.cs)))])) rfl (canon_core_fn q1) rfl ?_
  refine Ops.allocH (cs := [(.v (.int .i64 0)), (.v (.int .i64 0)), .nils, .nils]) H (by omega) (by omega) rfl rfl ?_; intro σ H
  refine Ops.storeH (off := 0) (v := (.agg [(.v (.int .i64 x1.Period)), (.v (.int .i64 x1.Count)), (.v (.sl (x1.Core.map (cL Span.cs)))), (.v (.sl (x1.Odd.map Granule.cs)))])) (ys := [(.v (.int .i64 x1.Period)), (.v (.int .i64 x1.Count)), (.v (.sl (x1.Core.map (cL Span.cs)))), (.v (.sl (x1.Odd.map Granule.cs)))]) (cells' := [(.v (.int .i64 x1.Period)), (.v (.int .i64 x1.Count)), (.v (.sl (x1.Core.map (cL Span.cs)))), (.v (.sl (x1.Odd.map Granule.cs)))]) H 0 rfl rfl rfl rfl rfl rfl rfl rfl rfl nofun ?_; intro σ H
  apply Ops.nil
  replace H := H.all
  apply Runs.then
  refine Runs.regionH 1 rfl H ?_; intro b3 σ H
  refine Ops.assign (v := .nils) rfl rfl ?_
  apply Ops.nil
  replace H := H.all
  apply Runs.then
  apply Runs.then
  refine Runs.regionH 4 rfl H ?_; intro b4 σ H
  refine Ops.fieldAddrH (off := 0) (fo := 3) H 2 rfl rfl rfl rfl rfl nofun rfl ?_
  refine Ops.loadH (off := 3) (v := (.v (.sl (f.Odd.map Granule.cs)))) H 2 rfl rfl rfl rfl rfl nofun rfl ?_
  refine Ops.lenPt (c := Granule.cs) (xs := f.Odd) rfl rfl rfl ?_
  refine Ops.move (v := (.v (.int .i64 0))) rfl rfl ?_
  apply Ops.nil
  replace H := H.all
  apply Runs.inBlock
  replace H := H.pushNil 45 2 true
  obtain ⟨y1, hj1, h⟩ := bind_some h
  obtain ⟨n1, hj1⟩ := loopO_iff.1 hj1
  refine Runs.mono (Runs.loopO hj1 (fun s2 e σ => ∃ (w3 : PV), EnvHas e [(2, (.ptr (b1 + 1) 4 0)), (3, (.ptr (b2 + 2) 4 0)), (4, w3), (10, (.v (.sl (f.Odd.map Granule.cs)))), (11, (.v (.int .i64 (f.Odd.length : Int)))), (12, (.v (.int .i64 s2.1)))] ∧ Hs σ [.sl w3 45 2 (s2.2.map Granule.cs) true, .blk (b2 + 2) 25 [(.v (.int .i64 x1.Period)), (.v (.int .i64 x1.Count)), (.v (.sl (x1.Core.map (cL Span.cs)))), (.v (.sl (x1.Odd.map Granule.cs)))], .blk (b1 + 1) 25 [(.v (.int .i64 0)), (.v (.int .i64 0)), .nils, .nils]]) (fun y1 x e σ => ∃ (w4 : PV), x = .exit 0 ∧ EnvHas e [(2, (.ptr (b1 + 1) 4 0)), (3, (.ptr (b2 + 2) 4 0)), (4, w4)] ∧ Hs σ [.sl w4 45 2 (y1.map Granule.cs) true, .blk (b2 + 2) 25 [(.v (.int .i64 x1.Period)), (.v (.int .i64 x1.Count)), (.v (.sl (x1.Core.map (cL Span.cs)))), (.v (.sl (x1.Odd.map Granule.cs)))], .blk (b1 + 1) 25 [(.v (.int .i64 0)), (.v (.int .i64 0)), .nils, .nils]]) ⟨.nils, ⟨rfl, rfl, rfl, rfl, rfl, rfl, trivial⟩, (H.erase 3)⟩ ?_) ?_
  · intro s2 e σ hI z h
    obtain ⟨w3, he, H⟩ := hI
    obtain ⟨e, rfl⟩ := he.ex
    unfold canon_Form.s0 at h
    apply Runs.then
    refine Runs.regionH 1 rfl H ?_; intro b5 σ H
    refine Ops.int (m := s2.1) (m' := (f.Odd.length : Int)) (r := .bool (decide (s2.1 < (f.Odd.length : Int)))) rfl rfl rfl rfl rfl ?_
    apply Ops.nil
    replace H := H.all
    apply Runs.then
    refine Runs.whether (v := (decide (s2.1 < (f.Odd.length : Int)))) rfl ?_ ?_ <;> intro hc1
    · replace h := cond_T hc1 h
      apply Runs.skip
      apply Runs.then
      obtain ⟨y2, hj2, h⟩ := bind_some h
      refine Runs.mono (Q := fun x e σ => ∃ (w5 : PV), x = .normal ∧ EnvHas e [(2, (.ptr (b1 + 1) 4 0)), (3, (.ptr (b2 + 2) 4 0)), (4, w5), (10, (.v (.sl (f.Odd.map Granule.cs)))), (11, (.v (.int .i64 (f.Odd.length : Int)))), (12, (.v (.int .i64 s2.1)))] ∧ Hs σ [.sl w5 45 2 (y2.map Granule.cs) true, .blk (b2 + 2) 25 [(.v (.int .i64 x1.Period)), (.v (.int .i64 x1.Count)), (.v (.sl (x1.Core.map (cL Span.cs)))), (.v (.sl (x1.Odd.map Granule.cs)))], .blk (b1 + 1) 25 [(.v (.int .i64 0)), (.v (.int .i64 0)), .nils, .nils]]) ?_ ?_
      · replace h := hj2
        apply Runs.inBlock
        obtain ⟨y3, hj3, h⟩ := bind_some h
        refine Runs.mono (Q := fun x e σ => ∃ (w6 : PV), x = .normal ∧ EnvHas e [(2, (.ptr (b1 + 1) 4 0)), (3, (.ptr (b2 + 2) 4 0)), (4, w6), (10, (.v (.sl (f.Odd.map Granule.cs)))), (11, (.v (.int .i64 (f.Odd.length : Int)))), (12, (.v (.int .i64 s2.1)))] ∧ Hs σ [.sl w6 45 2 (y3.map Granule.cs) true, .blk (b2 + 2) 25 [(.v (.int .i64 x1.Period)), (.v (.int .i64 x1.Count)), (.v (.sl (x1.Core.map (cL Span.cs)))), (.v (.sl (x1.Odd.map Granule.cs)))], .blk (b1 + 1) 25 [(.v (.int .i64 0)), (.v (.int .i64 0)), .nils, .nils]]) ?_ ?_
        · replace h := hj3
          apply Runs.then
          refine Runs.regionH 4 rfl H ?_; intro b6 σ H
          obtain ⟨x2, q2, h⟩ := bind_some h
          refine Ops.indexP (c := Granule.cs) (u := x2) rfl rfl q2 rfl rfl rfl rfl ?_
          refine Ops.loadPA (cs := [(.int .i64 x2.Index), (.sl (x2.Ticks.map Span.cs))]) rfl rfl rfl rfl rfl rfl ?_
          refine Ops.allocH (cs := [(.v (.int .i64 0)), .nils]) H (by omega) (by omega) rfl rfl ?_; intro σ H
          refine Ops.storeH (off := 0) (v := (.agg [(.v (.int .i64 x2.Index)), (.v (.sl (x2.Ticks.map Span.cs)))])) (ys := [(.v (.int .i64 x2.Index)), (.v (.sl (x2.Ticks.map Span.cs)))]) (cells' := [(.v (.int .i64 x2.Index)), (.v (.sl (x2.Ticks.map Span.cs)))]) H 0 rfl rfl rfl rfl rfl rfl rfl rfl rfl nofun ?_; intro σ H
          apply Ops.nil
          replace H := H.all
          apply Runs.then
          refine Runs.regionH 4 rfl H ?_; intro b7 σ H
          refine Ops.loadHA (off := 0) (cs := [(.v (.int .i64 x1.Period)), (.v (.int .i64 x1.Count)), (.v (.sl (x1.Core.map (cL Span.cs)))), (.v (.sl (x1.Odd.map Granule.cs)))]) H 2 rfl rfl rfl rfl rfl rfl rfl nofun rfl ?_
          refine Ops.loadHA (off := 0) (cs := [(.v (.int .i64 x2.Index)), (.v (.sl (x2.Ticks.map Span.cs)))]) H 0 rfl rfl rfl rfl rfl rfl rfl nofun rfl ?_
          obtain ⟨x3, q3, h⟩ := bind_some h
          refine Ops.call (ys := [(.agg [(.v (.int .i64 x1.Period)), (.v (.int .i64 x1.Count)), (.v (.sl (x1.Core.map (cL Span.cs)))), (.v (.sl (x1.Odd.map Granule.cs)))]), (.agg [(.v (.int .i64 x2.Index)), (.v (.sl (x2.Ticks.map Span.cs)))])]) (r := (.v (.bool x3))) rfl (canon_plain_fn q3) rfl ?_
          refine Ops.not (b := x3) rfl rfl ?_
          apply Ops.nil
          replace H := H.all
          refine Runs.whether (v := (!x3)) rfl ?_ ?_ <;> intro hc2
          · replace h := cond_T hc2 h
            refine Runs.drawnH 10 rfl (by kernel_rfl) H ?_; intro b8 σ H B8
            refine Ops.move (v := w3) rfl rfl ?_
            refine Ops.fieldAddrH (off := 0) (fo := 0) H 0 rfl rfl rfl rfl rfl (fun _ => .inl ⟨B8 0 _ rfl _ rfl, nofun⟩) rfl ?_
            refine Ops.loadH (off := 0) (v := (.v (.int .i64 x2.Index))) H 0 rfl rfl rfl rfl rfl (fun _ => .inl ⟨B8 0 _ rfl _ rfl, nofun⟩) rfl ?_
            refine Ops.fieldAddrH (off := 0) (fo := 1) H 0 rfl rfl rfl rfl rfl (fun _ => .inl ⟨B8 0 _ rfl _ rfl, nofun⟩) rfl ?_
            refine Ops.loadH (off := 1) (v := (.v (.sl (x2.Ticks.map Span.cs)))) H 0 rfl rfl rfl rfl rfl (fun _ => .inl ⟨B8 0 _ rfl _ rfl, nofun⟩) rfl ?_
            obtain ⟨x4, q4, h⟩ := bind_some h
            refine Ops.call (ys := [(.v (.sl (x2.Ticks.map Span.cs)))]) (r := (.v (.sl (x4.map Span.cs)))) rfl (slices_Clone_SSpan_Span_fn q4) rfl ?_
            refine Ops.buildA (cs := [(.v (.int .i64 x2.Index)), (.v (.sl (x4.map Span.cs)))]) rfl rfl ?_
            refine Ops.buildS (sz := 2) ([(Granule.mk x2.Index x4)].map Granule.cs) H (by omega) (by omega) rfl rfl rfl rfl rfl rfl rfl rfl rfl ?_; intro σ H
            obtain ⟨x5, q5, h⟩ := bind_some h
            refine Ops.appendSt (c := Granule.cs) (v := w3) (w := (.buf (b8 + 7) 1 2)) (xs := s2.2) (ys := [(Granule.mk x2.Index x4)]) H (by omega) (by omega) 2 rfl rfl rfl (.s 0 rfl) q5 rfl rfl rfl rfl rfl (fun h => ⟨(fun id ho => .inl ⟨B8 1 _ rfl id ho, (fun _ => by kernel_rfl)⟩), (fun id ho => .inr ⟨7, (by cases ho; rfl), (fun h => nomatch h), by kernel_rfl, by decide⟩)⟩) rfl ?_; intro w7 σ H
            refine Ops.assign (v := w7) rfl rfl ?_
            apply Ops.nil
            replace H := H.all
            replace h := Option.some.inj h; subst h
            exact ⟨w7, rfl, ⟨rfl, rfl, rfl, rfl, rfl, rfl, trivial⟩, ((H.erase 1).erase 0)⟩
          · replace h := cond_F hc2 h
            apply Runs.skip
            replace h := Option.some.inj h; subst h
            exact ⟨w3, rfl, ⟨rfl, rfl, rfl, rfl, rfl, rfl, trivial⟩, (H.erase 0)⟩
        · rintro x e σ ⟨w8, rfl, he, H⟩
          obtain ⟨e, rfl⟩ := he.ex
          replace h := Option.some.inj h; subst h
          exact ⟨w8, rfl, ⟨rfl, rfl, rfl, rfl, rfl, rfl, trivial⟩, H⟩
      · rintro x e σ ⟨w9, rfl, he, H⟩
        obtain ⟨e, rfl⟩ := he.ex
        refine Runs.regionH 2 rfl H ?_; intro b9 σ H
        refine Ops.int (m := s2.1) (m' := 1) (r := .int .i64 (w64 (s2.1 + 1))) rfl rfl rfl rfl rfl ?_
        refine Ops.move (v := (.v (.int .i64 (w64 (s2.1 + 1))))) rfl rfl ?_
        apply Ops.nil
        replace H := H.all
        replace h := Option.some.inj h; subst h
        exact ⟨rfl, w9, ⟨rfl, rfl, rfl, rfl, rfl, rfl, trivial⟩, H⟩
    · replace h := cond_F hc1 h
      apply Runs.exit
      replace h := Option.some.inj h; subst h
      exact ⟨nofun, ⟨w3, rfl, ⟨rfl, rfl, rfl, trivial⟩, H⟩⟩
  · rintro x e σ ⟨w10, rfl, he, H⟩
    obtain ⟨e, rfl⟩ := he.ex
    apply Runs.then
    refine Runs.regionH 3 rfl H ?_; intro b10 σ H
    refine Ops.move (v := w10) rfl rfl ?_
    refine Ops.fieldAddrH (off := 0) (fo := 3) H 1 rfl rfl rfl rfl rfl nofun rfl ?_
    refine Ops.storeH (off := 3) (v := w10) (ys := [w10]) (cells' := [(.v (.int .i64 x1.Period)), (.v (.int .i64 x1.Count)), (.v (.sl (x1.Core.map (cL Span.cs)))), w10]) H 1 rfl rfl rfl rfl (H.slCells (k := 0) rfl) rfl rfl rfl rfl nofun ?_; intro σ H
    apply Ops.nil
    replace H := H.all
    apply Runs.then
    refine Runs.regionH 2 rfl H ?_; intro b11 σ H
    refine Ops.loadHA (off := 0) (cs := [(.v (.int .i64 x1.Period)), (.v (.int .i64 x1.Count)), (.v (.sl (x1.Core.map (cL Span.cs)))), w10]) H 1 rfl rfl rfl rfl rfl rfl rfl nofun rfl ?_
    refine Ops.storeH (off := 0) (v := (.agg [(.v (.int .i64 x1.Period)), (.v (.int .i64 x1.Count)), (.v (.sl (x1.Core.map (cL Span.cs)))), w10])) (ys := [(.v (.int .i64 x1.Period)), (.v (.int .i64 x1.Count)), (.v (.sl (x1.Core.map (cL Span.cs)))), w10]) (cells' := [(.v (.int .i64 x1.Period)), (.v (.int .i64 x1.Count)), (.v (.sl (x1.Core.map (cL Span.cs)))), w10]) H 2 rfl rfl rfl rfl rfl rfl rfl rfl rfl nofun ?_; intro σ H
    apply Ops.nil
    replace H := H.all
    apply Runs.ret
    replace h := Option.some.inj h; subst h
    exact (Ends.H (xs := [(.agg [(.v (.int .i64 x1.Period)), (.v (.int .i64 x1.Count)), (.v (.sl (x1.Core.map (cL Span.cs)))), w10])]) (.inr rfl) H (.agg (cs := [(.v (.int .i64 x1.Period)), (.v (.int .i64 x1.Count)), (.v (.sl (x1.Core.map (cL Span.cs)))), w10]) (off := 0) 2 rfl rfl rfl rfl rfl rfl rfl .nil) (.one (.a (.cons (.v _) (.cons (.v _) (.cons (.v _) (.cons (.s 0 rfl) .nil)))))))

set_option maxRecDepth 100000 in
set_option maxHeartbeats 4000000 in
theorem slices_EqualFunc_SSSpan_SSSpan_SSpan_SSpan_fn {s1' : (List (List Span))} {s2' : (List (List Span))} {eq : (List Span) → (List Span) → Option Bool} {C : List Res} {cv0 : PV} (hs0 : cv0.still = true) (hp0 : cv0.pure = true → C = []) (hf0 : ∀ z0 z1 y, eq z0 z1 = some y → CloH CX cv0 [(.v (.sl (z0.map Span.cs))), (.v (.sl (z1.map Span.cs)))] (.v (.bool y)) C) {r : Bool} (h : slices_EqualFunc_SSSpan_SSSpan_SSpan_SSpan s1' s2' eq = some r) : FnH CX 68 [(.v (.sl (s1'.map (cL Span.cs)))), (.v (.sl (s2'.map (cL Span.cs)))), cv0] (.v (.bool r)) C := by
  refine FnH.of Try.func68 rfl rfl rfl rfl (all_t rfl (all_t rfl (all_t hs0 all_nil))) rfl (fun h => hp0 (all_get h 2 rfl)) ?_
  intro σ L hC H
  unfold slices_EqualFunc_SSSpan_SSSpan_SSpan_SSpan at h
  apply Runs.then
  refine Runs.regionH 1 rfl H ?_; intro b1 σ H
  refine Ops.assign (v := (.v (.bool false))) rfl rfl ?_
  apply Ops.nil
  replace H := H.all
  apply Runs.then
  apply Runs.then
  refine Runs.regionH 5 rfl H ?_; intro b2 σ H
  refine Ops.move (v := (.v (.sl (s1'.map (cL Span.cs))))) rfl rfl ?_
  refine Ops.lenPt (c := (cL Span.cs)) (xs := s1') rfl rfl rfl ?_
  refine Ops.move (v := (.v (.sl (s2'.map (cL Span.cs))))) rfl rfl ?_
  refine Ops.lenPt (c := (cL Span.cs)) (xs := s2') rfl rfl rfl ?_
  refine Ops.int (m := (s1'.length : Int)) (m' := (s2'.length : Int)) (r := .bool ((s1'.length : Int) != (s2'.length : Int))) rfl rfl rfl rfl rfl ?_
  apply Ops.nil
  replace H := H.all
  refine Runs.whether (v := ((s1'.length : Int) != (s2'.length : Int))) rfl ?_ ?_ <;> intro hc1
  · replace h := cond_T hc1 h
    apply Runs.then
    refine Runs.regionH 1 rfl H ?_; intro b3 σ H
    refine Ops.assign (v := (.v (.bool false))) rfl rfl ?_
    apply Ops.nil
    replace H := H.all
    apply Runs.ret
    replace h := Option.some.inj h; subst h
    exact (EndsH.H (xs := [(.v (.bool false))]) (.inr rfl) H (.tmp (v := (.v (.bool false))) rfl .nil) (.one (.c (.v _))) 0 rfl)
  · replace h := cond_F hc1 h
    apply Runs.skip
    apply Runs.then
    apply Runs.then
    refine Runs.regionH 3 rfl H ?_; intro b4 σ H
    refine Ops.move (v := (.v (.sl (s1'.map (cL Span.cs))))) rfl rfl ?_
    refine Ops.lenPt (c := (cL Span.cs)) (xs := s1') rfl rfl rfl ?_
    refine Ops.move (v := (.v (.int .i64 0))) rfl rfl ?_
    apply Ops.nil
    replace H := H.all
    apply Runs.inBlock
    obtain ⟨y1, hj1, h⟩ := bind_some h
    obtain ⟨n1, hj1⟩ := loopO_iff.1 hj1
    refine Runs.mono (Runs.loopO hj1 (fun s1 e σ => EnvHas e [(1, (.v (.sl (s2'.map (cL Span.cs))))), (2, cv0), (15, (.v (.sl (s1'.map (cL Span.cs))))), (16, (.v (.int .i64 (s1'.length : Int)))), (17, (.v (.int .i64 s1)))] ∧ Hs σ (L)) (fun y1 x e σ => (∃ a1, y1 = (.go a1) ∧ x = .exit 0 ∧ EnvHas e [] ∧ Hs σ (L)) ∨ (∃ r', y1 = (.ret r') ∧ x = .ret ∧ EndsH CX Try.f68.results.toList (.v (.bool r')) L x e σ)) ⟨⟨rfl, rfl, rfl, rfl, rfl, trivial⟩, H⟩ ?_) ?_
    · intro s1 e σ hI z h
      obtain ⟨he, H⟩ := hI
      obtain ⟨e, rfl⟩ := he.ex
      unfold slices_EqualFunc_SSSpan_SSSpan_SSpan_SSpan.s0 at h
      apply Runs.then
      refine Runs.regionH 1 rfl H ?_; intro b5 σ H
      refine Ops.int (m := s1) (m' := (s1'.length : Int)) (r := .bool (decide (s1 < (s1'.length : Int)))) rfl rfl rfl rfl rfl ?_
      apply Ops.nil
      replace H := H.all
      apply Runs.then
      refine Runs.whether (v := (decide (s1 < (s1'.length : Int)))) rfl ?_ ?_ <;> intro hc2
      · replace h := cond_T hc2 h
        apply Runs.skip
        apply Runs.then
        apply Runs.inBlock
        apply Runs.then
        refine Runs.regionH 5 rfl H ?_; intro b6 σ H
        refine Ops.move (v := (.v (.int .i64 s1))) rfl rfl ?_
        obtain ⟨x1, q1, h⟩ := bind_some h
        refine Ops.indexP (c := (cL Span.cs)) (u := x1) rfl rfl q1 rfl rfl rfl rfl ?_
        refine Ops.loadP (u := (.sl (x1.map Span.cs))) rfl rfl rfl rfl ?_
        refine Ops.assign (v := (.v (.int .i64 s1))) rfl rfl ?_
        refine Ops.assign (v := (.v (.sl (x1.map Span.cs)))) rfl rfl ?_
        apply Ops.nil
        replace H := H.all
        apply Runs.then
        refine Runs.regionH 5 rfl H ?_; intro b7 σ H
        refine Ops.move (v := (.v (.sl (s2'.map (cL Span.cs))))) rfl rfl ?_
        refine Ops.move (v := (.v (.int .i64 s1))) rfl rfl ?_
        obtain ⟨x2, q2, h⟩ := bind_some h
        refine Ops.indexP (c := (cL Span.cs)) (u := x2) rfl rfl q2 rfl rfl rfl rfl ?_
        refine Ops.loadP (u := (.sl (x2.map Span.cs))) rfl rfl rfl rfl ?_
        refine Ops.assign (v := (.v (.sl (x2.map Span.cs)))) rfl rfl ?_
        apply Ops.nil
        replace H := H.all
        apply Runs.then
        refine Runs.regionH 5 rfl H ?_; intro b8 σ H
        refine Ops.move (v := cv0) rfl rfl ?_
        refine Ops.move (v := (.v (.sl (x1.map Span.cs)))) rfl rfl ?_
        refine Ops.move (v := (.v (.sl (x2.map Span.cs)))) rfl rfl ?_
        obtain ⟨x3, q3, h⟩ := bind_some h
        refine Ops.callV (cv := cv0) (ys := [(.v (.sl (x1.map Span.cs))), (.v (.sl (x2.map Span.cs)))]) (r := (.v (.bool x3))) H rfl rfl (hf0 x1 x2 _ q3) hC nofun rfl ?_; intro σ H
        refine Ops.not (b := x3) rfl rfl ?_
        apply Ops.nil
        replace H := H.all
        refine Runs.whether (v := (!x3)) rfl ?_ ?_ <;> intro hc3
        · replace h := cond_T hc3 h
          apply Runs.then
          refine Runs.regionH 1 rfl H ?_; intro b9 σ H
          refine Ops.assign (v := (.v (.bool false))) rfl rfl ?_
          apply Ops.nil
          replace H := H.all
          apply Runs.ret
          replace h := Option.some.inj h; subst h
          exact ⟨nofun, (.inr ⟨_, rfl, rfl, (EndsH.H (xs := [(.v (.bool false))]) (.inr rfl) H (.tmp (v := (.v (.bool false))) rfl .nil) (.one (.c (.v _))) 0 rfl)⟩)⟩
        · replace h := cond_F hc3 h
          apply Runs.skip
          refine Runs.regionH 2 rfl H ?_; intro b10 σ H
          refine Ops.int (m := s1) (m' := 1) (r := .int .i64 (w64 (s1 + 1))) rfl rfl rfl rfl rfl ?_
          refine Ops.move (v := (.v (.int .i64 (w64 (s1 + 1))))) rfl rfl ?_
          apply Ops.nil
          replace H := H.all
          replace h := Option.some.inj h; subst h
          exact ⟨rfl, ⟨rfl, rfl, rfl, rfl, rfl, trivial⟩, H⟩
      · replace h := cond_F hc2 h
        apply Runs.exit
        replace h := Option.some.inj h; subst h
        exact ⟨nofun, (.inl ⟨_, rfl, rfl, trivial, H⟩)⟩
    · rintro x e σ (⟨a2, rfl, rfl, he, H⟩ | ⟨r', rfl, rfl, hE⟩)
      · skip
        replace h := jgo h
        obtain ⟨e, rfl⟩ := he.ex
        apply Runs.then
        refine Runs.regionH 1 rfl H ?_; intro b11 σ H
        refine Ops.assign (v := (.v (.bool true))) rfl rfl ?_
        apply Ops.nil
        replace H := H.all
        apply Runs.ret
        replace h := Option.some.inj h; subst h
        exact (EndsH.H (xs := [(.v (.bool true))]) (.inr rfl) H (.tmp (v := (.v (.bool true))) rfl .nil) (.one (.c (.v _))) 0 rfl)
      · skip
        replace h := jret h
        replace h := Option.some.inj h; subst h
        exact hE

set_option maxRecDepth 100000 in
set_option maxHeartbeats 4000000 in
theorem slices_EqualFunc_SGranule_SGranule_Granule_Granule_fn {s1' : (List Granule)} {s2' : (List Granule)} {eq : Granule → Granule → Option Bool} {C : List Res} {cv0 : PV} (hs0 : cv0.still = true) (hp0 : cv0.pure = true → C = []) (hf0 : ∀ z0 z1 y, eq z0 z1 = some y → CloH CX cv0 [(.agg (vs (Granule.cs z0))), (.agg (vs (Granule.cs z1)))] (.v (.bool y)) C) {r : Bool} (h : slices_EqualFunc_SGranule_SGranule_Granule_Granule s1' s2' eq = some r) : FnH CX 69 [(.v (.sl (s1'.map Granule.cs))), (.v (.sl (s2'.map Granule.cs))), cv0] (.v (.bool r)) C := by
  refine FnH.of Try.func69 rfl rfl rfl rfl (all_t rfl (all_t rfl (all_t hs0 all_nil))) rfl (fun h => hp0 (all_get h 2 rfl)) ?_
  intro σ L hC H
  unfold slices_EqualFunc_SGranule_SGranule_Granule_Granule at h
  apply Runs.then
  refine Runs.regionH 1 rfl H ?_; intro b1 σ H
  refine Ops.assign (v := (.v (.bool false))) rfl rfl ?_
  apply Ops.nil
  replace H := H.all
  apply Runs.then
  apply Runs.then
  refine Runs.regionH 5 rfl H ?_; intro b2 σ H
  refine Ops.move (v := (.v (.sl (s1'.map Granule.cs)))) rfl rfl ?_
  refine Ops.lenPt (c := Granule.cs) (xs := s1') rfl rfl rfl ?_
  refine Ops.move (v := (.v (.sl (s2'.map Granule.cs)))) rfl rfl ?_
  refine Ops.lenPt (c := Granule.cs) (xs := s2') rfl rfl rfl ?_
  refine Ops.int (m := (s1'.length : Int)) (m' := (s2'.length : Int)) (r := .bool ((s1'.length : Int) != (s2'.length : Int))) rfl rfl rfl rfl rfl ?_
  apply Ops.nil
  replace H := H.all
  refine Runs.whether (v := ((s1'.length : Int) != (s2'.length : Int))) rfl ?_ ?_ <;> intro hc1
  · replace h := cond_T hc1 h
    apply Runs.then
    refine Runs.regionH 1 rfl H ?_; intro b3 σ H
    refine Ops.assign (v := (.v (.bool false))) rfl rfl ?_
    apply Ops.nil
    replace H := H.all
    apply Runs.ret
    replace h := Option.some.inj h; subst h
    exact (EndsH.H (xs := [(.v (.bool false))]) (.inr rfl) H (.tmp (v := (.v (.bool false))) rfl .nil) (.one (.c (.v _))) 0 rfl)
  · replace h := cond_F hc1 h
    apply Runs.skip
    apply Runs.then
    apply Runs.then
    refine Runs.regionH 3 rfl H ?_; intro b4 σ H
    refine Ops.move (v := (.v (.sl (s1'.map Granule.cs)))) rfl rfl ?_
    refine Ops.lenPt (c := Granule.cs) (xs := s1') rfl rfl rfl ?_
    refine Ops.move (v := (.v (.int .i64 0))) rfl rfl ?_
    apply Ops.nil
    replace H := H.all
    apply Runs.inBlock
    obtain ⟨y1, hj1, h⟩ := bind_some h
    obtain ⟨n1, hj1⟩ := loopO_iff.1 hj1
    refine Runs.mono (Runs.loopO hj1 (fun s1 e σ => EnvHas e [(1, (.v (.sl (s2'.map Granule.cs)))), (2, cv0), (15, (.v (.sl (s1'.map Granule.cs)))), (16, (.v (.int .i64 (s1'.length : Int)))), (17, (.v (.int .i64 s1)))] ∧ Hs σ (L)) (fun y1 x e σ => (∃ a1, y1 = (.go a1) ∧ x = .exit 0 ∧ EnvHas e [] ∧ Hs σ (L)) ∨ (∃ r', y1 = (.ret r') ∧ x = .ret ∧ EndsH CX Try.f69.results.toList (.v (.bool r')) L x e σ)) ⟨⟨rfl, rfl, rfl, rfl, rfl, trivial⟩, H⟩ ?_) ?_
    · intro s1 e σ hI z h
      obtain ⟨he, H⟩ := hI
      obtain ⟨e, rfl⟩ := he.ex
      unfold slices_EqualFunc_SGranule_SGranule_Granule_Granule.s0 at h
      apply Runs.then
      refine Runs.regionH 1 rfl H ?_; intro b5 σ H
      refine Ops.int (m := s1) (m' := (s1'.length : Int)) (r := .bool (decide (s1 < (s1'.length : Int)))) rfl rfl rfl rfl rfl ?_
      apply Ops.nil
      replace H := H.all
      apply Runs.then
      refine Runs.whether (v := (decide (s1 < (s1'.length : Int)))) rfl ?_ ?_ <;> intro hc2
      · replace h := cond_T hc2 h
        apply Runs.skip
        apply Runs.then
        apply Runs.inBlock
        apply Runs.then
        refine Runs.regionH 6 rfl H ?_; intro b6 σ H
        refine Ops.move (v := (.v (.int .i64 s1))) rfl rfl ?_
        obtain ⟨x1, q1, h⟩ := bind_some h
        refine Ops.indexP (c := Granule.cs) (u := x1) rfl rfl q1 rfl rfl rfl rfl ?_
        refine Ops.loadPA (cs := [(.int .i64 x1.Index), (.sl (x1.Ticks.map Span.cs))]) rfl rfl rfl rfl rfl rfl ?_
        refine Ops.allocH (cs := [(.v (.int .i64 0)), .nils]) H (by omega) (by omega) rfl rfl ?_; intro σ H
        refine Ops.assign (v := (.v (.int .i64 s1))) rfl rfl ?_
        refine Ops.storeH (off := 0) (v := (.agg [(.v (.int .i64 x1.Index)), (.v (.sl (x1.Ticks.map Span.cs)))])) (ys := [(.v (.int .i64 x1.Index)), (.v (.sl (x1.Ticks.map Span.cs)))]) (cells' := [(.v (.int .i64 x1.Index)), (.v (.sl (x1.Ticks.map Span.cs)))]) H 0 rfl rfl rfl rfl rfl rfl rfl rfl rfl nofun ?_; intro σ H
        apply Ops.nil
        replace H := H.all
        apply Runs.then
        refine Runs.regionH 6 rfl H ?_; intro b7 σ H
        refine Ops.move (v := (.v (.sl (s2'.map Granule.cs)))) rfl rfl ?_
        refine Ops.move (v := (.v (.int .i64 s1))) rfl rfl ?_
        obtain ⟨x2, q2, h⟩ := bind_some h
        refine Ops.indexP (c := Granule.cs) (u := x2) rfl rfl q2 rfl rfl rfl rfl ?_
        refine Ops.loadPA (cs := [(.int .i64 x2.Index), (.sl (x2.Ticks.map Span.cs))]) rfl rfl rfl rfl rfl rfl ?_
        refine Ops.allocH (cs := [(.v (.int .i64 0)), .nils]) H (by omega) (by omega) rfl rfl ?_; intro σ H
        refine Ops.storeH (off := 0) (v := (.agg [(.v (.int .i64 x2.Index)), (.v (.sl (x2.Ticks.map Span.cs)))])) (ys := [(.v (.int .i64 x2.Index)), (.v (.sl (x2.Ticks.map Span.cs)))]) (cells' := [(.v (.int .i64 x2.Index)), (.v (.sl (x2.Ticks.map Span.cs)))]) H 0 rfl rfl rfl rfl rfl rfl rfl rfl rfl nofun ?_; intro σ H
        apply Ops.nil
        replace H := H.all
        apply Runs.then
        refine Runs.regionH 5 rfl H ?_; intro b8 σ H
        refine Ops.move (v := cv0) rfl rfl ?_
        refine Ops.loadHA (off := 0) (cs := [(.v (.int .i64 x1.Index)), (.v (.sl (x1.Ticks.map Span.cs)))]) H 1 rfl rfl rfl rfl rfl rfl rfl nofun rfl ?_
        refine Ops.loadHA (off := 0) (cs := [(.v (.int .i64 x2.Index)), (.v (.sl (x2.Ticks.map Span.cs)))]) H 0 rfl rfl rfl rfl rfl rfl rfl nofun rfl ?_
        obtain ⟨x3, q3, h⟩ := bind_some h
        refine Ops.callV (cv := cv0) (ys := [(.agg (vs (Granule.cs x1))), (.agg (vs (Granule.cs x2)))]) (r := (.v (.bool x3))) H rfl rfl (hf0 x1 x2 _ q3) hC.push.push nofun rfl ?_; intro σ H
        refine Ops.not (b := x3) rfl rfl ?_
        apply Ops.nil
        replace H := H.all
        refine Runs.whether (v := (!x3)) rfl ?_ ?_ <;> intro hc3
        · replace h := cond_T hc3 h
          apply Runs.then
          refine Runs.regionH 1 rfl H ?_; intro b9 σ H
          refine Ops.assign (v := (.v (.bool false))) rfl rfl ?_
          apply Ops.nil
          replace H := H.all
          apply Runs.ret
          replace h := Option.some.inj h; subst h
          exact ⟨nofun, (.inr ⟨_, rfl, rfl, (EndsH.H (xs := [(.v (.bool false))]) (.inr rfl) H (.tmp (v := (.v (.bool false))) rfl .nil) (.one (.c (.v _))) 2 rfl)⟩)⟩
        · replace h := cond_F hc3 h
          apply Runs.skip
          refine Runs.regionH 2 rfl H ?_; intro b10 σ H
          refine Ops.int (m := s1) (m' := 1) (r := .int .i64 (w64 (s1 + 1))) rfl rfl rfl rfl rfl ?_
          refine Ops.move (v := (.v (.int .i64 (w64 (s1 + 1))))) rfl rfl ?_
          apply Ops.nil
          replace H := H.all
          replace h := Option.some.inj h; subst h
          exact ⟨rfl, ⟨rfl, rfl, rfl, rfl, rfl, trivial⟩, ((H.erase 1).erase 0)⟩
      · replace h := cond_F hc2 h
        apply Runs.exit
        replace h := Option.some.inj h; subst h
        exact ⟨nofun, (.inl ⟨_, rfl, rfl, trivial, H⟩)⟩
    · rintro x e σ (⟨a2, rfl, rfl, he, H⟩ | ⟨r', rfl, rfl, hE⟩)
      · skip
        replace h := jgo h
        obtain ⟨e, rfl⟩ := he.ex
        apply Runs.then
        refine Runs.regionH 1 rfl H ?_; intro b11 σ H
        refine Ops.assign (v := (.v (.bool true))) rfl rfl ?_
        apply Ops.nil
        replace H := H.all
        apply Runs.ret
        replace h := Option.some.inj h; subst h
        exact (EndsH.H (xs := [(.v (.bool true))]) (.inr rfl) H (.tmp (v := (.v (.bool true))) rfl .nil) (.one (.c (.v _))) 0 rfl)
      · skip
        replace h := jret h
        replace h := Option.some.inj h; subst h
        exact hE

end Go.Dn

set_option linter.unusedVariables false
set_option linter.unusedSimpArgs false
namespace Go.Dn
open Go Go.Proofs

set_option maxRecDepth 100000 in
set_option maxHeartbeats 4000000 in
theorem canon_equal_1_fn {x' : Granule} {y : Granule} {r : Bool} (h : canon_equal_1 x' y = some r) : Fn CX 70 [(.agg (vs (Granule.cs x'))), (.agg (vs (Granule.cs y)))] (.v (.bool r)) := by
  refine Fn.ends Try.func70 rfl rfl rfl rfl rfl rfl ?_
  have H : Hs (⟨0, fun _ => .none⟩ : Heap) [] := Has.nil (Nat.le_refl _)
  generalize (⟨0, fun _ => .none⟩ : Heap) = σ at H ⊢
  unfold canon_equal_1 at h
  apply Runs.then
  refine Runs.regionH 3 rfl H ?_; intro b1 σ H
  refine Ops.boxH (v := (.agg [(.v (.int .i64 x'.Index)), (.v (.sl (x'.Ticks.map Span.cs)))])) (cs := [(.v (.int .i64 x'.Index)), (.v (.sl (x'.Ticks.map Span.cs)))]) H (by omega) (by omega) rfl rfl rfl ?_; intro σ H
  refine Ops.boxH (v := (.agg [(.v (.int .i64 y.Index)), (.v (.sl (y.Ticks.map Span.cs)))])) (cs := [(.v (.int .i64 y.Index)), (.v (.sl (y.Ticks.map Span.cs)))]) H (by omega) (by omega) rfl rfl rfl ?_; intro σ H
  refine Ops.assign (v := (.v (.bool false))) rfl rfl ?_
  apply Ops.nil
  replace H := H.all
  apply Runs.then
  refine Runs.regionH 13 rfl H ?_; intro b2 σ H
  refine Ops.fieldAddrH (off := 0) (fo := 0) H 1 rfl rfl rfl rfl rfl nofun rfl ?_
  refine Ops.loadH (off := 0) (v := (.v (.int .i64 x'.Index))) H 1 rfl rfl rfl rfl rfl nofun rfl ?_
  refine Ops.fieldAddrH (off := 0) (fo := 0) H 0 rfl rfl rfl rfl rfl nofun rfl ?_
  refine Ops.loadH (off := 0) (v := (.v (.int .i64 y.Index))) H 0 rfl rfl rfl rfl rfl nofun rfl ?_
  refine Ops.int (m := x'.Index) (m' := y.Index) (r := .bool (x'.Index == y.Index)) rfl rfl rfl rfl rfl ?_
  refine Ops.move (v := (.v (.bool (x'.Index == y.Index)))) rfl rfl ?_
  obtain ⟨y1, hj1, h⟩ := bind_some h
  refine Ops.mid 6 (K1 := fun e σ => EnvHas e [(16, (.v (.bool y1)))] ∧ Has σ (b2 + 12) (b2 + 13) []) rfl ?_ ?_
  · refine Ops.split rfl rfl ?_ ?_ <;> intro hc1
    · replace h := cond_T hc1 hj1
      refine Ops.wanted rfl rfl ?_
      refine Ops.fieldAddrH (off := 0) (fo := 1) H 1 rfl rfl rfl rfl rfl nofun rfl ?_
      refine Ops.wanted rfl rfl ?_
      refine Ops.loadH (off := 1) (v := (.v (.sl (x'.Ticks.map Span.cs)))) H 1 rfl rfl rfl rfl rfl nofun rfl ?_
      refine Ops.wanted rfl rfl ?_
      refine Ops.fieldAddrH (off := 0) (fo := 1) H 0 rfl rfl rfl rfl rfl nofun rfl ?_
      refine Ops.wanted rfl rfl ?_
      refine Ops.loadH (off := 1) (v := (.v (.sl (y.Ticks.map Span.cs)))) H 0 rfl rfl rfl rfl rfl nofun rfl ?_
      refine Ops.wanted rfl rfl ?_
      obtain ⟨x1, q1, h⟩ := bind_some h
      refine Ops.call (ys := [(.v (.sl (x'.Ticks.map Span.cs))), (.v (.sl (y.Ticks.map Span.cs)))]) (r := (.v (.bool x1))) rfl (spans_Same_fn q1) rfl ?_
      refine Ops.pickT (v := (.v (.bool x1))) rfl rfl rfl ?_
      apply Ops.nil
      replace h := Option.some.inj h; subst h
      exact ⟨⟨rfl, trivial⟩, ((H.erase 1).erase 0).weak (by omega) (Nat.le_refl _)⟩
    · replace h := cond_F hc1 hj1
      refine Ops.pass rfl rfl rfl ?_
      refine Ops.pass rfl rfl rfl ?_
      refine Ops.pass rfl rfl rfl ?_
      refine Ops.pass rfl rfl rfl ?_
      refine Ops.pass rfl rfl rfl ?_
      refine Ops.pickF (v := (.v (.bool false))) rfl rfl rfl ?_
      apply Ops.nil
      replace h := Option.some.inj h; subst h
      exact ⟨⟨rfl, trivial⟩, ((H.erase 1).erase 0).weak (by omega) (Nat.le_refl _)⟩
  · rintro e σ ⟨he, H⟩
    obtain ⟨e, rfl⟩ := he.ex
    refine Ops.assign (v := (.v (.bool y1))) rfl rfl ?_
    apply Ops.nil
    replace H := H.all
    apply Runs.ret
    replace h := Option.some.inj h; subst h
    exact (Ends.H (xs := [(.v (.bool y1))]) (.inr rfl) H (.tmp (v := (.v (.bool y1))) rfl .nil) (.one (.c (.v _))))

set_option maxRecDepth 100000 in
set_option maxHeartbeats 4000000 in
theorem canon_equal_fn {a : Form} {b : Form} {r : Bool} (h : canon_equal a b = some r) : Fn CX 55 [(.agg (vs (Form.cs a))), (.agg (vs (Form.cs b)))] (.v (.bool r)) := by
  refine Fn.ends Try.func55 rfl rfl rfl rfl rfl rfl ?_
  have H : Hs (⟨0, fun _ => .none⟩ : Heap) [] := Has.nil (Nat.le_refl _)
  generalize (⟨0, fun _ => .none⟩ : Heap) = σ at H ⊢
  unfold canon_equal at h
  apply Runs.then
  refine Runs.regionH 3 rfl H ?_; intro b1 σ H
  refine Ops.boxH (v := (.agg [(.v (.int .i64 a.Period)), (.v (.int .i64 a.Count)), (.v (.sl (a.Core.map (cL Span.cs)))), (.v (.sl (a.Odd.map Granule.cs)))])) (cs := [(.v (.int .i64 a.Period)), (.v (.int .i64 a.Count)), (.v (.sl (a.Core.map (cL Span.cs)))), (.v (.sl (a.Odd.map Granule.cs)))]) H (by omega) (by omega) rfl rfl rfl ?_; intro σ H
  refine Ops.boxH (v := (.agg [(.v (.int .i64 b.Period)), (.v (.int .i64 b.Count)), (.v (.sl (b.Core.map (cL Span.cs)))), (.v (.sl (b.Odd.map Granule.cs)))])) (cs := [(.v (.int .i64 b.Period)), (.v (.int .i64 b.Count)), (.v (.sl (b.Core.map (cL Span.cs)))), (.v (.sl (b.Odd.map Granule.cs)))]) H (by omega) (by omega) rfl rfl rfl ?_; intro σ H
  refine Ops.assign (v := (.v (.bool false))) rfl rfl ?_
  apply Ops.nil
  replace H := H.all
  apply Runs.then
  refine Runs.regionH 27 rfl H ?_; intro b2 σ H
  refine Ops.fieldAddrH (off := 0) (fo := 0) H 1 rfl rfl rfl rfl rfl nofun rfl ?_
  refine Ops.loadH (off := 0) (v := (.v (.int .i64 a.Period))) H 1 rfl rfl rfl rfl rfl nofun rfl ?_
  refine Ops.fieldAddrH (off := 0) (fo := 0) H 0 rfl rfl rfl rfl rfl nofun rfl ?_
  refine Ops.loadH (off := 0) (v := (.v (.int .i64 b.Period))) H 0 rfl rfl rfl rfl rfl nofun rfl ?_
  refine Ops.int (m := a.Period) (m' := b.Period) (r := .bool (a.Period == b.Period)) rfl rfl rfl rfl rfl ?_
  refine Ops.move (v := (.v (.bool (a.Period == b.Period)))) rfl rfl ?_
  refine Ops.mid 6 (K1 := fun e σ => EnvHas e [(16, (.v (.bool ((a.Period == b.Period) && (a.Count == b.Count))))), (2, (.ptr (b1 + 0) 4 0)), (3, (.ptr (b1 + 1) 4 0))] ∧ Has σ (b2 + 12) (b2 + 27) [.blk (b1 + 1) 25 [(.v (.int .i64 b.Period)), (.v (.int .i64 b.Count)), (.v (.sl (b.Core.map (cL Span.cs)))), (.v (.sl (b.Odd.map Granule.cs)))], .blk (b1 + 0) 25 [(.v (.int .i64 a.Period)), (.v (.int .i64 a.Count)), (.v (.sl (a.Core.map (cL Span.cs)))), (.v (.sl (a.Odd.map Granule.cs)))]]) rfl ?_ ?_
  · refine Ops.split rfl rfl ?_ ?_ <;> intro hc1
    · skip
      refine Ops.wanted rfl rfl ?_
      refine Ops.fieldAddrH (off := 0) (fo := 1) H 1 rfl rfl rfl rfl rfl nofun rfl ?_
      refine Ops.wanted rfl rfl ?_
      refine Ops.loadH (off := 1) (v := (.v (.int .i64 a.Count))) H 1 rfl rfl rfl rfl rfl nofun rfl ?_
      refine Ops.wanted rfl rfl ?_
      refine Ops.fieldAddrH (off := 0) (fo := 1) H 0 rfl rfl rfl rfl rfl nofun rfl ?_
      refine Ops.wanted rfl rfl ?_
      refine Ops.loadH (off := 1) (v := (.v (.int .i64 b.Count))) H 0 rfl rfl rfl rfl rfl nofun rfl ?_
      refine Ops.wanted rfl rfl ?_
      refine Ops.int (m := a.Count) (m' := b.Count) (r := .bool (a.Count == b.Count)) rfl rfl rfl rfl rfl ?_
      refine Ops.pickT (v := (.v (.bool (a.Count == b.Count)))) rfl rfl rfl ?_
      apply Ops.nil
      exact ⟨⟨and_T hc1, rfl, rfl, trivial⟩, H.weak (by omega) (Nat.le_refl _)⟩
    · skip
      refine Ops.pass rfl rfl rfl ?_
      refine Ops.pass rfl rfl rfl ?_
      refine Ops.pass rfl rfl rfl ?_
      refine Ops.pass rfl rfl rfl ?_
      refine Ops.pass rfl rfl rfl ?_
      refine Ops.pickF (v := (.v (.bool false))) rfl rfl rfl ?_
      apply Ops.nil
      exact ⟨⟨and_F hc1, rfl, rfl, trivial⟩, H.weak (by omega) (Nat.le_refl _)⟩
  · rintro e σ ⟨he, H⟩
    obtain ⟨e, rfl⟩ := he.ex
    refine Ops.move (v := (.v (.bool ((a.Period == b.Period) && (a.Count == b.Count))))) rfl rfl ?_
    obtain ⟨y1, hj1, h⟩ := bind_some h
    refine Ops.mid 6 (K1 := fun e σ => EnvHas e [(23, (.v (.bool y1))), (2, (.ptr (b1 + 0) 4 0)), (3, (.ptr (b1 + 1) 4 0))] ∧ Has σ (b2 + 19) (b2 + 27) [.blk (b1 + 1) 25 [(.v (.int .i64 b.Period)), (.v (.int .i64 b.Count)), (.v (.sl (b.Core.map (cL Span.cs)))), (.v (.sl (b.Odd.map Granule.cs)))], .blk (b1 + 0) 25 [(.v (.int .i64 a.Period)), (.v (.int .i64 a.Count)), (.v (.sl (a.Core.map (cL Span.cs)))), (.v (.sl (a.Odd.map Granule.cs)))]]) rfl ?_ ?_
    · refine Ops.split rfl rfl ?_ ?_ <;> intro hc2
      · replace h := cond_T hc2 hj1
        refine Ops.wanted rfl rfl ?_
        refine Ops.fieldAddrH (off := 0) (fo := 2) H 1 rfl rfl rfl rfl rfl nofun rfl ?_
        refine Ops.wanted rfl rfl ?_
        refine Ops.loadH (off := 2) (v := (.v (.sl (a.Core.map (cL Span.cs))))) H 1 rfl rfl rfl rfl rfl nofun rfl ?_
        refine Ops.wanted rfl rfl ?_
        refine Ops.fieldAddrH (off := 0) (fo := 2) H 0 rfl rfl rfl rfl rfl nofun rfl ?_
        refine Ops.wanted rfl rfl ?_
        refine Ops.loadH (off := 2) (v := (.v (.sl (b.Core.map (cL Span.cs))))) H 0 rfl rfl rfl rfl rfl nofun rfl ?_
        refine Ops.wanted rfl rfl ?_
        obtain ⟨x1, q1, h⟩ := bind_some h
        refine Ops.callH (ys := [(.v (.sl (a.Core.map (cL Span.cs)))), (.v (.sl (b.Core.map (cL Span.cs)))), (.v (.fn 18))]) (r := (.v (.bool x1))) H rfl (slices_EqualFunc_SSSpan_SSSpan_SSpan_SSpan_fn (C := []) rfl (fun _ => rfl) (fun z0 z1 y hz => (CloH.fn (Fn.toH (spans_Same_fn hz) _))) q1) .nil nofun rfl ?_; intro σ H
        refine Ops.pickT (v := (.v (.bool x1))) rfl rfl rfl ?_
        apply Ops.nil
        replace h := Option.some.inj h; subst h
        exact ⟨⟨rfl, rfl, rfl, trivial⟩, H.weak (by omega) (Nat.le_refl _)⟩
      · replace h := cond_F hc2 hj1
        refine Ops.pass rfl rfl rfl ?_
        refine Ops.pass rfl rfl rfl ?_
        refine Ops.pass rfl rfl rfl ?_
        refine Ops.pass rfl rfl rfl ?_
        refine Ops.pass rfl rfl rfl ?_
        refine Ops.pickF (v := (.v (.bool false))) rfl rfl rfl ?_
        apply Ops.nil
        replace h := Option.some.inj h; subst h
        exact ⟨⟨rfl, rfl, rfl, trivial⟩, H.weak (by omega) (Nat.le_refl _)⟩
    · rintro e σ ⟨he, H⟩
      obtain ⟨e, rfl⟩ := he.ex
      refine Ops.move (v := (.v (.bool y1))) rfl rfl ?_
      obtain ⟨y2, hj2, h⟩ := bind_some h
      refine Ops.mid 6 (K1 := fun e σ => EnvHas e [(30, (.v (.bool y2)))] ∧ Has σ (b2 + 26) (b2 + 27) []) rfl ?_ ?_
      · refine Ops.split rfl rfl ?_ ?_ <;> intro hc3
        · replace h := cond_T hc3 hj2
          refine Ops.wanted rfl rfl ?_
          refine Ops.fieldAddrH (off := 0) (fo := 3) H 1 rfl rfl rfl rfl rfl nofun rfl ?_
          refine Ops.wanted rfl rfl ?_
          refine Ops.loadH (off := 3) (v := (.v (.sl (a.Odd.map Granule.cs)))) H 1 rfl rfl rfl rfl rfl nofun rfl ?_
          refine Ops.wanted rfl rfl ?_
          refine Ops.fieldAddrH (off := 0) (fo := 3) H 0 rfl rfl rfl rfl rfl nofun rfl ?_
          refine Ops.wanted rfl rfl ?_
          refine Ops.loadH (off := 3) (v := (.v (.sl (b.Odd.map Granule.cs)))) H 0 rfl rfl rfl rfl rfl nofun rfl ?_
          refine Ops.wanted rfl rfl ?_
          obtain ⟨x2, q2, h⟩ := bind_some h
          refine Ops.callH (ys := [(.v (.sl (a.Odd.map Granule.cs))), (.v (.sl (b.Odd.map Granule.cs))), (.v (.fn 70))]) (r := (.v (.bool x2))) H rfl (slices_EqualFunc_SGranule_SGranule_Granule_Granule_fn (C := []) rfl (fun _ => rfl) (fun z0 z1 y hz => (CloH.fn (Fn.toH (canon_equal_1_fn hz) _))) q2) .nil nofun rfl ?_; intro σ H
          refine Ops.pickT (v := (.v (.bool x2))) rfl rfl rfl ?_
          apply Ops.nil
          replace h := Option.some.inj h; subst h
          exact ⟨⟨rfl, trivial⟩, ((H.erase 1).erase 0).weak (by omega) (Nat.le_refl _)⟩
        · replace h := cond_F hc3 hj2
          refine Ops.pass rfl rfl rfl ?_
          refine Ops.pass rfl rfl rfl ?_
          refine Ops.pass rfl rfl rfl ?_
          refine Ops.pass rfl rfl rfl ?_
          refine Ops.pass rfl rfl rfl ?_
          refine Ops.pickF (v := (.v (.bool false))) rfl rfl rfl ?_
          apply Ops.nil
          replace h := Option.some.inj h; subst h
          exact ⟨⟨rfl, trivial⟩, ((H.erase 1).erase 0).weak (by omega) (Nat.le_refl _)⟩
      · rintro e σ ⟨he, H⟩
        obtain ⟨e, rfl⟩ := he.ex
        refine Ops.assign (v := (.v (.bool y2))) rfl rfl ?_
        apply Ops.nil
        replace H := H.all
        apply Runs.ret
        replace h := Option.some.inj h; subst h
        exact (Ends.H (xs := [(.v (.bool y2))]) (.inr rfl) H (.tmp (v := (.v (.bool y2))) rfl .nil) (.one (.c (.v _))))

set_option maxRecDepth 100000 in
set_option maxHeartbeats 4000000 in
theorem epactlow_Alike_fn {a : (List Span)} {b : (List Span)} {r : Bool} (h : epactlow_Alike a b = some r) : Fn CX 48 [(.v (.sl (a.map Span.cs))), (.v (.sl (b.map Span.cs)))] (.v (.bool r)) := by
  refine Fn.ends Try.func48 rfl rfl rfl rfl rfl rfl ?_
  have H : Hs (⟨0, fun _ => .none⟩ : Heap) [] := Has.nil (Nat.le_refl _)
  generalize (⟨0, fun _ => .none⟩ : Heap) = σ at H ⊢
  unfold epactlow_Alike at h
  apply Runs.then
  refine Runs.regionH 1 rfl H ?_; intro b1 σ H
  refine Ops.assign (v := (.v (.bool false))) rfl rfl ?_
  apply Ops.nil
  replace H := H.all
  apply Runs.then
  apply Runs.then
  refine Runs.regionH 5 rfl H ?_; intro b2 σ H
  refine Ops.move (v := (.v (.sl (a.map Span.cs)))) rfl rfl ?_
  refine Ops.lenPt (c := Span.cs) (xs := a) rfl rfl rfl ?_
  refine Ops.move (v := (.v (.sl (b.map Span.cs)))) rfl rfl ?_
  refine Ops.lenPt (c := Span.cs) (xs := b) rfl rfl rfl ?_
  refine Ops.int (m := (a.length : Int)) (m' := (b.length : Int)) (r := .bool ((a.length : Int) != (b.length : Int))) rfl rfl rfl rfl rfl ?_
  apply Ops.nil
  replace H := H.all
  refine Runs.whether (v := ((a.length : Int) != (b.length : Int))) rfl ?_ ?_ <;> intro hc1
  · replace h := cond_T hc1 h
    apply Runs.then
    refine Runs.regionH 1 rfl H ?_; intro b3 σ H
    refine Ops.assign (v := (.v (.bool false))) rfl rfl ?_
    apply Ops.nil
    replace H := H.all
    apply Runs.ret
    replace h := Option.some.inj h; subst h
    exact (Ends.H (xs := [(.v (.bool false))]) (.inr rfl) H (.tmp (v := (.v (.bool false))) rfl .nil) (.one (.c (.v _))))
  · replace h := cond_F hc1 h
    apply Runs.skip
    apply Runs.then
    apply Runs.then
    refine Runs.regionH 3 rfl H ?_; intro b4 σ H
    refine Ops.move (v := (.v (.sl (a.map Span.cs)))) rfl rfl ?_
    refine Ops.lenPt (c := Span.cs) (xs := a) rfl rfl rfl ?_
    refine Ops.move (v := (.v (.int .i64 0))) rfl rfl ?_
    apply Ops.nil
    replace H := H.all
    apply Runs.inBlock
    obtain ⟨y1, hj1, h⟩ := bind_some h
    obtain ⟨n1, hj1⟩ := loopO_iff.1 hj1
    refine Runs.mono (Runs.loopO hj1 (fun s1 e σ => EnvHas e [(1, (.v (.sl (b.map Span.cs)))), (12, (.v (.sl (a.map Span.cs)))), (13, (.v (.int .i64 (a.length : Int)))), (14, (.v (.int .i64 s1)))] ∧ Hs σ []) (fun y1 x e σ => (∃ a1, y1 = (.go a1) ∧ x = .exit 0 ∧ EnvHas e [] ∧ Hs σ []) ∨ (∃ r', y1 = (.ret r') ∧ x = .ret ∧ Ends CX Try.f48.results.toList (.v (.bool r')) x e σ)) ⟨⟨rfl, rfl, rfl, rfl, trivial⟩, H⟩ ?_) ?_
    · intro s1 e σ hI z h
      obtain ⟨he, H⟩ := hI
      obtain ⟨e, rfl⟩ := he.ex
      unfold epactlow_Alike.s0 at h
      apply Runs.then
      refine Runs.regionH 1 rfl H ?_; intro b5 σ H
      refine Ops.int (m := s1) (m' := (a.length : Int)) (r := .bool (decide (s1 < (a.length : Int)))) rfl rfl rfl rfl rfl ?_
      apply Ops.nil
      replace H := H.all
      apply Runs.then
      refine Runs.whether (v := (decide (s1 < (a.length : Int)))) rfl ?_ ?_ <;> intro hc2
      · replace h := cond_T hc2 h
        apply Runs.skip
        apply Runs.then
        apply Runs.inBlock
        apply Runs.then
        refine Runs.regionH 6 rfl H ?_; intro b6 σ H
        refine Ops.move (v := (.v (.int .i64 s1))) rfl rfl ?_
        obtain ⟨x1, q1, h⟩ := bind_some h
        refine Ops.indexP (c := Span.cs) (u := x1) rfl rfl q1 rfl rfl rfl rfl ?_
        refine Ops.loadPA (cs := [(.int .i64 x1.From), (.int .i64 x1.To)]) rfl rfl rfl rfl rfl rfl ?_
        refine Ops.allocH (cs := [(.v (.int .i64 0)), (.v (.int .i64 0))]) H (by omega) (by omega) rfl rfl ?_; intro σ H
        refine Ops.assign (v := (.v (.int .i64 s1))) rfl rfl ?_
        refine Ops.storeH (off := 0) (v := (.agg [(.v (.int .i64 x1.From)), (.v (.int .i64 x1.To))])) (ys := [(.v (.int .i64 x1.From)), (.v (.int .i64 x1.To))]) (cells' := [(.v (.int .i64 x1.From)), (.v (.int .i64 x1.To))]) H 0 rfl rfl rfl rfl rfl rfl rfl rfl rfl nofun ?_; intro σ H
        apply Ops.nil
        replace H := H.all
        apply Runs.then
        refine Runs.drawnH 6 rfl (by kernel_rfl) H ?_; intro b7 σ H B7
        refine Ops.move (v := (.v (.sl (b.map Span.cs)))) rfl rfl ?_
        refine Ops.move (v := (.v (.int .i64 s1))) rfl rfl ?_
        obtain ⟨x2, q2, h⟩ := bind_some h
        refine Ops.indexP (c := Span.cs) (u := x2) rfl rfl q2 rfl rfl rfl rfl ?_
        refine Ops.loadPA (cs := [(.int .i64 x2.From), (.int .i64 x2.To)]) rfl rfl rfl rfl rfl rfl ?_
        refine Ops.loadHA (off := 0) (cs := [(.v (.int .i64 x1.From)), (.v (.int .i64 x1.To))]) H 0 rfl rfl rfl rfl rfl rfl rfl (fun _ => .inl ⟨B7 0 _ rfl _ rfl, nofun⟩) rfl ?_
        refine Ops.binA (u := (.agg [(.v (.int .i64 x2.From)), (.v (.int .i64 x2.To))])) (w := (.agg [(.v (.int .i64 x1.From)), (.v (.int .i64 x1.To))])) (r := .bool (!((x2.From == x1.From) && ((x2.To == x1.To) && true)))) rfl rfl (by kernel_rfl) (fun _ => ask_eqA rfl rfl rfl rfl) rfl ?_
        apply Ops.nil
        replace H := H.all
        refine Runs.whether (v := (!((x2.From == x1.From) && ((x2.To == x1.To) && true)))) rfl ?_ ?_ <;> intro hc3
        · replace h := cond_T hc3 h
          apply Runs.then
          refine Runs.regionH 1 rfl H ?_; intro b8 σ H
          refine Ops.assign (v := (.v (.bool false))) rfl rfl ?_
          apply Ops.nil
          replace H := H.all
          apply Runs.ret
          replace h := Option.some.inj h; subst h
          exact ⟨nofun, (.inr ⟨_, rfl, rfl, (Ends.H (xs := [(.v (.bool false))]) (.inr rfl) H (.tmp (v := (.v (.bool false))) rfl .nil) (.one (.c (.v _))))⟩)⟩
        · replace h := cond_F hc3 h
          apply Runs.skip
          refine Runs.regionH 2 rfl H ?_; intro b9 σ H
          refine Ops.int (m := s1) (m' := 1) (r := .int .i64 (w64 (s1 + 1))) rfl rfl rfl rfl rfl ?_
          refine Ops.move (v := (.v (.int .i64 (w64 (s1 + 1))))) rfl rfl ?_
          apply Ops.nil
          replace H := H.all
          replace h := Option.some.inj h; subst h
          exact ⟨rfl, ⟨rfl, rfl, rfl, rfl, trivial⟩, (H.erase 0)⟩
      · replace h := cond_F hc2 h
        apply Runs.exit
        replace h := Option.some.inj h; subst h
        exact ⟨nofun, (.inl ⟨_, rfl, rfl, trivial, H⟩)⟩
    · rintro x e σ (⟨a2, rfl, rfl, he, H⟩ | ⟨r', rfl, rfl, hE⟩)
      · skip
        replace h := jgo h
        obtain ⟨e, rfl⟩ := he.ex
        apply Runs.then
        refine Runs.regionH 1 rfl H ?_; intro b10 σ H
        refine Ops.assign (v := (.v (.bool true))) rfl rfl ?_
        apply Ops.nil
        replace H := H.all
        apply Runs.ret
        replace h := Option.some.inj h; subst h
        exact (Ends.H (xs := [(.v (.bool true))]) (.inr rfl) H (.tmp (v := (.v (.bool true))) rfl .nil) (.one (.c (.v _))))
      · skip
        replace h := jret h
        replace h := Option.some.inj h; subst h
        exact hE

set_option maxRecDepth 100000 in
set_option maxHeartbeats 4000000 in
theorem epactlow_AlikeForms_fn {a : Form} {b : Form} {r : Bool} (h : epactlow_AlikeForms a b = some r) : Fn CX 24 [(.agg (vs (Form.cs a))), (.agg (vs (Form.cs b)))] (.v (.bool r)) := by
  refine Fn.ends Try.func24 rfl rfl rfl rfl rfl rfl ?_
  have H : Hs (⟨0, fun _ => .none⟩ : Heap) [] := Has.nil (Nat.le_refl _)
  generalize (⟨0, fun _ => .none⟩ : Heap) = σ at H ⊢
  unfold epactlow_AlikeForms at h
  apply Runs.then
  refine Runs.regionH 3 rfl H ?_; intro b1 σ H
  refine Ops.boxH (v := (.agg [(.v (.int .i64 a.Period)), (.v (.int .i64 a.Count)), (.v (.sl (a.Core.map (cL Span.cs)))), (.v (.sl (a.Odd.map Granule.cs)))])) (cs := [(.v (.int .i64 a.Period)), (.v (.int .i64 a.Count)), (.v (.sl (a.Core.map (cL Span.cs)))), (.v (.sl (a.Odd.map Granule.cs)))]) H (by omega) (by omega) rfl rfl rfl ?_; intro σ H
  refine Ops.boxH (v := (.agg [(.v (.int .i64 b.Period)), (.v (.int .i64 b.Count)), (.v (.sl (b.Core.map (cL Span.cs)))), (.v (.sl (b.Odd.map Granule.cs)))])) (cs := [(.v (.int .i64 b.Period)), (.v (.int .i64 b.Count)), (.v (.sl (b.Core.map (cL Span.cs)))), (.v (.sl (b.Odd.map Granule.cs)))]) H (by omega) (by omega) rfl rfl rfl ?_; intro σ H
  refine Ops.assign (v := (.v (.bool false))) rfl rfl ?_
  apply Ops.nil
  replace H := H.all
  apply Runs.then
  apply Runs.then
  refine Runs.regionH 30 rfl H ?_; intro b2 σ H
  refine Ops.fieldAddrH (off := 0) (fo := 0) H 1 rfl rfl rfl rfl rfl nofun rfl ?_
  refine Ops.loadH (off := 0) (v := (.v (.int .i64 a.Period))) H 1 rfl rfl rfl rfl rfl nofun rfl ?_
  refine Ops.fieldAddrH (off := 0) (fo := 0) H 0 rfl rfl rfl rfl rfl nofun rfl ?_
  refine Ops.loadH (off := 0) (v := (.v (.int .i64 b.Period))) H 0 rfl rfl rfl rfl rfl nofun rfl ?_
  refine Ops.int (m := a.Period) (m' := b.Period) (r := .bool (a.Period != b.Period)) rfl rfl rfl rfl rfl ?_
  refine Ops.move (v := (.v (.bool (a.Period != b.Period)))) rfl rfl ?_
  refine Ops.mid 6 (K1 := fun e σ => EnvHas e [(20, (.v (.bool ((a.Period != b.Period) || (a.Count != b.Count))))), (2, (.ptr (b1 + 0) 4 0)), (3, (.ptr (b1 + 1) 4 0))] ∧ Has σ (b2 + 12) (b2 + 30) [.blk (b1 + 1) 25 [(.v (.int .i64 b.Period)), (.v (.int .i64 b.Count)), (.v (.sl (b.Core.map (cL Span.cs)))), (.v (.sl (b.Odd.map Granule.cs)))], .blk (b1 + 0) 25 [(.v (.int .i64 a.Period)), (.v (.int .i64 a.Count)), (.v (.sl (a.Core.map (cL Span.cs)))), (.v (.sl (a.Odd.map Granule.cs)))]]) rfl ?_ ?_
  · refine Ops.split rfl rfl ?_ ?_ <;> intro hc1
    · skip
      refine Ops.pass rfl rfl rfl ?_
      refine Ops.pass rfl rfl rfl ?_
      refine Ops.pass rfl rfl rfl ?_
      refine Ops.pass rfl rfl rfl ?_
      refine Ops.pass rfl rfl rfl ?_
      refine Ops.pickT (v := (.v (.bool true))) rfl rfl rfl ?_
      apply Ops.nil
      exact ⟨⟨or_T hc1, rfl, rfl, trivial⟩, H.weak (by omega) (Nat.le_refl _)⟩
    · skip
      refine Ops.wanted rfl rfl ?_
      refine Ops.fieldAddrH (off := 0) (fo := 1) H 1 rfl rfl rfl rfl rfl nofun rfl ?_
      refine Ops.wanted rfl rfl ?_
      refine Ops.loadH (off := 1) (v := (.v (.int .i64 a.Count))) H 1 rfl rfl rfl rfl rfl nofun rfl ?_
      refine Ops.wanted rfl rfl ?_
      refine Ops.fieldAddrH (off := 0) (fo := 1) H 0 rfl rfl rfl rfl rfl nofun rfl ?_
      refine Ops.wanted rfl rfl ?_
      refine Ops.loadH (off := 1) (v := (.v (.int .i64 b.Count))) H 0 rfl rfl rfl rfl rfl nofun rfl ?_
      refine Ops.wanted rfl rfl ?_
      refine Ops.int (m := a.Count) (m' := b.Count) (r := .bool (a.Count != b.Count)) rfl rfl rfl rfl rfl ?_
      refine Ops.pickF (v := (.v (.bool (a.Count != b.Count)))) rfl rfl rfl ?_
      apply Ops.nil
      exact ⟨⟨or_F hc1, rfl, rfl, trivial⟩, H.weak (by omega) (Nat.le_refl _)⟩
  · rintro e σ ⟨he, H⟩
    obtain ⟨e, rfl⟩ := he.ex
    refine Ops.move (v := (.v (.bool ((a.Period != b.Period) || (a.Count != b.Count))))) rfl rfl ?_
    refine Ops.mid 8 (K1 := fun e σ => EnvHas e [(29, (.v (.bool (((a.Period != b.Period) || (a.Count != b.Count)) || ((a.Core.length : Int) != (b.Core.length : Int)))))), (2, (.ptr (b1 + 0) 4 0)), (3, (.ptr (b1 + 1) 4 0))] ∧ Has σ (b2 + 21) (b2 + 30) [.blk (b1 + 1) 25 [(.v (.int .i64 b.Period)), (.v (.int .i64 b.Count)), (.v (.sl (b.Core.map (cL Span.cs)))), (.v (.sl (b.Odd.map Granule.cs)))], .blk (b1 + 0) 25 [(.v (.int .i64 a.Period)), (.v (.int .i64 a.Count)), (.v (.sl (a.Core.map (cL Span.cs)))), (.v (.sl (a.Odd.map Granule.cs)))]]) rfl ?_ ?_
    · refine Ops.split rfl rfl ?_ ?_ <;> intro hc2
      · skip
        refine Ops.pass rfl rfl rfl ?_
        refine Ops.pass rfl rfl rfl ?_
        refine Ops.pass rfl rfl rfl ?_
        refine Ops.pass rfl rfl rfl ?_
        refine Ops.pass rfl rfl rfl ?_
        refine Ops.pass rfl rfl rfl ?_
        refine Ops.pass rfl rfl rfl ?_
        refine Ops.pickT (v := (.v (.bool true))) rfl rfl rfl ?_
        apply Ops.nil
        exact ⟨⟨or_T hc2, rfl, rfl, trivial⟩, H.weak (by omega) (Nat.le_refl _)⟩
      · skip
        refine Ops.wanted rfl rfl ?_
        refine Ops.fieldAddrH (off := 0) (fo := 2) H 1 rfl rfl rfl rfl rfl nofun rfl ?_
        refine Ops.wanted rfl rfl ?_
        refine Ops.loadH (off := 2) (v := (.v (.sl (a.Core.map (cL Span.cs))))) H 1 rfl rfl rfl rfl rfl nofun rfl ?_
        refine Ops.wanted rfl rfl ?_
        refine Ops.lenPt (c := (cL Span.cs)) (xs := a.Core) rfl rfl rfl ?_
        refine Ops.wanted rfl rfl ?_
        refine Ops.fieldAddrH (off := 0) (fo := 2) H 0 rfl rfl rfl rfl rfl nofun rfl ?_
        refine Ops.wanted rfl rfl ?_
        refine Ops.loadH (off := 2) (v := (.v (.sl (b.Core.map (cL Span.cs))))) H 0 rfl rfl rfl rfl rfl nofun rfl ?_
        refine Ops.wanted rfl rfl ?_
        refine Ops.lenPt (c := (cL Span.cs)) (xs := b.Core) rfl rfl rfl ?_
        refine Ops.wanted rfl rfl ?_
        refine Ops.int (m := (a.Core.length : Int)) (m' := (b.Core.length : Int)) (r := .bool ((a.Core.length : Int) != (b.Core.length : Int))) rfl rfl rfl rfl rfl ?_
        refine Ops.pickF (v := (.v (.bool ((a.Core.length : Int) != (b.Core.length : Int))))) rfl rfl rfl ?_
        apply Ops.nil
        exact ⟨⟨or_F hc2, rfl, rfl, trivial⟩, H.weak (by omega) (Nat.le_refl _)⟩
    · rintro e σ ⟨he, H⟩
      obtain ⟨e, rfl⟩ := he.ex
      refine Ops.move (v := (.v (.bool (((a.Period != b.Period) || (a.Count != b.Count)) || ((a.Core.length : Int) != (b.Core.length : Int)))))) rfl rfl ?_
      refine Ops.mid 8 (K1 := fun e σ => EnvHas e [(38, (.v (.bool ((((a.Period != b.Period) || (a.Count != b.Count)) || ((a.Core.length : Int) != (b.Core.length : Int))) || ((a.Odd.length : Int) != (b.Odd.length : Int)))))), (2, (.ptr (b1 + 0) 4 0)), (3, (.ptr (b1 + 1) 4 0))] ∧ Has σ (b2 + 30) (b2 + 30) [.blk (b1 + 1) 25 [(.v (.int .i64 b.Period)), (.v (.int .i64 b.Count)), (.v (.sl (b.Core.map (cL Span.cs)))), (.v (.sl (b.Odd.map Granule.cs)))], .blk (b1 + 0) 25 [(.v (.int .i64 a.Period)), (.v (.int .i64 a.Count)), (.v (.sl (a.Core.map (cL Span.cs)))), (.v (.sl (a.Odd.map Granule.cs)))]]) rfl ?_ ?_
      · refine Ops.split rfl rfl ?_ ?_ <;> intro hc3
        · skip
          refine Ops.pass rfl rfl rfl ?_
          refine Ops.pass rfl rfl rfl ?_
          refine Ops.pass rfl rfl rfl ?_
          refine Ops.pass rfl rfl rfl ?_
          refine Ops.pass rfl rfl rfl ?_
          refine Ops.pass rfl rfl rfl ?_
          refine Ops.pass rfl rfl rfl ?_
          refine Ops.pickT (v := (.v (.bool true))) rfl rfl rfl ?_
          apply Ops.nil
          exact ⟨⟨or_T hc3, rfl, rfl, trivial⟩, H.weak (by omega) (Nat.le_refl _)⟩
        · skip
          refine Ops.wanted rfl rfl ?_
          refine Ops.fieldAddrH (off := 0) (fo := 3) H 1 rfl rfl rfl rfl rfl nofun rfl ?_
          refine Ops.wanted rfl rfl ?_
          refine Ops.loadH (off := 3) (v := (.v (.sl (a.Odd.map Granule.cs)))) H 1 rfl rfl rfl rfl rfl nofun rfl ?_
          refine Ops.wanted rfl rfl ?_
          refine Ops.lenPt (c := Granule.cs) (xs := a.Odd) rfl rfl rfl ?_
          refine Ops.wanted rfl rfl ?_
          refine Ops.fieldAddrH (off := 0) (fo := 3) H 0 rfl rfl rfl rfl rfl nofun rfl ?_
          refine Ops.wanted rfl rfl ?_
          refine Ops.loadH (off := 3) (v := (.v (.sl (b.Odd.map Granule.cs)))) H 0 rfl rfl rfl rfl rfl nofun rfl ?_
          refine Ops.wanted rfl rfl ?_
          refine Ops.lenPt (c := Granule.cs) (xs := b.Odd) rfl rfl rfl ?_
          refine Ops.wanted rfl rfl ?_
          refine Ops.int (m := (a.Odd.length : Int)) (m' := (b.Odd.length : Int)) (r := .bool ((a.Odd.length : Int) != (b.Odd.length : Int))) rfl rfl rfl rfl rfl ?_
          refine Ops.pickF (v := (.v (.bool ((a.Odd.length : Int) != (b.Odd.length : Int))))) rfl rfl rfl ?_
          apply Ops.nil
          exact ⟨⟨or_F hc3, rfl, rfl, trivial⟩, H.weak (by omega) (Nat.le_refl _)⟩
      · rintro e σ ⟨he, H⟩
        obtain ⟨e, rfl⟩ := he.ex
        apply Ops.nil
        replace H := H.all
        refine Runs.whether (v := ((((a.Period != b.Period) || (a.Count != b.Count)) || ((a.Core.length : Int) != (b.Core.length : Int))) || ((a.Odd.length : Int) != (b.Odd.length : Int)))) rfl ?_ ?_ <;> intro hc4
        · replace h := cond_T hc4 h
          apply Runs.then
          refine Runs.regionH 1 rfl H ?_; intro b3 σ H
          refine Ops.assign (v := (.v (.bool false))) rfl rfl ?_
          apply Ops.nil
          replace H := H.all
          apply Runs.ret
          replace h := Option.some.inj h; subst h
          exact (Ends.H (xs := [(.v (.bool false))]) (.inr rfl) H (.tmp (v := (.v (.bool false))) rfl .nil) (.one (.c (.v _))))
        · replace h := cond_F hc4 h
          apply Runs.skip
          apply Runs.then
          apply Runs.then
          refine Runs.regionH 4 rfl H ?_; intro b4 σ H
          refine Ops.fieldAddrH (off := 0) (fo := 2) H 1 rfl rfl rfl rfl rfl nofun rfl ?_
          refine Ops.loadH (off := 2) (v := (.v (.sl (a.Core.map (cL Span.cs))))) H 1 rfl rfl rfl rfl rfl nofun rfl ?_
          refine Ops.lenPt (c := (cL Span.cs)) (xs := a.Core) rfl rfl rfl ?_
          refine Ops.move (v := (.v (.int .i64 0))) rfl rfl ?_
          apply Ops.nil
          replace H := H.all
          apply Runs.inBlock
          obtain ⟨y1, hj1, h⟩ := bind_some h
          obtain ⟨n1, hj1⟩ := loopO_iff.1 hj1
          refine Runs.mono (Runs.loopO hj1 (fun s1 e σ => EnvHas e [(2, (.ptr (b1 + 0) 4 0)), (3, (.ptr (b1 + 1) 4 0)), (40, (.v (.sl (a.Core.map (cL Span.cs))))), (41, (.v (.int .i64 (a.Core.length : Int)))), (42, (.v (.int .i64 s1)))] ∧ Hs σ [.blk (b1 + 1) 25 [(.v (.int .i64 b.Period)), (.v (.int .i64 b.Count)), (.v (.sl (b.Core.map (cL Span.cs)))), (.v (.sl (b.Odd.map Granule.cs)))], .blk (b1 + 0) 25 [(.v (.int .i64 a.Period)), (.v (.int .i64 a.Count)), (.v (.sl (a.Core.map (cL Span.cs)))), (.v (.sl (a.Odd.map Granule.cs)))]]) (fun y1 x e σ => (∃ a1, y1 = (.go a1) ∧ x = .exit 0 ∧ EnvHas e [(2, (.ptr (b1 + 0) 4 0)), (3, (.ptr (b1 + 1) 4 0))] ∧ Hs σ [.blk (b1 + 1) 25 [(.v (.int .i64 b.Period)), (.v (.int .i64 b.Count)), (.v (.sl (b.Core.map (cL Span.cs)))), (.v (.sl (b.Odd.map Granule.cs)))], .blk (b1 + 0) 25 [(.v (.int .i64 a.Period)), (.v (.int .i64 a.Count)), (.v (.sl (a.Core.map (cL Span.cs)))), (.v (.sl (a.Odd.map Granule.cs)))]]) ∨ (∃ r', y1 = (.ret r') ∧ x = .ret ∧ Ends CX Try.f24.results.toList (.v (.bool r')) x e σ)) ⟨⟨rfl, rfl, rfl, rfl, rfl, trivial⟩, H⟩ ?_) ?_
          · intro s1 e σ hI z h
            obtain ⟨he, H⟩ := hI
            obtain ⟨e, rfl⟩ := he.ex
            unfold epactlow_AlikeForms.s0 at h
            apply Runs.then
            refine Runs.regionH 1 rfl H ?_; intro b5 σ H
            refine Ops.int (m := s1) (m' := (a.Core.length : Int)) (r := .bool (decide (s1 < (a.Core.length : Int)))) rfl rfl rfl rfl rfl ?_
            apply Ops.nil
            replace H := H.all
            apply Runs.then
            refine Runs.whether (v := (decide (s1 < (a.Core.length : Int)))) rfl ?_ ?_ <;> intro hc5
            · replace h := cond_T hc5 h
              apply Runs.skip
              apply Runs.then
              apply Runs.inBlock
              apply Runs.then
              refine Runs.regionH 5 rfl H ?_; intro b6 σ H
              refine Ops.move (v := (.v (.int .i64 s1))) rfl rfl ?_
              obtain ⟨x1, q1, h⟩ := bind_some h
              refine Ops.indexP (c := (cL Span.cs)) (u := x1) rfl rfl q1 rfl rfl rfl rfl ?_
              refine Ops.loadP (u := (.sl (x1.map Span.cs))) rfl rfl rfl rfl ?_
              refine Ops.assign (v := (.v (.int .i64 s1))) rfl rfl ?_
              refine Ops.assign (v := (.v (.sl (x1.map Span.cs)))) rfl rfl ?_
              apply Ops.nil
              replace H := H.all
              apply Runs.then
              refine Runs.regionH 8 rfl H ?_; intro b7 σ H
              refine Ops.move (v := (.v (.sl (x1.map Span.cs)))) rfl rfl ?_
              refine Ops.fieldAddrH (off := 0) (fo := 2) H 0 rfl rfl rfl rfl rfl nofun rfl ?_
              refine Ops.loadH (off := 2) (v := (.v (.sl (b.Core.map (cL Span.cs))))) H 0 rfl rfl rfl rfl rfl nofun rfl ?_
              refine Ops.move (v := (.v (.int .i64 s1))) rfl rfl ?_
              obtain ⟨x2, q2, h⟩ := bind_some h
              refine Ops.indexP (c := (cL Span.cs)) (u := x2) rfl rfl q2 rfl rfl rfl rfl ?_
              refine Ops.loadP (u := (.sl (x2.map Span.cs))) rfl rfl rfl rfl ?_
              obtain ⟨x3, q3, h⟩ := bind_some h
              refine Ops.call (ys := [(.v (.sl (x1.map Span.cs))), (.v (.sl (x2.map Span.cs)))]) (r := (.v (.bool x3))) rfl (epactlow_Alike_fn q3) rfl ?_
              refine Ops.not (b := x3) rfl rfl ?_
              apply Ops.nil
              replace H := H.all
              refine Runs.whether (v := (!x3)) rfl ?_ ?_ <;> intro hc6
              · replace h := cond_T hc6 h
                apply Runs.then
                refine Runs.regionH 1 rfl H ?_; intro b8 σ H
                refine Ops.assign (v := (.v (.bool false))) rfl rfl ?_
                apply Ops.nil
                replace H := H.all
                apply Runs.ret
                replace h := Option.some.inj h; subst h
                exact ⟨nofun, (.inr ⟨_, rfl, rfl, (Ends.H (xs := [(.v (.bool false))]) (.inr rfl) H (.tmp (v := (.v (.bool false))) rfl .nil) (.one (.c (.v _))))⟩)⟩
              · replace h := cond_F hc6 h
                apply Runs.skip
                refine Runs.regionH 2 rfl H ?_; intro b9 σ H
                refine Ops.int (m := s1) (m' := 1) (r := .int .i64 (w64 (s1 + 1))) rfl rfl rfl rfl rfl ?_
                refine Ops.move (v := (.v (.int .i64 (w64 (s1 + 1))))) rfl rfl ?_
                apply Ops.nil
                replace H := H.all
                replace h := Option.some.inj h; subst h
                exact ⟨rfl, ⟨rfl, rfl, rfl, rfl, rfl, trivial⟩, H⟩
            · replace h := cond_F hc5 h
              apply Runs.exit
              replace h := Option.some.inj h; subst h
              exact ⟨nofun, (.inl ⟨_, rfl, rfl, ⟨rfl, rfl, trivial⟩, H⟩)⟩
          · rintro x e σ (⟨a2, rfl, rfl, he, H⟩ | ⟨r', rfl, rfl, hE⟩)
            · skip
              replace h := jgo h
              obtain ⟨e, rfl⟩ := he.ex
              apply Runs.then
              apply Runs.then
              refine Runs.regionH 4 rfl H ?_; intro b10 σ H
              refine Ops.fieldAddrH (off := 0) (fo := 3) H 1 rfl rfl rfl rfl rfl nofun rfl ?_
              refine Ops.loadH (off := 3) (v := (.v (.sl (a.Odd.map Granule.cs)))) H 1 rfl rfl rfl rfl rfl nofun rfl ?_
              refine Ops.lenPt (c := Granule.cs) (xs := a.Odd) rfl rfl rfl ?_
              refine Ops.move (v := (.v (.int .i64 0))) rfl rfl ?_
              apply Ops.nil
              replace H := H.all
              apply Runs.inBlock
              obtain ⟨y2, hj2, h⟩ := bind_some h
              obtain ⟨n2, hj2⟩ := loopO_iff.1 hj2
              refine Runs.mono (Runs.loopO hj2 (fun s2 e σ => EnvHas e [(3, (.ptr (b1 + 1) 4 0)), (57, (.v (.sl (a.Odd.map Granule.cs)))), (58, (.v (.int .i64 (a.Odd.length : Int)))), (59, (.v (.int .i64 s2)))] ∧ Hs σ [.blk (b1 + 1) 25 [(.v (.int .i64 b.Period)), (.v (.int .i64 b.Count)), (.v (.sl (b.Core.map (cL Span.cs)))), (.v (.sl (b.Odd.map Granule.cs)))]]) (fun y2 x e σ => (∃ a3, y2 = (.go a3) ∧ x = .exit 2 ∧ EnvHas e [] ∧ Hs σ []) ∨ (∃ r', y2 = (.ret r') ∧ x = .ret ∧ Ends CX Try.f24.results.toList (.v (.bool r')) x e σ)) ⟨⟨rfl, rfl, rfl, rfl, trivial⟩, (H.erase 1)⟩ ?_) ?_
              · intro s2 e σ hI z h
                obtain ⟨he, H⟩ := hI
                obtain ⟨e, rfl⟩ := he.ex
                unfold epactlow_AlikeForms.s1 at h
                apply Runs.then
                refine Runs.regionH 1 rfl H ?_; intro b11 σ H
                refine Ops.int (m := s2) (m' := (a.Odd.length : Int)) (r := .bool (decide (s2 < (a.Odd.length : Int)))) rfl rfl rfl rfl rfl ?_
                apply Ops.nil
                replace H := H.all
                apply Runs.then
                refine Runs.whether (v := (decide (s2 < (a.Odd.length : Int)))) rfl ?_ ?_ <;> intro hc7
                · replace h := cond_T hc7 h
                  apply Runs.skip
                  apply Runs.then
                  apply Runs.inBlock
                  apply Runs.then
                  refine Runs.regionH 6 rfl H ?_; intro b12 σ H
                  refine Ops.move (v := (.v (.int .i64 s2))) rfl rfl ?_
                  obtain ⟨x4, q4, h⟩ := bind_some h
                  refine Ops.indexP (c := Granule.cs) (u := x4) rfl rfl q4 rfl rfl rfl rfl ?_
                  refine Ops.loadPA (cs := [(.int .i64 x4.Index), (.sl (x4.Ticks.map Span.cs))]) rfl rfl rfl rfl rfl rfl ?_
                  refine Ops.allocH (cs := [(.v (.int .i64 0)), .nils]) H (by omega) (by omega) rfl rfl ?_; intro σ H
                  refine Ops.assign (v := (.v (.int .i64 s2))) rfl rfl ?_
                  refine Ops.storeH (off := 0) (v := (.agg [(.v (.int .i64 x4.Index)), (.v (.sl (x4.Ticks.map Span.cs)))])) (ys := [(.v (.int .i64 x4.Index)), (.v (.sl (x4.Ticks.map Span.cs)))]) (cells' := [(.v (.int .i64 x4.Index)), (.v (.sl (x4.Ticks.map Span.cs)))]) H 0 rfl rfl rfl rfl rfl rfl rfl rfl rfl nofun ?_; intro σ H
                  apply Ops.nil
                  replace H := H.all
                  apply Runs.then
                  refine Runs.drawnH 21 rfl (by kernel_rfl) H ?_; intro b13 σ H B13
                  refine Ops.fieldAddrH (off := 0) (fo := 0) H 0 rfl rfl rfl rfl rfl (fun _ => .inl ⟨B13 0 _ rfl _ rfl, nofun⟩) rfl ?_
                  refine Ops.loadH (off := 0) (v := (.v (.int .i64 x4.Index))) H 0 rfl rfl rfl rfl rfl (fun _ => .inl ⟨B13 0 _ rfl _ rfl, nofun⟩) rfl ?_
                  refine Ops.fieldAddrH (off := 0) (fo := 3) H 1 rfl rfl rfl rfl rfl (fun _ => .inl ⟨B13 1 _ rfl _ rfl, nofun⟩) rfl ?_
                  refine Ops.loadH (off := 3) (v := (.v (.sl (b.Odd.map Granule.cs)))) H 1 rfl rfl rfl rfl rfl (fun _ => .inl ⟨B13 1 _ rfl _ rfl, nofun⟩) rfl ?_
                  refine Ops.move (v := (.v (.int .i64 s2))) rfl rfl ?_
                  obtain ⟨x5, q5, h⟩ := bind_some h
                  refine Ops.indexP (c := Granule.cs) (u := x5) rfl rfl q5 rfl rfl rfl rfl ?_
                  refine Ops.fieldAddrP rfl rfl rfl rfl ?_
                  refine Ops.loadP (u := (.int .i64 x5.Index)) rfl rfl rfl rfl ?_
                  refine Ops.int (m := x4.Index) (m' := x5.Index) (r := .bool (x4.Index != x5.Index)) rfl rfl rfl rfl rfl ?_
                  refine Ops.move (v := (.v (.bool (x4.Index != x5.Index)))) rfl rfl ?_
                  obtain ⟨y3, hj3, h⟩ := bind_some h
                  refine Ops.mid 11 (K1 := fun e σ => EnvHas e [(84, (.v (.bool y3))), (3, (.ptr (b1 + 1) 4 0)), (57, (.v (.sl (a.Odd.map Granule.cs)))), (58, (.v (.int .i64 (a.Odd.length : Int)))), (59, (.v (.int .i64 s2)))] ∧ Has σ (b13 + 21) (b13 + 21) [.blk (b1 + 1) 25 [(.v (.int .i64 b.Period)), (.v (.int .i64 b.Count)), (.v (.sl (b.Core.map (cL Span.cs)))), (.v (.sl (b.Odd.map Granule.cs)))]]) rfl ?_ ?_
                  · refine Ops.split rfl rfl ?_ ?_ <;> intro hc8
                    · replace h := cond_T hc8 hj3
                      refine Ops.pass rfl rfl rfl ?_
                      refine Ops.pass rfl rfl rfl ?_
                      refine Ops.pass rfl rfl rfl ?_
                      refine Ops.pass rfl rfl rfl ?_
                      refine Ops.pass rfl rfl rfl ?_
                      refine Ops.pass rfl rfl rfl ?_
                      refine Ops.pass rfl rfl rfl ?_
                      refine Ops.pass rfl rfl rfl ?_
                      refine Ops.pass rfl rfl rfl ?_
                      refine Ops.pass rfl rfl rfl ?_
                      refine Ops.pickT (v := (.v (.bool true))) rfl rfl rfl ?_
                      apply Ops.nil
                      replace h := Option.some.inj h; subst h
                      exact ⟨⟨rfl, rfl, rfl, rfl, rfl, trivial⟩, (H.erase 0).weak (by omega) (Nat.le_refl _)⟩
                    · replace h := cond_F hc8 hj3
                      refine Ops.wanted rfl rfl ?_
                      refine Ops.fieldAddrH (off := 0) (fo := 1) H 0 rfl rfl rfl rfl rfl (fun _ => .inl ⟨B13 0 _ rfl _ rfl, nofun⟩) rfl ?_
                      refine Ops.wanted rfl rfl ?_
                      refine Ops.loadH (off := 1) (v := (.v (.sl (x4.Ticks.map Span.cs)))) H 0 rfl rfl rfl rfl rfl (fun _ => .inl ⟨B13 0 _ rfl _ rfl, nofun⟩) rfl ?_
                      refine Ops.wanted rfl rfl ?_
                      refine Ops.fieldAddrH (off := 0) (fo := 3) H 1 rfl rfl rfl rfl rfl (fun _ => .inl ⟨B13 1 _ rfl _ rfl, nofun⟩) rfl ?_
                      refine Ops.wanted rfl rfl ?_
                      refine Ops.loadH (off := 3) (v := (.v (.sl (b.Odd.map Granule.cs)))) H 1 rfl rfl rfl rfl rfl (fun _ => .inl ⟨B13 1 _ rfl _ rfl, nofun⟩) rfl ?_
                      refine Ops.wanted rfl rfl ?_
                      refine Ops.move (v := (.v (.int .i64 s2))) rfl rfl ?_
                      refine Ops.wanted rfl rfl ?_
                      obtain ⟨x6, q6, h⟩ := bind_some h
                      refine Ops.indexP (c := Granule.cs) (u := x6) rfl rfl q6 rfl rfl rfl rfl ?_
                      refine Ops.wanted rfl rfl ?_
                      refine Ops.fieldAddrP rfl rfl rfl rfl ?_
                      refine Ops.wanted rfl rfl ?_
                      refine Ops.loadP (u := (.sl (x6.Ticks.map Span.cs))) rfl rfl rfl rfl ?_
                      refine Ops.wanted rfl rfl ?_
                      obtain ⟨x7, q7, h⟩ := bind_some h
                      refine Ops.call (ys := [(.v (.sl (x4.Ticks.map Span.cs))), (.v (.sl (x6.Ticks.map Span.cs)))]) (r := (.v (.bool x7))) rfl (epactlow_Alike_fn q7) rfl ?_
                      refine Ops.wanted rfl rfl ?_
                      refine Ops.not (b := x7) rfl rfl ?_
                      refine Ops.pickF (v := (.v (.bool (!x7)))) rfl rfl rfl ?_
                      apply Ops.nil
                      replace h := Option.some.inj h; subst h
                      exact ⟨⟨rfl, rfl, rfl, rfl, rfl, trivial⟩, (H.erase 0).weak (by omega) (Nat.le_refl _)⟩
                  · rintro e σ ⟨he, H⟩
                    obtain ⟨e, rfl⟩ := he.ex
                    apply Ops.nil
                    replace H := H.all
                    refine Runs.whether (v := y3) rfl ?_ ?_ <;> intro hc9
                    · replace h := cond_T hc9 h
                      apply Runs.then
                      refine Runs.regionH 1 rfl H ?_; intro b14 σ H
                      refine Ops.assign (v := (.v (.bool false))) rfl rfl ?_
                      apply Ops.nil
                      replace H := H.all
                      apply Runs.ret
                      replace h := Option.some.inj h; subst h
                      exact ⟨nofun, (.inr ⟨_, rfl, rfl, (Ends.H (xs := [(.v (.bool false))]) (.inr rfl) H (.tmp (v := (.v (.bool false))) rfl .nil) (.one (.c (.v _))))⟩)⟩
                    · replace h := cond_F hc9 h
                      apply Runs.skip
                      refine Runs.regionH 2 rfl H ?_; intro b15 σ H
                      refine Ops.int (m := s2) (m' := 1) (r := .int .i64 (w64 (s2 + 1))) rfl rfl rfl rfl rfl ?_
                      refine Ops.move (v := (.v (.int .i64 (w64 (s2 + 1))))) rfl rfl ?_
                      apply Ops.nil
                      replace H := H.all
                      replace h := Option.some.inj h; subst h
                      exact ⟨rfl, ⟨rfl, rfl, rfl, rfl, trivial⟩, H⟩
                · replace h := cond_F hc7 h
                  apply Runs.exit
                  replace h := Option.some.inj h; subst h
                  exact ⟨nofun, (.inl ⟨_, rfl, rfl, trivial, (H.erase 0)⟩)⟩
              · rintro x e σ (⟨a4, rfl, rfl, he, H⟩ | ⟨r', rfl, rfl, hE⟩)
                · skip
                  replace h := jgo h
                  obtain ⟨e, rfl⟩ := he.ex
                  apply Runs.then
                  refine Runs.regionH 1 rfl H ?_; intro b16 σ H
                  refine Ops.assign (v := (.v (.bool true))) rfl rfl ?_
                  apply Ops.nil
                  replace H := H.all
                  apply Runs.ret
                  replace h := Option.some.inj h; subst h
                  exact (Ends.H (xs := [(.v (.bool true))]) (.inr rfl) H (.tmp (v := (.v (.bool true))) rfl .nil) (.one (.c (.v _))))
                · skip
                  replace h := jret h
                  replace h := Option.some.inj h; subst h
                  exact hE
            · skip
              replace h := jret h
              replace h := Option.some.inj h; subst h
              exact hE

set_option maxRecDepth 100000 in
set_option maxHeartbeats 4000000 in
theorem canon_Is_fn {f : Form} {r : Bool} (h : canon_Is f = some r) : Fn CX 29 [(.agg (vs (Form.cs f)))] (.v (.bool r)) := by
  refine Fn.ends Try.func29 rfl rfl rfl rfl rfl rfl ?_
  have H : Hs (⟨0, fun _ => .none⟩ : Heap) [] := Has.nil (Nat.le_refl _)
  generalize (⟨0, fun _ => .none⟩ : Heap) = σ at H ⊢
  unfold canon_Is at h
  apply Runs.then
  refine Runs.regionH 2 rfl H ?_; intro b1 σ H
  refine Ops.boxH (v := (.agg [(.v (.int .i64 f.Period)), (.v (.int .i64 f.Count)), (.v (.sl (f.Core.map (cL Span.cs)))), (.v (.sl (f.Odd.map Granule.cs)))])) (cs := [(.v (.int .i64 f.Period)), (.v (.int .i64 f.Count)), (.v (.sl (f.Core.map (cL Span.cs)))), (.v (.sl (f.Odd.map Granule.cs)))]) H (by omega) (by omega) rfl rfl rfl ?_; intro σ H
  refine Ops.assign (v := (.v (.bool false))) rfl rfl ?_
  apply Ops.nil
  replace H := H.all
  apply Runs.then
  refine Runs.drawnH 5 rfl (by kernel_rfl) H ?_; intro b2 σ H B2
  refine Ops.loadHA (off := 0) (cs := [(.v (.int .i64 f.Period)), (.v (.int .i64 f.Count)), (.v (.sl (f.Core.map (cL Span.cs)))), (.v (.sl (f.Odd.map Granule.cs)))]) H 0 rfl rfl rfl rfl rfl rfl rfl (fun _ => .inl ⟨B2 0 _ rfl _ rfl, nofun⟩) rfl ?_
  refine Ops.loadHA (off := 0) (cs := [(.v (.int .i64 f.Period)), (.v (.int .i64 f.Count)), (.v (.sl (f.Core.map (cL Span.cs)))), (.v (.sl (f.Odd.map Granule.cs)))]) H 0 rfl rfl rfl rfl rfl rfl rfl (fun _ => .inl ⟨B2 0 _ rfl _ rfl, nofun⟩) rfl ?_
  obtain ⟨x1, q1, h⟩ := bind_some h
  refine Ops.call (ys := [(.agg [(.v (.int .i64 f.Period)), (.v (.int .i64 f.Count)), (.v (.sl (f.Core.map (cL Span.cs)))), (.v (.sl (f.Odd.map Granule.cs)))])]) (r := (.agg [(.v (.int .i64 x1.Period)), (.v (.int .i64 x1.Count)), (.v (.sl (x1.Core.map (cL Span.cs)))), (.v (.sl (x1.Odd.map Granule.cs)))])) rfl (canon_Form_fn q1) rfl ?_
  obtain ⟨x2, q2, h⟩ := bind_some h
  refine Ops.call (ys := [(.agg [(.v (.int .i64 f.Period)), (.v (.int .i64 f.Count)), (.v (.sl (f.Core.map (cL Span.cs)))), (.v (.sl (f.Odd.map Granule.cs)))]), (.agg [(.v (.int .i64 x1.Period)), (.v (.int .i64 x1.Count)), (.v (.sl (x1.Core.map (cL Span.cs)))), (.v (.sl (x1.Odd.map Granule.cs)))])]) (r := (.v (.bool x2))) rfl (canon_equal_fn q2) rfl ?_
  refine Ops.assign (v := (.v (.bool x2))) rfl rfl ?_
  apply Ops.nil
  replace H := H.all
  apply Runs.ret
  replace h := Option.some.inj h; subst h
  exact (Ends.H (xs := [(.v (.bool x2))]) (.inr rfl) H (.tmp (v := (.v (.bool x2))) rfl .nil) (.one (.c (.v _))))

set_option maxRecDepth 100000 in
set_option maxHeartbeats 4000000 in
theorem epactlow_Anew_fn {l : (List Span)} {r : (List Span)} (h : epactlow_Anew l = some r) : Fn CX 44 [(.v (.sl (l.map Span.cs)))] (.v (.sl (r.map Span.cs))) := by
  refine Fn.ends Try.func44 rfl rfl rfl rfl rfl rfl ?_
  have H : Hs (⟨0, fun _ => .none⟩ : Heap) [] := Has.nil (Nat.le_refl _)
  generalize (⟨0, fun _ => .none⟩ : Heap) = σ at H ⊢
  unfold epactlow_Anew at h
  apply Runs.then
  refine Runs.regionH 1 rfl H ?_; intro b1 σ H
  refine Ops.assign (v := .nils) rfl rfl ?_
  apply Ops.nil
  replace H := H.all
  apply Runs.then
  refine Runs.regionH 4 rfl H ?_; intro b2 σ H
  refine Ops.move (v := (.v (.sl (l.map Span.cs)))) rfl rfl ?_
  refine Ops.lenPt (c := Span.cs) (xs := l) rfl rfl rfl ?_
  obtain ⟨x1, q1, h⟩ := bind_some h
  refine Ops.makeS (zs := [(.int .i64 0), (.int .i64 0)]) (cc := Span.cs) H (by omega) (by omega) rfl rfl q1 rfl rfl rfl rfl rfl rfl rfl ?_; intro σ H
  refine Ops.assign (v := (.buf (b2 + 2) ((l.length : Int)).toNat 2)) rfl rfl ?_
  apply Ops.nil
  replace H := H.all
  apply Runs.then
  refine Runs.regionH 3 rfl H ?_; intro b3 σ H
  refine Ops.move (v := (.buf (b2 + 2) ((l.length : Int)).toNat 2)) rfl rfl ?_
  refine Ops.move (v := (.v (.sl (l.map Span.cs)))) rfl rfl ?_
  refine Ops.copyS (c := Span.cs) (w := (.v (.sl (l.map Span.cs)))) (xs := x1) (ys := l) H 0 rfl rfl rfl rfl (.m (fun _ => rfl)) rfl rfl nofun rfl ?_; intro σ H
  apply Ops.nil
  replace H := H.all
  apply Runs.then
  refine Runs.regionH 2 rfl H ?_; intro b4 σ H
  refine Ops.move (v := (.buf (b2 + 2) ((l.length : Int)).toNat 2)) rfl rfl ?_
  refine Ops.assign (v := (.buf (b2 + 2) ((l.length : Int)).toNat 2)) rfl rfl ?_
  apply Ops.nil
  replace H := H.all
  apply Runs.ret
  replace h := Option.some.inj h; subst h
  exact (Ends.H (xs := [(.buf (b2 + 2) ((l.length : Int)).toNat 2)]) (.inr rfl) H (.tmp (v := (.buf (b2 + 2) ((l.length : Int)).toNat 2)) rfl .nil) (.one (.c (.s 0 rfl))))

set_option maxRecDepth 100000 in
set_option maxHeartbeats 4000000 in
theorem epactlow_AnewForm_fn {f : Form} {r : Form} (h : epactlow_AnewForm f = some r) : Fn CX 22 [(.agg (vs (Form.cs f)))] (.agg (vs (Form.cs r))) := by
  refine Fn.ends Try.func22 rfl rfl rfl rfl rfl rfl ?_
  have H : Hs (⟨0, fun _ => .none⟩ : Heap) [] := Has.nil (Nat.le_refl _)
  generalize (⟨0, fun _ => .none⟩ : Heap) = σ at H ⊢
  unfold epactlow_AnewForm at h
  apply Runs.then
  refine Runs.regionH 2 rfl H ?_; intro b1 σ H
  refine Ops.boxH (v := (.agg [(.v (.int .i64 f.Period)), (.v (.int .i64 f.Count)), (.v (.sl (f.Core.map (cL Span.cs)))), (.v (.sl (f.Odd.map Granule.cs)))])) (cs := [(.v (.int .i64 f.Period)), (.v (.int .i64 f.Count)), (.v (.sl (f.Core.map (cL Span.cs)))), (.v (.sl (f.Odd.map Granule.cs)))]) H (by omega) (by omega) rfl rfl rfl ?_; intro σ H
  refine Ops.allocH (cs := [(.v (.int .i64 0)), (.v (.int .i64 0)), .nils, .nils]) H (by omega) (by omega) rfl rfl ?_; intro σ H
  apply Ops.nil
  replace H := H.all
  apply Runs.then
  refine Runs.regionH 7 rfl H ?_; intro b2 σ H
  refine Ops.fieldAddrH (off := 0) (fo := 0) H 1 rfl rfl rfl rfl rfl nofun rfl ?_
  refine Ops.loadH (off := 0) (v := (.v (.int .i64 f.Period))) H 1 rfl rfl rfl rfl rfl nofun rfl ?_
  refine Ops.fieldAddrH (off := 0) (fo := 1) H 1 rfl rfl rfl rfl rfl nofun rfl ?_
  refine Ops.loadH (off := 1) (v := (.v (.int .i64 f.Count))) H 1 rfl rfl rfl rfl rfl nofun rfl ?_
  refine Ops.buildA (cs := [(.v (.int .i64 f.Period)), (.v (.int .i64 f.Count)), .nils, .nils]) rfl rfl ?_
  refine Ops.allocH (cs := [(.v (.int .i64 0)), (.v (.int .i64 0)), .nils, .nils]) H (by omega) (by omega) rfl rfl ?_; intro σ H
  refine Ops.storeH (off := 0) (v := (.agg [(.v (.int .i64 f.Period)), (.v (.int .i64 f.Count)), .nils, .nils])) (ys := [(.v (.int .i64 f.Period)), (.v (.int .i64 f.Count)), .nils, .nils]) (cells' := [(.v (.int .i64 f.Period)), (.v (.int .i64 f.Count)), .nils, .nils]) H 0 rfl rfl rfl rfl rfl rfl rfl rfl rfl nofun ?_; intro σ H
  apply Ops.nil
  replace H := H.all
  apply Runs.then
  apply Runs.then
  refine Runs.regionH 4 rfl H ?_; intro b3 σ H
  refine Ops.fieldAddrH (off := 0) (fo := 2) H 2 rfl rfl rfl rfl rfl nofun rfl ?_
  refine Ops.loadH (off := 2) (v := (.v (.sl (f.Core.map (cL Span.cs))))) H 2 rfl rfl rfl rfl rfl nofun rfl ?_
  refine Ops.lenPt (c := (cL Span.cs)) (xs := f.Core) rfl rfl rfl ?_
  refine Ops.move (v := (.v (.int .i64 0))) rfl rfl ?_
  apply Ops.nil
  replace H := H.all
  apply Runs.inBlock
  replace H := H.pushNil 31 1 true
  obtain ⟨y1, hj1, h⟩ := bind_some h
  obtain ⟨n1, hj1⟩ := loopO_iff.1 hj1
  refine Runs.mono (Runs.loopO hj1 (fun s2 e σ => ∃ (w3 : PV), EnvHas e [(1, (.ptr (b1 + 0) 4 0)), (2, (.ptr (b1 + 1) 4 0)), (3, (.ptr (b2 + 5) 4 0)), (14, (.v (.sl (f.Core.map (cL Span.cs))))), (15, (.v (.int .i64 (f.Core.length : Int)))), (16, (.v (.int .i64 s2.1)))] ∧ Hs σ [.sl w3 31 1 (s2.2.map (cL Span.cs)) true, .blk (b2 + 5) 25 [(.v (.int .i64 f.Period)), (.v (.int .i64 f.Count)), w3, .nils], .blk (b1 + 1) 25 [(.v (.int .i64 0)), (.v (.int .i64 0)), .nils, .nils], .blk (b1 + 0) 25 [(.v (.int .i64 f.Period)), (.v (.int .i64 f.Count)), (.v (.sl (f.Core.map (cL Span.cs)))), (.v (.sl (f.Odd.map Granule.cs)))]]) (fun y1 x e σ => ∃ (w4 : PV), x = .exit 0 ∧ EnvHas e [(1, (.ptr (b1 + 0) 4 0)), (2, (.ptr (b1 + 1) 4 0)), (3, (.ptr (b2 + 5) 4 0))] ∧ Hs σ [.sl w4 31 1 (y1.map (cL Span.cs)) true, .blk (b2 + 5) 25 [(.v (.int .i64 f.Period)), (.v (.int .i64 f.Count)), w4, .nils], .blk (b1 + 1) 25 [(.v (.int .i64 0)), (.v (.int .i64 0)), .nils, .nils], .blk (b1 + 0) 25 [(.v (.int .i64 f.Period)), (.v (.int .i64 f.Count)), (.v (.sl (f.Core.map (cL Span.cs)))), (.v (.sl (f.Odd.map Granule.cs)))]]) ⟨.nils, ⟨rfl, rfl, rfl, rfl, rfl, rfl, trivial⟩, H⟩ ?_) ?_
  · intro s2 e σ hI z h
    obtain ⟨w3, he, H⟩ := hI
    obtain ⟨e, rfl⟩ := he.ex
    unfold epactlow_AnewForm.s0 at h
    apply Runs.then
    refine Runs.regionH 1 rfl H ?_; intro b4 σ H
    refine Ops.int (m := s2.1) (m' := (f.Core.length : Int)) (r := .bool (decide (s2.1 < (f.Core.length : Int)))) rfl rfl rfl rfl rfl ?_
    apply Ops.nil
    replace H := H.all
    apply Runs.then
    refine Runs.whether (v := (decide (s2.1 < (f.Core.length : Int)))) rfl ?_ ?_ <;> intro hc1
    · replace h := cond_T hc1 h
      apply Runs.skip
      apply Runs.then
      apply Runs.inBlock
      apply Runs.then
      refine Runs.regionH 3 rfl H ?_; intro b5 σ H
      obtain ⟨x1, q1, h⟩ := bind_some h
      refine Ops.indexP (c := (cL Span.cs)) (u := x1) rfl rfl q1 rfl rfl rfl rfl ?_
      refine Ops.loadP (u := (.sl (x1.map Span.cs))) rfl rfl rfl rfl ?_
      refine Ops.assign (v := (.v (.sl (x1.map Span.cs)))) rfl rfl ?_
      apply Ops.nil
      replace H := H.all
      refine Runs.drawnH 8 rfl (by kernel_rfl) H ?_; intro b6 σ H B6
      refine Ops.fieldAddrH (off := 0) (fo := 2) H 1 rfl rfl rfl rfl rfl (fun _ => .inl ⟨B6 1 _ rfl _ rfl, nofun⟩) rfl ?_
      refine Ops.loadH (off := 2) (v := w3) H 1 rfl rfl rfl rfl rfl (fun _ => .inl ⟨B6 1 _ rfl _ rfl, nofun⟩) rfl ?_
      refine Ops.move (v := (.v (.sl (x1.map Span.cs)))) rfl rfl ?_
      obtain ⟨x2, q2, h⟩ := bind_some h
      refine Ops.call (ys := [(.v (.sl (x1.map Span.cs)))]) (r := (.v (.sl (x2.map Span.cs)))) rfl (epactlow_Anew_fn q2) rfl ?_
      refine Ops.buildS (sz := 1) ([x2].map (cL Span.cs)) H (by omega) (by omega) rfl rfl rfl rfl rfl rfl rfl rfl rfl ?_; intro σ H
      obtain ⟨x3, q3, h⟩ := bind_some h
      refine Ops.appendSt (c := (cL Span.cs)) (v := w3) (w := (.buf (b6 + 4) 1 1)) (xs := s2.2) (ys := [x2]) H (by omega) (by omega) 1 rfl rfl rfl (.s 0 rfl) q3 rfl rfl rfl rfl rfl (fun h => ⟨(fun id ho => .inl ⟨B6 0 _ rfl id ho, (fun _ => by kernel_rfl)⟩), (fun id ho => .inr ⟨4, (by cases ho; rfl), (fun h => nomatch h), by kernel_rfl, by decide⟩)⟩) rfl ?_; intro w5 σ H
      refine Ops.fieldAddrH (off := 0) (fo := 2) H 2 rfl rfl rfl rfl rfl (fun _ => .inl ⟨B6 1 _ rfl _ rfl, nofun⟩) rfl ?_
      refine Ops.storeH (off := 2) (v := w5) (ys := [w5]) (cells' := [(.v (.int .i64 f.Period)), (.v (.int .i64 f.Count)), w5, .nils]) H 2 rfl rfl rfl rfl (H.slCells (k := 1) rfl) rfl rfl rfl rfl (fun _ => .inl ⟨B6 1 _ rfl _ rfl, (fresh_static (by kernel_rfl))⟩) ?_; intro σ H
      apply Ops.nil
      replace H := H.all
      refine Runs.regionH 2 rfl H ?_; intro b7 σ H
      refine Ops.int (m := s2.1) (m' := 1) (r := .int .i64 (w64 (s2.1 + 1))) rfl rfl rfl rfl rfl ?_
      refine Ops.move (v := (.v (.int .i64 (w64 (s2.1 + 1))))) rfl rfl ?_
      apply Ops.nil
      replace H := H.all
      replace h := Option.some.inj h; subst h
      exact ⟨rfl, w5, ⟨rfl, rfl, rfl, rfl, rfl, rfl, trivial⟩, (H.erase 0)⟩
    · replace h := cond_F hc1 h
      apply Runs.exit
      replace h := Option.some.inj h; subst h
      exact ⟨nofun, ⟨w3, rfl, ⟨rfl, rfl, rfl, trivial⟩, H⟩⟩
  · rintro x e σ ⟨w6, rfl, he, H⟩
    obtain ⟨e, rfl⟩ := he.ex
    apply Runs.then
    apply Runs.then
    refine Runs.regionH 4 rfl H ?_; intro b8 σ H
    refine Ops.fieldAddrH (off := 0) (fo := 3) H 3 rfl rfl rfl rfl rfl nofun rfl ?_
    refine Ops.loadH (off := 3) (v := (.v (.sl (f.Odd.map Granule.cs)))) H 3 rfl rfl rfl rfl rfl nofun rfl ?_
    refine Ops.lenPt (c := Granule.cs) (xs := f.Odd) rfl rfl rfl ?_
    refine Ops.move (v := (.v (.int .i64 0))) rfl rfl ?_
    apply Ops.nil
    replace H := H.all
    apply Runs.inBlock
    replace H := H.pushNil 45 2 true
    obtain ⟨y2, hj2, h⟩ := bind_some h
    obtain ⟨n2, hj2⟩ := loopO_iff.1 hj2
    refine Runs.mono (Runs.loopO hj2 (fun s4 e σ => ∃ (w9 : PV), EnvHas e [(2, (.ptr (b1 + 1) 4 0)), (3, (.ptr (b2 + 5) 4 0)), (29, (.v (.sl (f.Odd.map Granule.cs)))), (30, (.v (.int .i64 (f.Odd.length : Int)))), (31, (.v (.int .i64 s4.1)))] ∧ Hs σ [.sl w9 45 2 (s4.2.map Granule.cs) true, .sl w6 31 1 (y1.map (cL Span.cs)) true, .blk (b2 + 5) 25 [(.v (.int .i64 f.Period)), (.v (.int .i64 f.Count)), w6, w9], .blk (b1 + 1) 25 [(.v (.int .i64 0)), (.v (.int .i64 0)), .nils, .nils]]) (fun y2 x e σ => ∃ (w10 : PV), x = .exit 2 ∧ EnvHas e [(2, (.ptr (b1 + 1) 4 0)), (3, (.ptr (b2 + 5) 4 0))] ∧ Hs σ [.sl w10 45 2 (y2.map Granule.cs) true, .sl w6 31 1 (y1.map (cL Span.cs)) true, .blk (b2 + 5) 25 [(.v (.int .i64 f.Period)), (.v (.int .i64 f.Count)), w6, w10], .blk (b1 + 1) 25 [(.v (.int .i64 0)), (.v (.int .i64 0)), .nils, .nils]]) ⟨.nils, ⟨rfl, rfl, rfl, rfl, rfl, trivial⟩, (H.erase 4)⟩ ?_) ?_
    · intro s4 e σ hI z h
      obtain ⟨w9, he, H⟩ := hI
      obtain ⟨e, rfl⟩ := he.ex
      unfold epactlow_AnewForm.s1 at h
      apply Runs.then
      refine Runs.regionH 1 rfl H ?_; intro b9 σ H
      refine Ops.int (m := s4.1) (m' := (f.Odd.length : Int)) (r := .bool (decide (s4.1 < (f.Odd.length : Int)))) rfl rfl rfl rfl rfl ?_
      apply Ops.nil
      replace H := H.all
      apply Runs.then
      refine Runs.whether (v := (decide (s4.1 < (f.Odd.length : Int)))) rfl ?_ ?_ <;> intro hc2
      · replace h := cond_T hc2 h
        apply Runs.skip
        apply Runs.then
        apply Runs.inBlock
        apply Runs.then
        refine Runs.regionH 4 rfl H ?_; intro b10 σ H
        obtain ⟨x4, q4, h⟩ := bind_some h
        refine Ops.indexP (c := Granule.cs) (u := x4) rfl rfl q4 rfl rfl rfl rfl ?_
        refine Ops.loadPA (cs := [(.int .i64 x4.Index), (.sl (x4.Ticks.map Span.cs))]) rfl rfl rfl rfl rfl rfl ?_
        refine Ops.allocH (cs := [(.v (.int .i64 0)), .nils]) H (by omega) (by omega) rfl rfl ?_; intro σ H
        refine Ops.storeH (off := 0) (v := (.agg [(.v (.int .i64 x4.Index)), (.v (.sl (x4.Ticks.map Span.cs)))])) (ys := [(.v (.int .i64 x4.Index)), (.v (.sl (x4.Ticks.map Span.cs)))]) (cells' := [(.v (.int .i64 x4.Index)), (.v (.sl (x4.Ticks.map Span.cs)))]) H 0 rfl rfl rfl rfl rfl rfl rfl rfl rfl nofun ?_; intro σ H
        apply Ops.nil
        replace H := H.all
        refine Runs.drawnH 12 rfl (by kernel_rfl) H ?_; intro b11 σ H B11
        refine Ops.fieldAddrH (off := 0) (fo := 3) H 3 rfl rfl rfl rfl rfl (fun _ => .inl ⟨B11 3 _ rfl _ rfl, nofun⟩) rfl ?_
        refine Ops.loadH (off := 3) (v := w9) H 3 rfl rfl rfl rfl rfl (fun _ => .inl ⟨B11 3 _ rfl _ rfl, nofun⟩) rfl ?_
        refine Ops.fieldAddrH (off := 0) (fo := 0) H 0 rfl rfl rfl rfl rfl (fun _ => .inl ⟨B11 0 _ rfl _ rfl, nofun⟩) rfl ?_
        refine Ops.loadH (off := 0) (v := (.v (.int .i64 x4.Index))) H 0 rfl rfl rfl rfl rfl (fun _ => .inl ⟨B11 0 _ rfl _ rfl, nofun⟩) rfl ?_
        refine Ops.fieldAddrH (off := 0) (fo := 1) H 0 rfl rfl rfl rfl rfl (fun _ => .inl ⟨B11 0 _ rfl _ rfl, nofun⟩) rfl ?_
        refine Ops.loadH (off := 1) (v := (.v (.sl (x4.Ticks.map Span.cs)))) H 0 rfl rfl rfl rfl rfl (fun _ => .inl ⟨B11 0 _ rfl _ rfl, nofun⟩) rfl ?_
        obtain ⟨x5, q5, h⟩ := bind_some h
        refine Ops.call (ys := [(.v (.sl (x4.Ticks.map Span.cs)))]) (r := (.v (.sl (x5.map Span.cs)))) rfl (epactlow_Anew_fn q5) rfl ?_
        refine Ops.buildA (cs := [(.v (.int .i64 x4.Index)), (.v (.sl (x5.map Span.cs)))]) rfl rfl ?_
        refine Ops.buildS (sz := 2) ([(Granule.mk x4.Index x5)].map Granule.cs) H (by omega) (by omega) rfl rfl rfl rfl rfl rfl rfl rfl rfl ?_; intro σ H
        obtain ⟨x6, q6, h⟩ := bind_some h
        refine Ops.appendSt (c := Granule.cs) (v := w9) (w := (.buf (b11 + 8) 1 2)) (xs := s4.2) (ys := [(Granule.mk x4.Index x5)]) H (by omega) (by omega) 2 rfl rfl rfl (.s 0 rfl) q6 rfl rfl rfl rfl rfl (fun h => ⟨(fun id ho => .inl ⟨B11 1 _ rfl id ho, (fun _ => by kernel_rfl)⟩), (fun id ho => .inr ⟨8, (by cases ho; rfl), (fun h => nomatch h), by kernel_rfl, by decide⟩)⟩) rfl ?_; intro w11 σ H
        refine Ops.fieldAddrH (off := 0) (fo := 3) H 4 rfl rfl rfl rfl rfl (fun _ => .inl ⟨B11 3 _ rfl _ rfl, nofun⟩) rfl ?_
        refine Ops.storeH (off := 3) (v := w11) (ys := [w11]) (cells' := [(.v (.int .i64 f.Period)), (.v (.int .i64 f.Count)), w6, w11]) H 4 rfl rfl rfl rfl (H.slCells (k := 2) rfl) rfl rfl rfl rfl (fun _ => .inl ⟨B11 3 _ rfl _ rfl, (fresh_static (by kernel_rfl))⟩) ?_; intro σ H
        apply Ops.nil
        replace H := H.all
        refine Runs.regionH 2 rfl H ?_; intro b12 σ H
        refine Ops.int (m := s4.1) (m' := 1) (r := .int .i64 (w64 (s4.1 + 1))) rfl rfl rfl rfl rfl ?_
        refine Ops.move (v := (.v (.int .i64 (w64 (s4.1 + 1))))) rfl rfl ?_
        apply Ops.nil
        replace H := H.all
        replace h := Option.some.inj h; subst h
        exact ⟨rfl, w11, ⟨rfl, rfl, rfl, rfl, rfl, trivial⟩, ((H.erase 1).erase 0)⟩
      · replace h := cond_F hc2 h
        apply Runs.exit
        replace h := Option.some.inj h; subst h
        exact ⟨nofun, ⟨w9, rfl, ⟨rfl, rfl, trivial⟩, H⟩⟩
    · rintro x e σ ⟨w12, rfl, he, H⟩
      obtain ⟨e, rfl⟩ := he.ex
      apply Runs.then
      refine Runs.regionH 2 rfl H ?_; intro b13 σ H
      refine Ops.loadHA (off := 0) (cs := [(.v (.int .i64 f.Period)), (.v (.int .i64 f.Count)), w6, w12]) H 2 rfl rfl rfl rfl rfl rfl rfl nofun rfl ?_
      refine Ops.storeH (off := 0) (v := (.agg [(.v (.int .i64 f.Period)), (.v (.int .i64 f.Count)), w6, w12])) (ys := [(.v (.int .i64 f.Period)), (.v (.int .i64 f.Count)), w6, w12]) (cells' := [(.v (.int .i64 f.Period)), (.v (.int .i64 f.Count)), w6, w12]) H 3 rfl rfl rfl rfl rfl rfl rfl rfl rfl nofun ?_; intro σ H
      apply Ops.nil
      replace H := H.all
      apply Runs.ret
      replace h := Option.some.inj h; subst h
      exact (Ends.H (xs := [(.agg [(.v (.int .i64 f.Period)), (.v (.int .i64 f.Count)), w6, w12])]) (.inr rfl) H (.agg (cs := [(.v (.int .i64 f.Period)), (.v (.int .i64 f.Count)), w6, w12]) (off := 0) 3 rfl rfl rfl rfl rfl rfl rfl .nil) (.one (.a (.cons (.v _) (.cons (.v _) (.cons (.s 1 rfl) (.cons (.s 0 rfl) .nil)))))))

set_option maxRecDepth 100000 in
set_option maxHeartbeats 4000000 in
theorem epactref06_bare_fn {f : Form} {r : Bool} (h : epactref06_bare f = some r) : Fn CX 51 [(.agg (vs (Form.cs f)))] (.v (.bool r)) := by
  refine Fn.ends Try.func51 rfl rfl rfl rfl rfl rfl ?_
  have H : Hs (⟨0, fun _ => .none⟩ : Heap) [] := Has.nil (Nat.le_refl _)
  generalize (⟨0, fun _ => .none⟩ : Heap) = σ at H ⊢
  unfold epactref06_bare at h
  apply Runs.then
  refine Runs.regionH 2 rfl H ?_; intro b1 σ H
  refine Ops.boxH (v := (.agg [(.v (.int .i64 f.Period)), (.v (.int .i64 f.Count)), (.v (.sl (f.Core.map (cL Span.cs)))), (.v (.sl (f.Odd.map Granule.cs)))])) (cs := [(.v (.int .i64 f.Period)), (.v (.int .i64 f.Count)), (.v (.sl (f.Core.map (cL Span.cs)))), (.v (.sl (f.Odd.map Granule.cs)))]) H (by omega) (by omega) rfl rfl rfl ?_; intro σ H
  refine Ops.assign (v := (.v (.bool false))) rfl rfl ?_
  apply Ops.nil
  replace H := H.all
  apply Runs.then
  apply Runs.then
  refine Runs.regionH 1 rfl H ?_; intro b2 σ H
  refine Ops.assign (v := (.v (.int .i64 0))) rfl rfl ?_
  apply Ops.nil
  replace H := H.all
  apply Runs.inBlock
  obtain ⟨y1, hj1, h⟩ := bind_some h
  obtain ⟨n1, hj1⟩ := loopO_iff.1 hj1
  refine Runs.mono (Runs.loopO hj1 (fun s1 e σ => EnvHas e [(1, (.ptr (b1 + 0) 4 0)), (3, (.v (.int .i64 s1)))] ∧ Hs σ [.blk (b1 + 0) 25 [(.v (.int .i64 f.Period)), (.v (.int .i64 f.Count)), (.v (.sl (f.Core.map (cL Span.cs)))), (.v (.sl (f.Odd.map Granule.cs)))]]) (fun y1 x e σ => (∃ a1, y1 = (.go a1) ∧ x = .exit 0 ∧ EnvHas e [] ∧ Hs σ []) ∨ (∃ r', y1 = (.ret r') ∧ x = .ret ∧ Ends CX Try.f51.results.toList (.v (.bool r')) x e σ)) ⟨⟨rfl, rfl, trivial⟩, H⟩ ?_) ?_
  · intro s1 e σ hI z h
    obtain ⟨he, H⟩ := hI
    obtain ⟨e, rfl⟩ := he.ex
    unfold epactref06_bare.s0 at h
    apply Runs.then
    apply Runs.then
    refine Runs.regionH 5 rfl H ?_; intro b3 σ H
    refine Ops.move (v := (.v (.int .i64 s1))) rfl rfl ?_
    refine Ops.fieldAddrH (off := 0) (fo := 2) H 0 rfl rfl rfl rfl rfl nofun rfl ?_
    refine Ops.loadH (off := 2) (v := (.v (.sl (f.Core.map (cL Span.cs))))) H 0 rfl rfl rfl rfl rfl nofun rfl ?_
    refine Ops.lenPt (c := (cL Span.cs)) (xs := f.Core) rfl rfl rfl ?_
    refine Ops.int (m := s1) (m' := (f.Core.length : Int)) (r := .bool (decide (s1 < (f.Core.length : Int)))) rfl rfl rfl rfl rfl ?_
    apply Ops.nil
    replace H := H.all
    refine Runs.whether (v := (decide (s1 < (f.Core.length : Int)))) rfl ?_ ?_ <;> intro hc1
    · replace h := cond_T hc1 h
      apply Runs.skip
      apply Runs.then
      apply Runs.inBlock
      apply Runs.then
      refine Runs.regionH 7 rfl H ?_; intro b4 σ H
      refine Ops.fieldAddrH (off := 0) (fo := 2) H 0 rfl rfl rfl rfl rfl nofun rfl ?_
      refine Ops.loadH (off := 2) (v := (.v (.sl (f.Core.map (cL Span.cs))))) H 0 rfl rfl rfl rfl rfl nofun rfl ?_
      refine Ops.move (v := (.v (.int .i64 s1))) rfl rfl ?_
      obtain ⟨x1, q1, h⟩ := bind_some h
      refine Ops.indexP (c := (cL Span.cs)) (u := x1) rfl rfl q1 rfl rfl rfl rfl ?_
      refine Ops.loadP (u := (.sl (x1.map Span.cs))) rfl rfl rfl rfl ?_
      refine Ops.lenPt (c := Span.cs) (xs := x1) rfl rfl rfl ?_
      refine Ops.int (m := (x1.length : Int)) (m' := 0) (r := .bool (decide ((x1.length : Int) > 0))) rfl rfl rfl rfl rfl ?_
      apply Ops.nil
      replace H := H.all
      refine Runs.whether (v := (decide ((x1.length : Int) > 0))) rfl ?_ ?_ <;> intro hc2
      · replace h := cond_T hc2 h
        apply Runs.then
        refine Runs.regionH 1 rfl H ?_; intro b5 σ H
        refine Ops.assign (v := (.v (.bool false))) rfl rfl ?_
        apply Ops.nil
        replace H := H.all
        apply Runs.ret
        replace h := Option.some.inj h; subst h
        exact ⟨nofun, (.inr ⟨_, rfl, rfl, (Ends.H (xs := [(.v (.bool false))]) (.inr rfl) H (.tmp (v := (.v (.bool false))) rfl .nil) (.one (.c (.v _))))⟩)⟩
      · replace h := cond_F hc2 h
        apply Runs.skip
        refine Runs.regionH 3 rfl H ?_; intro b6 σ H
        refine Ops.move (v := (.v (.int .i64 s1))) rfl rfl ?_
        refine Ops.int (m := s1) (m' := 1) (r := .int .i64 (w64 (s1 + 1))) rfl rfl rfl rfl rfl ?_
        refine Ops.assign (v := (.v (.int .i64 (w64 (s1 + 1))))) rfl rfl ?_
        apply Ops.nil
        replace H := H.all
        replace h := Option.some.inj h; subst h
        exact ⟨rfl, ⟨rfl, rfl, trivial⟩, H⟩
    · replace h := cond_F hc1 h
      apply Runs.exit
      replace h := Option.some.inj h; subst h
      exact ⟨nofun, (.inl ⟨_, rfl, rfl, trivial, (H.erase 0)⟩)⟩
  · rintro x e σ (⟨a2, rfl, rfl, he, H⟩ | ⟨r', rfl, rfl, hE⟩)
    · skip
      replace h := jgo h
      obtain ⟨e, rfl⟩ := he.ex
      apply Runs.then
      refine Runs.regionH 1 rfl H ?_; intro b7 σ H
      refine Ops.assign (v := (.v (.bool true))) rfl rfl ?_
      apply Ops.nil
      replace H := H.all
      apply Runs.ret
      replace h := Option.some.inj h; subst h
      exact (Ends.H (xs := [(.v (.bool true))]) (.inr rfl) H (.tmp (v := (.v (.bool true))) rfl .nil) (.one (.c (.v _))))
    · skip
      replace h := jret h
      replace h := Option.some.inj h; subst h
      exact hE

set_option maxRecDepth 100000 in
set_option maxHeartbeats 4000000 in
theorem epactref05_Down_fn {a : Int} {b : Int} {r : Int × Int} (h : epactref05_Down a b = some r) : Fn CX 67 [(.v (.int .i64 a)), (.v (.int .i64 b))] (.tup [(.v (.int .i64 r.1)), (.v (.int .i64 r.2))]) := by
  refine Fn.ends Try.func67 rfl rfl rfl rfl rfl rfl ?_
  have H : Hs (⟨0, fun _ => .none⟩ : Heap) [] := Has.nil (Nat.le_refl _)
  generalize (⟨0, fun _ => .none⟩ : Heap) = σ at H ⊢
  unfold epactref05_Down at h
  apply Runs.then
  refine Runs.regionH 2 rfl H ?_; intro b1 σ H
  refine Ops.assign (v := (.v (.int .i64 0))) rfl rfl ?_
  refine Ops.assign (v := (.v (.int .i64 0))) rfl rfl ?_
  apply Ops.nil
  replace H := H.all
  apply Runs.then
  refine Runs.regionH 4 rfl H ?_; intro b2 σ H
  refine Ops.move (v := (.v (.int .i64 a))) rfl rfl ?_
  refine Ops.move (v := (.v (.int .i64 b))) rfl rfl ?_
  obtain ⟨u1, q1, h⟩ := bind_some h
  refine Ops.quo (m := a) (m' := b) rfl rfl (nz_ne q1) rfl ?_
  refine Ops.assign (v := (.v (.int .i64 (w64 (a.tdiv b))))) rfl rfl ?_
  apply Ops.nil
  replace H := H.all
  apply Runs.then
  refine Runs.regionH 4 rfl H ?_; intro b3 σ H
  refine Ops.move (v := (.v (.int .i64 a))) rfl rfl ?_
  refine Ops.move (v := (.v (.int .i64 b))) rfl rfl ?_
  obtain ⟨u2, q2, h⟩ := bind_some h
  refine Ops.rem (m := a) (m' := b) rfl rfl (nz_ne q2) rfl ?_
  refine Ops.assign (v := (.v (.int .i64 (a.tmod b)))) rfl rfl ?_
  apply Ops.nil
  replace H := H.all
  apply Runs.then
  obtain ⟨y1, hj1, h⟩ := bind_some h
  refine Runs.mono (Q := fun x e σ => x = .normal ∧ EnvHas e [(6, (.v (.int .i64 y1.1))), (7, (.v (.int .i64 y1.2)))] ∧ Hs σ []) ?_ ?_
  · replace h := hj1
    apply Runs.then
    refine Runs.regionH 2 rfl H ?_; intro b4 σ H
    refine Ops.move (v := (.v (.int .i64 (a.tmod b)))) rfl rfl ?_
    refine Ops.int (m := (a.tmod b)) (m' := 0) (r := .bool (decide ((a.tmod b) < 0))) rfl rfl rfl rfl rfl ?_
    apply Ops.nil
    replace H := H.all
    refine Runs.whether (v := (decide ((a.tmod b) < 0))) rfl ?_ ?_ <;> intro hc1
    · replace h := cond_T hc1 h
      apply Runs.then
      refine Runs.regionH 3 rfl H ?_; intro b5 σ H
      refine Ops.move (v := (.v (.int .i64 (w64 (a.tdiv b))))) rfl rfl ?_
      refine Ops.int (m := (w64 (a.tdiv b))) (m' := 1) (r := .int .i64 (w64 ((w64 (a.tdiv b)) - 1))) rfl rfl rfl rfl rfl ?_
      refine Ops.assign (v := (.v (.int .i64 (w64 ((w64 (a.tdiv b)) - 1))))) rfl rfl ?_
      apply Ops.nil
      replace H := H.all
      refine Runs.regionH 4 rfl H ?_; intro b6 σ H
      refine Ops.move (v := (.v (.int .i64 (a.tmod b)))) rfl rfl ?_
      refine Ops.move (v := (.v (.int .i64 b))) rfl rfl ?_
      refine Ops.int (m := (a.tmod b)) (m' := b) (r := .int .i64 (w64 ((a.tmod b) + b))) rfl rfl rfl rfl rfl ?_
      refine Ops.assign (v := (.v (.int .i64 (w64 ((a.tmod b) + b))))) rfl rfl ?_
      apply Ops.nil
      replace H := H.all
      replace h := Option.some.inj h; subst h
      exact ⟨rfl, ⟨rfl, rfl, trivial⟩, H⟩
    · replace h := cond_F hc1 h
      apply Runs.skip
      replace h := Option.some.inj h; subst h
      exact ⟨rfl, ⟨rfl, rfl, trivial⟩, H⟩
  · rintro x e σ ⟨rfl, he, H⟩
    obtain ⟨e, rfl⟩ := he.ex
    apply Runs.then
    refine Runs.regionH 4 rfl H ?_; intro b7 σ H
    refine Ops.move (v := (.v (.int .i64 y1.1))) rfl rfl ?_
    refine Ops.move (v := (.v (.int .i64 y1.2))) rfl rfl ?_
    refine Ops.assign (v := (.v (.int .i64 y1.1))) rfl rfl ?_
    refine Ops.assign (v := (.v (.int .i64 y1.2))) rfl rfl ?_
    apply Ops.nil
    replace H := H.all
    apply Runs.ret
    replace h := Option.some.inj h; subst h
    exact (Ends.H (xs := [(.v (.int .i64 y1.1)), (.v (.int .i64 y1.2))]) (.inr rfl) H (.tmp (v := (.v (.int .i64 y1.1))) rfl (.tmp (v := (.v (.int .i64 y1.2))) rfl .nil)) (.two (.cons (.c (.v _)) (.cons (.c (.v _)) .nil))))

set_option maxRecDepth 100000 in
set_option maxHeartbeats 4000000 in
theorem epactref06_has_fn {f : Form} {i : Int} {r : (List Span) × Int} (h : epactref06_has f i = some r) : Fn CX 53 [(.agg (vs (Form.cs f))), (.v (.int .i64 i))] (.tup [(.v (.sl (r.1.map Span.cs))), (.v (.int .i64 r.2))]) := by
  refine Fn.ends Try.func53 rfl rfl rfl rfl rfl rfl ?_
  have H : Hs (⟨0, fun _ => .none⟩ : Heap) [] := Has.nil (Nat.le_refl _)
  generalize (⟨0, fun _ => .none⟩ : Heap) = σ at H ⊢
  unfold epactref06_has at h
  apply Runs.then
  refine Runs.regionH 3 rfl H ?_; intro b1 σ H
  refine Ops.boxH (v := (.agg [(.v (.int .i64 f.Period)), (.v (.int .i64 f.Count)), (.v (.sl (f.Core.map (cL Span.cs)))), (.v (.sl (f.Odd.map Granule.cs)))])) (cs := [(.v (.int .i64 f.Period)), (.v (.int .i64 f.Count)), (.v (.sl (f.Core.map (cL Span.cs)))), (.v (.sl (f.Odd.map Granule.cs)))]) H (by omega) (by omega) rfl rfl rfl ?_; intro σ H
  refine Ops.assign (v := .nils) rfl rfl ?_
  refine Ops.assign (v := (.v (.int .i64 0))) rfl rfl ?_
  apply Ops.nil
  replace H := H.all
  apply Runs.then
  refine Runs.regionH 9 rfl H ?_; intro b2 σ H
  refine Ops.move (v := (.v (.int .i64 i))) rfl rfl ?_
  refine Ops.fieldAddrH (off := 0) (fo := 1) H 0 rfl rfl rfl rfl rfl nofun rfl ?_
  refine Ops.loadH (off := 1) (v := (.v (.int .i64 f.Count))) H 0 rfl rfl rfl rfl rfl nofun rfl ?_
  obtain ⟨x1, q1, h⟩ := bind_some h
  refine Ops.call (ys := [(.v (.int .i64 i)), (.v (.int .i64 f.Count))]) (r := (.tup [(.v (.int .i64 x1.1)), (.v (.int .i64 x1.2))])) rfl (epactref05_Down_fn q1) rfl ?_
  refine Ops.move (v := (.tup [(.v (.int .i64 x1.1)), (.v (.int .i64 x1.2))])) rfl rfl ?_
  refine Ops.extract (v := (.v (.int .i64 x1.1))) rfl rfl rfl ?_
  refine Ops.extract (v := (.v (.int .i64 x1.2))) rfl rfl rfl ?_
  refine Ops.assign (v := (.v (.int .i64 x1.1))) rfl rfl ?_
  refine Ops.assign (v := (.v (.int .i64 x1.2))) rfl rfl ?_
  apply Ops.nil
  replace H := H.all
  apply Runs.then
  refine Runs.drawnH 11 rfl (by kernel_rfl) H ?_; intro b3 σ H B3
  refine Ops.fieldAddrH (off := 0) (fo := 2) H 0 rfl rfl rfl rfl rfl (fun _ => .inl ⟨B3 0 _ rfl _ rfl, nofun⟩) rfl ?_
  refine Ops.loadH (off := 2) (v := (.v (.sl (f.Core.map (cL Span.cs))))) H 0 rfl rfl rfl rfl rfl (fun _ => .inl ⟨B3 0 _ rfl _ rfl, nofun⟩) rfl ?_
  refine Ops.move (v := (.v (.int .i64 x1.2))) rfl rfl ?_
  obtain ⟨x2, q2, h⟩ := bind_some h
  refine Ops.indexP (c := (cL Span.cs)) (u := x2) rfl rfl q2 rfl rfl rfl rfl ?_
  refine Ops.loadP (u := (.sl (x2.map Span.cs))) rfl rfl rfl rfl ?_
  refine Ops.move (v := (.v (.int .i64 x1.1))) rfl rfl ?_
  refine Ops.fieldAddrH (off := 0) (fo := 0) H 0 rfl rfl rfl rfl rfl (fun _ => .inl ⟨B3 0 _ rfl _ rfl, nofun⟩) rfl ?_
  refine Ops.loadH (off := 0) (v := (.v (.int .i64 f.Period))) H 0 rfl rfl rfl rfl rfl (fun _ => .inl ⟨B3 0 _ rfl _ rfl, nofun⟩) rfl ?_
  refine Ops.int (m := x1.1) (m' := f.Period) (r := .int .i64 (w64 (x1.1 * f.Period))) rfl rfl rfl rfl rfl ?_
  refine Ops.assign (v := (.v (.sl (x2.map Span.cs)))) rfl rfl ?_
  refine Ops.assign (v := (.v (.int .i64 (w64 (x1.1 * f.Period))))) rfl rfl ?_
  apply Ops.nil
  replace H := H.all
  apply Runs.ret
  replace h := Option.some.inj h; subst h
  exact (Ends.H (xs := [(.v (.sl (x2.map Span.cs))), (.v (.int .i64 (w64 (x1.1 * f.Period))))]) (.inr rfl) H (.tmp (v := (.v (.sl (x2.map Span.cs)))) rfl (.tmp (v := (.v (.int .i64 (w64 (x1.1 * f.Period))))) rfl .nil)) (.two (.cons (.c (.v _)) (.cons (.c (.v _)) .nil))))

end Go.Dn

set_option linter.unusedVariables false
set_option linter.unusedSimpArgs false
namespace Go.Dn
open Go Go.Proofs

set_option maxRecDepth 100000 in
set_option maxHeartbeats 4000000 in
theorem epactref06_same_fn {a : (List Span)} {x' : Int} {b : (List Span)} {y : Int} {r : Bool} (h : epactref06_same a x' b y = some r) : Fn CX 54 [(.v (.sl (a.map Span.cs))), (.v (.int .i64 x')), (.v (.sl (b.map Span.cs))), (.v (.int .i64 y))] (.v (.bool r)) := by
  refine Fn.ends Try.func54 rfl rfl rfl rfl rfl rfl ?_
  have H : Hs (⟨0, fun _ => .none⟩ : Heap) [] := Has.nil (Nat.le_refl _)
  generalize (⟨0, fun _ => .none⟩ : Heap) = σ at H ⊢
  unfold epactref06_same at h
  apply Runs.then
  refine Runs.regionH 1 rfl H ?_; intro b1 σ H
  refine Ops.assign (v := (.v (.bool false))) rfl rfl ?_
  apply Ops.nil
  replace H := H.all
  apply Runs.then
  apply Runs.then
  refine Runs.regionH 5 rfl H ?_; intro b2 σ H
  refine Ops.move (v := (.v (.sl (a.map Span.cs)))) rfl rfl ?_
  refine Ops.lenPt (c := Span.cs) (xs := a) rfl rfl rfl ?_
  refine Ops.move (v := (.v (.sl (b.map Span.cs)))) rfl rfl ?_
  refine Ops.lenPt (c := Span.cs) (xs := b) rfl rfl rfl ?_
  refine Ops.int (m := (a.length : Int)) (m' := (b.length : Int)) (r := .bool ((a.length : Int) != (b.length : Int))) rfl rfl rfl rfl rfl ?_
  apply Ops.nil
  replace H := H.all
  refine Runs.whether (v := ((a.length : Int) != (b.length : Int))) rfl ?_ ?_ <;> intro hc1
  · replace h := cond_T hc1 h
    apply Runs.then
    refine Runs.regionH 1 rfl H ?_; intro b3 σ H
    refine Ops.assign (v := (.v (.bool false))) rfl rfl ?_
    apply Ops.nil
    replace H := H.all
    apply Runs.ret
    replace h := Option.some.inj h; subst h
    exact (Ends.H (xs := [(.v (.bool false))]) (.inr rfl) H (.tmp (v := (.v (.bool false))) rfl .nil) (.one (.c (.v _))))
  · replace h := cond_F hc1 h
    apply Runs.skip
    apply Runs.then
    apply Runs.then
    refine Runs.regionH 1 rfl H ?_; intro b4 σ H
    refine Ops.assign (v := (.v (.int .i64 0))) rfl rfl ?_
    apply Ops.nil
    replace H := H.all
    apply Runs.inBlock
    obtain ⟨y1, hj1, h⟩ := bind_some h
    obtain ⟨n1, hj1⟩ := loopO_iff.1 hj1
    refine Runs.mono (Runs.loopO hj1 (fun s1 e σ => EnvHas e [(0, (.v (.sl (a.map Span.cs)))), (1, (.v (.int .i64 x'))), (2, (.v (.sl (b.map Span.cs)))), (3, (.v (.int .i64 y))), (9, (.v (.int .i64 s1)))] ∧ Hs σ []) (fun y1 x e σ => (∃ a1, y1 = (.go a1) ∧ x = .exit 0 ∧ EnvHas e [] ∧ Hs σ []) ∨ (∃ r', y1 = (.ret r') ∧ x = .ret ∧ Ends CX Try.f54.results.toList (.v (.bool r')) x e σ)) ⟨⟨rfl, rfl, rfl, rfl, rfl, trivial⟩, H⟩ ?_) ?_
    · intro s1 e σ hI z h
      obtain ⟨he, H⟩ := hI
      obtain ⟨e, rfl⟩ := he.ex
      unfold epactref06_same.s0 at h
      apply Runs.then
      apply Runs.then
      refine Runs.regionH 4 rfl H ?_; intro b5 σ H
      refine Ops.move (v := (.v (.int .i64 s1))) rfl rfl ?_
      refine Ops.move (v := (.v (.sl (a.map Span.cs)))) rfl rfl ?_
      refine Ops.lenPt (c := Span.cs) (xs := a) rfl rfl rfl ?_
      refine Ops.int (m := s1) (m' := (a.length : Int)) (r := .bool (decide (s1 < (a.length : Int)))) rfl rfl rfl rfl rfl ?_
      apply Ops.nil
      replace H := H.all
      refine Runs.whether (v := (decide (s1 < (a.length : Int)))) rfl ?_ ?_ <;> intro hc2
      · replace h := cond_T hc2 h
        apply Runs.skip
        apply Runs.then
        apply Runs.inBlock
        apply Runs.then
        refine Runs.drawnH 32 rfl (by kernel_rfl) H ?_; intro b6 σ H B6
        refine Ops.move (v := (.v (.sl (a.map Span.cs)))) rfl rfl ?_
        refine Ops.move (v := (.v (.int .i64 s1))) rfl rfl ?_
        obtain ⟨x1, q1, h⟩ := bind_some h
        refine Ops.indexP (c := Span.cs) (u := x1) rfl rfl q1 rfl rfl rfl rfl ?_
        refine Ops.fieldAddrP rfl rfl rfl rfl ?_
        refine Ops.loadP (u := (.int .i64 x1.From)) rfl rfl rfl rfl ?_
        refine Ops.move (v := (.v (.int .i64 x'))) rfl rfl ?_
        refine Ops.int (m := x1.From) (m' := x') (r := .int .i64 (w64 (x1.From + x'))) rfl rfl rfl rfl rfl ?_
        refine Ops.move (v := (.v (.sl (b.map Span.cs)))) rfl rfl ?_
        refine Ops.move (v := (.v (.int .i64 s1))) rfl rfl ?_
        obtain ⟨x2, q2, h⟩ := bind_some h
        refine Ops.indexP (c := Span.cs) (u := x2) rfl rfl q2 rfl rfl rfl rfl ?_
        refine Ops.fieldAddrP rfl rfl rfl rfl ?_
        refine Ops.loadP (u := (.int .i64 x2.From)) rfl rfl rfl rfl ?_
        refine Ops.move (v := (.v (.int .i64 y))) rfl rfl ?_
        refine Ops.int (m := x2.From) (m' := y) (r := .int .i64 (w64 (x2.From + y))) rfl rfl rfl rfl rfl ?_
        refine Ops.int (m := (w64 (x1.From + x'))) (m' := (w64 (x2.From + y))) (r := .bool ((w64 (x1.From + x')) != (w64 (x2.From + y)))) rfl rfl rfl rfl rfl ?_
        refine Ops.move (v := (.v (.bool ((w64 (x1.From + x')) != (w64 (x2.From + y)))))) rfl rfl ?_
        obtain ⟨y2, hj2, h⟩ := bind_some h
        refine Ops.mid 16 (K1 := fun e σ => EnvHas e [(52, (.v (.bool y2))), (0, (.v (.sl (a.map Span.cs)))), (1, (.v (.int .i64 x'))), (2, (.v (.sl (b.map Span.cs)))), (3, (.v (.int .i64 y))), (9, (.v (.int .i64 s1)))] ∧ Has σ (b6 + 32) (b6 + 32) []) rfl ?_ ?_
        · refine Ops.split rfl rfl ?_ ?_ <;> intro hc3
          · replace h := cond_T hc3 hj2
            refine Ops.pass rfl rfl rfl ?_
            refine Ops.pass rfl rfl rfl ?_
            refine Ops.pass rfl rfl rfl ?_
            refine Ops.pass rfl rfl rfl ?_
            refine Ops.pass rfl rfl rfl ?_
            refine Ops.pass rfl rfl rfl ?_
            refine Ops.pass rfl rfl rfl ?_
            refine Ops.pass rfl rfl rfl ?_
            refine Ops.pass rfl rfl rfl ?_
            refine Ops.pass rfl rfl rfl ?_
            refine Ops.pass rfl rfl rfl ?_
            refine Ops.pass rfl rfl rfl ?_
            refine Ops.pass rfl rfl rfl ?_
            refine Ops.pass rfl rfl rfl ?_
            refine Ops.pass rfl rfl rfl ?_
            refine Ops.pickT (v := (.v (.bool true))) rfl rfl rfl ?_
            apply Ops.nil
            replace h := Option.some.inj h; subst h
            exact ⟨⟨rfl, rfl, rfl, rfl, rfl, rfl, trivial⟩, H.weak (by omega) (Nat.le_refl _)⟩
          · replace h := cond_F hc3 hj2
            refine Ops.wanted rfl rfl ?_
            refine Ops.move (v := (.v (.sl (a.map Span.cs)))) rfl rfl ?_
            refine Ops.wanted rfl rfl ?_
            refine Ops.move (v := (.v (.int .i64 s1))) rfl rfl ?_
            refine Ops.wanted rfl rfl ?_
            obtain ⟨x3, q3, h⟩ := bind_some h
            refine Ops.indexP (c := Span.cs) (u := x3) rfl rfl q3 rfl rfl rfl rfl ?_
            refine Ops.wanted rfl rfl ?_
            refine Ops.fieldAddrP rfl rfl rfl rfl ?_
            refine Ops.wanted rfl rfl ?_
            refine Ops.loadP (u := (.int .i64 x3.To)) rfl rfl rfl rfl ?_
            refine Ops.wanted rfl rfl ?_
            refine Ops.move (v := (.v (.int .i64 x'))) rfl rfl ?_
            refine Ops.wanted rfl rfl ?_
            refine Ops.int (m := x3.To) (m' := x') (r := .int .i64 (w64 (x3.To + x'))) rfl rfl rfl rfl rfl ?_
            refine Ops.wanted rfl rfl ?_
            refine Ops.move (v := (.v (.sl (b.map Span.cs)))) rfl rfl ?_
            refine Ops.wanted rfl rfl ?_
            refine Ops.move (v := (.v (.int .i64 s1))) rfl rfl ?_
            refine Ops.wanted rfl rfl ?_
            obtain ⟨x4, q4, h⟩ := bind_some h
            refine Ops.indexP (c := Span.cs) (u := x4) rfl rfl q4 rfl rfl rfl rfl ?_
            refine Ops.wanted rfl rfl ?_
            refine Ops.fieldAddrP rfl rfl rfl rfl ?_
            refine Ops.wanted rfl rfl ?_
            refine Ops.loadP (u := (.int .i64 x4.To)) rfl rfl rfl rfl ?_
            refine Ops.wanted rfl rfl ?_
            refine Ops.move (v := (.v (.int .i64 y))) rfl rfl ?_
            refine Ops.wanted rfl rfl ?_
            refine Ops.int (m := x4.To) (m' := y) (r := .int .i64 (w64 (x4.To + y))) rfl rfl rfl rfl rfl ?_
            refine Ops.wanted rfl rfl ?_
            refine Ops.int (m := (w64 (x3.To + x'))) (m' := (w64 (x4.To + y))) (r := .bool ((w64 (x3.To + x')) != (w64 (x4.To + y)))) rfl rfl rfl rfl rfl ?_
            refine Ops.pickF (v := (.v (.bool ((w64 (x3.To + x')) != (w64 (x4.To + y)))))) rfl rfl rfl ?_
            apply Ops.nil
            replace h := Option.some.inj h; subst h
            exact ⟨⟨rfl, rfl, rfl, rfl, rfl, rfl, trivial⟩, H.weak (by omega) (Nat.le_refl _)⟩
        · rintro e σ ⟨he, H⟩
          obtain ⟨e, rfl⟩ := he.ex
          apply Ops.nil
          replace H := H.all
          refine Runs.whether (v := y2) rfl ?_ ?_ <;> intro hc4
          · replace h := cond_T hc4 h
            apply Runs.then
            refine Runs.regionH 1 rfl H ?_; intro b7 σ H
            refine Ops.assign (v := (.v (.bool false))) rfl rfl ?_
            apply Ops.nil
            replace H := H.all
            apply Runs.ret
            replace h := Option.some.inj h; subst h
            exact ⟨nofun, (.inr ⟨_, rfl, rfl, (Ends.H (xs := [(.v (.bool false))]) (.inr rfl) H (.tmp (v := (.v (.bool false))) rfl .nil) (.one (.c (.v _))))⟩)⟩
          · replace h := cond_F hc4 h
            apply Runs.skip
            refine Runs.regionH 3 rfl H ?_; intro b8 σ H
            refine Ops.move (v := (.v (.int .i64 s1))) rfl rfl ?_
            refine Ops.int (m := s1) (m' := 1) (r := .int .i64 (w64 (s1 + 1))) rfl rfl rfl rfl rfl ?_
            refine Ops.assign (v := (.v (.int .i64 (w64 (s1 + 1))))) rfl rfl ?_
            apply Ops.nil
            replace H := H.all
            replace h := Option.some.inj h; subst h
            exact ⟨rfl, ⟨rfl, rfl, rfl, rfl, rfl, trivial⟩, H⟩
      · replace h := cond_F hc2 h
        apply Runs.exit
        replace h := Option.some.inj h; subst h
        exact ⟨nofun, (.inl ⟨_, rfl, rfl, trivial, H⟩)⟩
    · rintro x e σ (⟨a2, rfl, rfl, he, H⟩ | ⟨r', rfl, rfl, hE⟩)
      · skip
        replace h := jgo h
        obtain ⟨e, rfl⟩ := he.ex
        apply Runs.then
        refine Runs.regionH 1 rfl H ?_; intro b9 σ H
        refine Ops.assign (v := (.v (.bool true))) rfl rfl ?_
        apply Ops.nil
        replace H := H.all
        apply Runs.ret
        replace h := Option.some.inj h; subst h
        exact (Ends.H (xs := [(.v (.bool true))]) (.inr rfl) H (.tmp (v := (.v (.bool true))) rfl .nil) (.one (.c (.v _))))
      · skip
        replace h := jret h
        replace h := Option.some.inj h; subst h
        exact hE

set_option maxRecDepth 100000 in
set_option maxHeartbeats 4000000 in
theorem epactref06_turns_fn {f : Form} {d : Int} {r : Bool} (h : epactref06_turns f d = some r) : Fn CX 52 [(.agg (vs (Form.cs f))), (.v (.int .i64 d))] (.v (.bool r)) := by
  refine Fn.ends Try.func52 rfl rfl rfl rfl rfl rfl ?_
  have H : Hs (⟨0, fun _ => .none⟩ : Heap) [] := Has.nil (Nat.le_refl _)
  generalize (⟨0, fun _ => .none⟩ : Heap) = σ at H ⊢
  unfold epactref06_turns at h
  apply Runs.then
  refine Runs.regionH 2 rfl H ?_; intro b1 σ H
  refine Ops.boxH (v := (.agg [(.v (.int .i64 f.Period)), (.v (.int .i64 f.Count)), (.v (.sl (f.Core.map (cL Span.cs)))), (.v (.sl (f.Odd.map Granule.cs)))])) (cs := [(.v (.int .i64 f.Period)), (.v (.int .i64 f.Count)), (.v (.sl (f.Core.map (cL Span.cs)))), (.v (.sl (f.Odd.map Granule.cs)))]) H (by omega) (by omega) rfl rfl rfl ?_; intro σ H
  refine Ops.assign (v := (.v (.bool false))) rfl rfl ?_
  apply Ops.nil
  replace H := H.all
  apply Runs.then
  apply Runs.then
  refine Runs.regionH 15 rfl H ?_; intro b2 σ H
  refine Ops.fieldAddrH (off := 0) (fo := 1) H 0 rfl rfl rfl rfl rfl nofun rfl ?_
  refine Ops.loadH (off := 1) (v := (.v (.int .i64 f.Count))) H 0 rfl rfl rfl rfl rfl nofun rfl ?_
  refine Ops.move (v := (.v (.int .i64 d))) rfl rfl ?_
  obtain ⟨u1, q1, h⟩ := bind_some h
  refine Ops.rem (m := f.Count) (m' := d) rfl rfl (nz_ne q1) rfl ?_
  refine Ops.int (m := (f.Count.tmod d)) (m' := 0) (r := .bool ((f.Count.tmod d) != 0)) rfl rfl rfl rfl rfl ?_
  refine Ops.move (v := (.v (.bool ((f.Count.tmod d) != 0)))) rfl rfl ?_
  obtain ⟨y1, hj1, h⟩ := bind_some h
  refine Ops.mid 9 (K1 := fun e σ => EnvHas e [(24, (.v (.bool y1))), (1, (.v (.int .i64 d))), (2, (.ptr (b1 + 0) 4 0))] ∧ Has σ (b2 + 15) (b2 + 15) [.blk (b1 + 0) 25 [(.v (.int .i64 f.Period)), (.v (.int .i64 f.Count)), (.v (.sl (f.Core.map (cL Span.cs)))), (.v (.sl (f.Odd.map Granule.cs)))]]) rfl ?_ ?_
  · refine Ops.split rfl rfl ?_ ?_ <;> intro hc1
    · replace h := cond_T hc1 hj1
      refine Ops.pass rfl rfl rfl ?_
      refine Ops.pass rfl rfl rfl ?_
      refine Ops.pass rfl rfl rfl ?_
      refine Ops.pass rfl rfl rfl ?_
      refine Ops.pass rfl rfl rfl ?_
      refine Ops.pass rfl rfl rfl ?_
      refine Ops.pass rfl rfl rfl ?_
      refine Ops.pass rfl rfl rfl ?_
      refine Ops.pickT (v := (.v (.bool true))) rfl rfl rfl ?_
      apply Ops.nil
      replace h := Option.some.inj h; subst h
      exact ⟨⟨rfl, rfl, rfl, trivial⟩, H.weak (by omega) (Nat.le_refl _)⟩
    · replace h := cond_F hc1 hj1
      refine Ops.wanted rfl rfl ?_
      refine Ops.fieldAddrH (off := 0) (fo := 0) H 0 rfl rfl rfl rfl rfl nofun rfl ?_
      refine Ops.wanted rfl rfl ?_
      refine Ops.loadH (off := 0) (v := (.v (.int .i64 f.Period))) H 0 rfl rfl rfl rfl rfl nofun rfl ?_
      refine Ops.wanted rfl rfl ?_
      refine Ops.move (v := (.v (.int .i64 d))) rfl rfl ?_
      refine Ops.wanted rfl rfl ?_
      refine Ops.int (m := f.Period) (m' := d) (r := .int .i64 (w64 (f.Period * d))) rfl rfl rfl rfl rfl ?_
      refine Ops.wanted rfl rfl ?_
      refine Ops.fieldAddrH (off := 0) (fo := 1) H 0 rfl rfl rfl rfl rfl nofun rfl ?_
      refine Ops.wanted rfl rfl ?_
      refine Ops.loadH (off := 1) (v := (.v (.int .i64 f.Count))) H 0 rfl rfl rfl rfl rfl nofun rfl ?_
      refine Ops.wanted rfl rfl ?_
      obtain ⟨u2, q2, h⟩ := bind_some h
      refine Ops.rem (m := (w64 (f.Period * d))) (m' := f.Count) rfl rfl (nz_ne q2) rfl ?_
      refine Ops.wanted rfl rfl ?_
      refine Ops.int (m := ((w64 (f.Period * d)).tmod f.Count)) (m' := 0) (r := .bool (((w64 (f.Period * d)).tmod f.Count) != 0)) rfl rfl rfl rfl rfl ?_
      refine Ops.pickF (v := (.v (.bool (((w64 (f.Period * d)).tmod f.Count) != 0)))) rfl rfl rfl ?_
      apply Ops.nil
      replace h := Option.some.inj h; subst h
      exact ⟨⟨rfl, rfl, rfl, trivial⟩, H.weak (by omega) (Nat.le_refl _)⟩
  · rintro e σ ⟨he, H⟩
    obtain ⟨e, rfl⟩ := he.ex
    apply Ops.nil
    replace H := H.all
    refine Runs.whether (v := y1) rfl ?_ ?_ <;> intro hc2
    · replace h := cond_T hc2 h
      apply Runs.then
      refine Runs.regionH 1 rfl H ?_; intro b3 σ H
      refine Ops.assign (v := (.v (.bool false))) rfl rfl ?_
      apply Ops.nil
      replace H := H.all
      apply Runs.ret
      replace h := Option.some.inj h; subst h
      exact (Ends.H (xs := [(.v (.bool false))]) (.inr rfl) H (.tmp (v := (.v (.bool false))) rfl .nil) (.one (.c (.v _))))
    · replace h := cond_F hc2 h
      apply Runs.skip
      apply Runs.then
      apply Runs.then
      refine Runs.regionH 1 rfl H ?_; intro b4 σ H
      refine Ops.assign (v := (.v (.int .i64 0))) rfl rfl ?_
      apply Ops.nil
      replace H := H.all
      apply Runs.inBlock
      obtain ⟨y2, hj2, h⟩ := bind_some h
      obtain ⟨n1, hj2⟩ := loopO_iff.1 hj2
      refine Runs.mono (Runs.loopO hj2 (fun s1 e σ => EnvHas e [(1, (.v (.int .i64 d))), (2, (.ptr (b1 + 0) 4 0)), (5, (.v (.int .i64 s1)))] ∧ Hs σ [.blk (b1 + 0) 25 [(.v (.int .i64 f.Period)), (.v (.int .i64 f.Count)), (.v (.sl (f.Core.map (cL Span.cs)))), (.v (.sl (f.Odd.map Granule.cs)))]]) (fun y2 x e σ => (∃ a1, y2 = (.go a1) ∧ x = .exit 0 ∧ EnvHas e [] ∧ Hs σ []) ∨ (∃ r', y2 = (.ret r') ∧ x = .ret ∧ Ends CX Try.f52.results.toList (.v (.bool r')) x e σ)) ⟨⟨rfl, rfl, rfl, trivial⟩, H⟩ ?_) ?_
      · intro s1 e σ hI z h
        obtain ⟨he, H⟩ := hI
        obtain ⟨e, rfl⟩ := he.ex
        unfold epactref06_turns.s0 at h
        apply Runs.then
        apply Runs.then
        refine Runs.regionH 4 rfl H ?_; intro b5 σ H
        refine Ops.move (v := (.v (.int .i64 s1))) rfl rfl ?_
        refine Ops.fieldAddrH (off := 0) (fo := 1) H 0 rfl rfl rfl rfl rfl nofun rfl ?_
        refine Ops.loadH (off := 1) (v := (.v (.int .i64 f.Count))) H 0 rfl rfl rfl rfl rfl nofun rfl ?_
        refine Ops.int (m := s1) (m' := f.Count) (r := .bool (decide (s1 < f.Count))) rfl rfl rfl rfl rfl ?_
        apply Ops.nil
        replace H := H.all
        refine Runs.whether (v := (decide (s1 < f.Count))) rfl ?_ ?_ <;> intro hc3
        · replace h := cond_T hc3 h
          apply Runs.skip
          apply Runs.then
          apply Runs.inBlock
          apply Runs.then
          refine Runs.regionH 8 rfl H ?_; intro b6 σ H
          refine Ops.loadHA (off := 0) (cs := [(.v (.int .i64 f.Period)), (.v (.int .i64 f.Count)), (.v (.sl (f.Core.map (cL Span.cs)))), (.v (.sl (f.Odd.map Granule.cs)))]) H 0 rfl rfl rfl rfl rfl rfl rfl nofun rfl ?_
          refine Ops.move (v := (.v (.int .i64 s1))) rfl rfl ?_
          obtain ⟨x1, q3, h⟩ := bind_some h
          refine Ops.call (ys := [(.agg [(.v (.int .i64 f.Period)), (.v (.int .i64 f.Count)), (.v (.sl (f.Core.map (cL Span.cs)))), (.v (.sl (f.Odd.map Granule.cs)))]), (.v (.int .i64 s1))]) (r := (.tup [(.v (.sl (x1.1.map Span.cs))), (.v (.int .i64 x1.2))])) rfl (epactref06_has_fn q3) rfl ?_
          refine Ops.move (v := (.tup [(.v (.sl (x1.1.map Span.cs))), (.v (.int .i64 x1.2))])) rfl rfl ?_
          refine Ops.extract (v := (.v (.sl (x1.1.map Span.cs)))) rfl rfl rfl ?_
          refine Ops.extract (v := (.v (.int .i64 x1.2))) rfl rfl rfl ?_
          refine Ops.assign (v := (.v (.sl (x1.1.map Span.cs)))) rfl rfl ?_
          refine Ops.assign (v := (.v (.int .i64 x1.2))) rfl rfl ?_
          apply Ops.nil
          replace H := H.all
          apply Runs.then
          refine Runs.regionH 10 rfl H ?_; intro b7 σ H
          refine Ops.loadHA (off := 0) (cs := [(.v (.int .i64 f.Period)), (.v (.int .i64 f.Count)), (.v (.sl (f.Core.map (cL Span.cs)))), (.v (.sl (f.Odd.map Granule.cs)))]) H 0 rfl rfl rfl rfl rfl rfl rfl nofun rfl ?_
          refine Ops.move (v := (.v (.int .i64 s1))) rfl rfl ?_
          refine Ops.move (v := (.v (.int .i64 d))) rfl rfl ?_
          refine Ops.int (m := s1) (m' := d) (r := .int .i64 (w64 (s1 + d))) rfl rfl rfl rfl rfl ?_
          obtain ⟨x2, q4, h⟩ := bind_some h
          refine Ops.call (ys := [(.agg [(.v (.int .i64 f.Period)), (.v (.int .i64 f.Count)), (.v (.sl (f.Core.map (cL Span.cs)))), (.v (.sl (f.Odd.map Granule.cs)))]), (.v (.int .i64 (w64 (s1 + d))))]) (r := (.tup [(.v (.sl (x2.1.map Span.cs))), (.v (.int .i64 x2.2))])) rfl (epactref06_has_fn q4) rfl ?_
          refine Ops.move (v := (.tup [(.v (.sl (x2.1.map Span.cs))), (.v (.int .i64 x2.2))])) rfl rfl ?_
          refine Ops.extract (v := (.v (.sl (x2.1.map Span.cs)))) rfl rfl rfl ?_
          refine Ops.extract (v := (.v (.int .i64 x2.2))) rfl rfl rfl ?_
          refine Ops.assign (v := (.v (.sl (x2.1.map Span.cs)))) rfl rfl ?_
          refine Ops.assign (v := (.v (.int .i64 x2.2))) rfl rfl ?_
          apply Ops.nil
          replace H := H.all
          apply Runs.then
          refine Runs.regionH 14 rfl H ?_; intro b8 σ H
          refine Ops.move (v := (.v (.sl (x1.1.map Span.cs)))) rfl rfl ?_
          refine Ops.move (v := (.v (.int .i64 x1.2))) rfl rfl ?_
          refine Ops.fieldAddrH (off := 0) (fo := 0) H 0 rfl rfl rfl rfl rfl nofun rfl ?_
          refine Ops.loadH (off := 0) (v := (.v (.int .i64 f.Period))) H 0 rfl rfl rfl rfl rfl nofun rfl ?_
          refine Ops.move (v := (.v (.int .i64 d))) rfl rfl ?_
          refine Ops.int (m := f.Period) (m' := d) (r := .int .i64 (w64 (f.Period * d))) rfl rfl rfl rfl rfl ?_
          refine Ops.fieldAddrH (off := 0) (fo := 1) H 0 rfl rfl rfl rfl rfl nofun rfl ?_
          refine Ops.loadH (off := 1) (v := (.v (.int .i64 f.Count))) H 0 rfl rfl rfl rfl rfl nofun rfl ?_
          obtain ⟨u3, q5, h⟩ := bind_some h
          refine Ops.quo (m := (w64 (f.Period * d))) (m' := f.Count) rfl rfl (nz_ne q5) rfl ?_
          refine Ops.int (m := x1.2) (m' := (w64 ((w64 (f.Period * d)).tdiv f.Count))) (r := .int .i64 (w64 (x1.2 + (w64 ((w64 (f.Period * d)).tdiv f.Count))))) rfl rfl rfl rfl rfl ?_
          refine Ops.move (v := (.v (.sl (x2.1.map Span.cs)))) rfl rfl ?_
          refine Ops.move (v := (.v (.int .i64 x2.2))) rfl rfl ?_
          obtain ⟨x3, q6, h⟩ := bind_some h
          refine Ops.call (ys := [(.v (.sl (x1.1.map Span.cs))), (.v (.int .i64 (w64 (x1.2 + (w64 ((w64 (f.Period * d)).tdiv f.Count)))))), (.v (.sl (x2.1.map Span.cs))), (.v (.int .i64 x2.2))]) (r := (.v (.bool x3))) rfl (epactref06_same_fn q6) rfl ?_
          refine Ops.not (b := x3) rfl rfl ?_
          apply Ops.nil
          replace H := H.all
          refine Runs.whether (v := (!x3)) rfl ?_ ?_ <;> intro hc4
          · replace h := cond_T hc4 h
            apply Runs.then
            refine Runs.regionH 1 rfl H ?_; intro b9 σ H
            refine Ops.assign (v := (.v (.bool false))) rfl rfl ?_
            apply Ops.nil
            replace H := H.all
            apply Runs.ret
            replace h := Option.some.inj h; subst h
            exact ⟨nofun, (.inr ⟨_, rfl, rfl, (Ends.H (xs := [(.v (.bool false))]) (.inr rfl) H (.tmp (v := (.v (.bool false))) rfl .nil) (.one (.c (.v _))))⟩)⟩
          · replace h := cond_F hc4 h
            apply Runs.skip
            refine Runs.regionH 3 rfl H ?_; intro b10 σ H
            refine Ops.move (v := (.v (.int .i64 s1))) rfl rfl ?_
            refine Ops.int (m := s1) (m' := 1) (r := .int .i64 (w64 (s1 + 1))) rfl rfl rfl rfl rfl ?_
            refine Ops.assign (v := (.v (.int .i64 (w64 (s1 + 1))))) rfl rfl ?_
            apply Ops.nil
            replace H := H.all
            replace h := Option.some.inj h; subst h
            exact ⟨rfl, ⟨rfl, rfl, rfl, trivial⟩, H⟩
        · replace h := cond_F hc3 h
          apply Runs.exit
          replace h := Option.some.inj h; subst h
          exact ⟨nofun, (.inl ⟨_, rfl, rfl, trivial, (H.erase 0)⟩)⟩
      · rintro x e σ (⟨a2, rfl, rfl, he, H⟩ | ⟨r', rfl, rfl, hE⟩)
        · skip
          replace h := jgo h
          obtain ⟨e, rfl⟩ := he.ex
          apply Runs.then
          refine Runs.regionH 1 rfl H ?_; intro b11 σ H
          refine Ops.assign (v := (.v (.bool true))) rfl rfl ?_
          apply Ops.nil
          replace H := H.all
          apply Runs.ret
          replace h := Option.some.inj h; subst h
          exact (Ends.H (xs := [(.v (.bool true))]) (.inr rfl) H (.tmp (v := (.v (.bool true))) rfl .nil) (.one (.c (.v _))))
        · skip
          replace h := jret h
          replace h := Option.some.inj h; subst h
          exact hE

set_option maxRecDepth 100000 in
set_option maxHeartbeats 4000000 in
theorem epactref06_Form_fn {f : Form} {r : Form} (h : epactref06_Form f = some r) : Fn CX 28 [(.agg (vs (Form.cs f)))] (.agg (vs (Form.cs r))) := by
  refine Fn.ends Try.func28 rfl rfl rfl rfl rfl rfl ?_
  have H : Hs (⟨0, fun _ => .none⟩ : Heap) [] := Has.nil (Nat.le_refl _)
  generalize (⟨0, fun _ => .none⟩ : Heap) = σ at H ⊢
  unfold epactref06_Form at h
  apply Runs.then
  refine Runs.regionH 2 rfl H ?_; intro b1 σ H
  refine Ops.boxH (v := (.agg [(.v (.int .i64 f.Period)), (.v (.int .i64 f.Count)), (.v (.sl (f.Core.map (cL Span.cs)))), (.v (.sl (f.Odd.map Granule.cs)))])) (cs := [(.v (.int .i64 f.Period)), (.v (.int .i64 f.Count)), (.v (.sl (f.Core.map (cL Span.cs)))), (.v (.sl (f.Odd.map Granule.cs)))]) H (by omega) (by omega) rfl rfl rfl ?_; intro σ H
  refine Ops.allocH (cs := [(.v (.int .i64 0)), (.v (.int .i64 0)), .nils, .nils]) H (by omega) (by omega) rfl rfl ?_; intro σ H
  apply Ops.nil
  replace H := H.all
  apply Runs.then
  refine Runs.regionH 1 rfl H ?_; intro b2 σ H
  refine Ops.allocH (cs := [(.v (.int .i64 0)), (.v (.int .i64 0)), .nils, .nils]) H (by omega) (by omega) rfl rfl ?_; intro σ H
  apply Ops.nil
  replace H := H.all
  apply Runs.then
  replace H := H.pushNil 31 1 true
  obtain ⟨y1, hj1, h⟩ := bind_some h
  refine Runs.mono (Q := fun x e σ => ∃ (w1 : PV), x = .normal ∧ EnvHas e [(1, (.ptr (b1 + 0) 4 0)), (2, (.ptr (b1 + 1) 4 0)), (3, (.ptr (b2 + 0) 4 0))] ∧ Hs σ [.sl w1 31 1 (y1.1.map (cL Span.cs)) true, .blk (b2 + 0) 25 [(.v (.int .i64 y1.2.1)), (.v (.int .i64 y1.2.2)), w1, .nils], .blk (b1 + 1) 25 [(.v (.int .i64 0)), (.v (.int .i64 0)), .nils, .nils], .blk (b1 + 0) 25 [(.v (.int .i64 f.Period)), (.v (.int .i64 f.Count)), (.v (.sl (f.Core.map (cL Span.cs)))), (.v (.sl (f.Odd.map Granule.cs)))]]) ?_ ?_
  · replace h := hj1
    apply Runs.then
    refine Runs.regionH 3 rfl H ?_; intro b3 σ H
    refine Ops.loadHA (off := 0) (cs := [(.v (.int .i64 f.Period)), (.v (.int .i64 f.Count)), (.v (.sl (f.Core.map (cL Span.cs)))), (.v (.sl (f.Odd.map Granule.cs)))]) H 3 rfl rfl rfl rfl rfl rfl rfl nofun rfl ?_
    obtain ⟨x1, q1, h⟩ := bind_some h
    refine Ops.call (ys := [(.agg [(.v (.int .i64 f.Period)), (.v (.int .i64 f.Count)), (.v (.sl (f.Core.map (cL Span.cs)))), (.v (.sl (f.Odd.map Granule.cs)))])]) (r := (.v (.bool x1))) rfl (epactref06_bare_fn q1) rfl ?_
    refine Ops.not (b := x1) rfl rfl ?_
    apply Ops.nil
    replace H := H.all
    refine Runs.whether (v := (!x1)) rfl ?_ ?_ <;> intro hc1
    · replace h := cond_T hc1 h
      apply Runs.then
      refine Runs.regionH 1 rfl H ?_; intro b4 σ H
      refine Ops.assign (v := (.v (.int .i64 1))) rfl rfl ?_
      apply Ops.nil
      replace H := H.all
      apply Runs.then
      apply Runs.inBlock
      obtain ⟨y2, hj2, h⟩ := bind_some h
      obtain ⟨n1, hj2⟩ := loopO_iff.1 hj2
      refine Runs.mono (Runs.loopO hj2 (fun s1 e σ => EnvHas e [(1, (.ptr (b1 + 0) 4 0)), (2, (.ptr (b1 + 1) 4 0)), (3, (.ptr (b2 + 0) 4 0)), (4, (.v (.int .i64 s1)))] ∧ Hs σ [.sl .nils 31 1 ([].map (cL Span.cs)) true, .blk (b2 + 0) 25 [(.v (.int .i64 0)), (.v (.int .i64 0)), .nils, .nils], .blk (b1 + 1) 25 [(.v (.int .i64 0)), (.v (.int .i64 0)), .nils, .nils], .blk (b1 + 0) 25 [(.v (.int .i64 f.Period)), (.v (.int .i64 f.Count)), (.v (.sl (f.Core.map (cL Span.cs)))), (.v (.sl (f.Odd.map Granule.cs)))]]) (fun y2 x e σ => x = .exit 0 ∧ EnvHas e [(1, (.ptr (b1 + 0) 4 0)), (2, (.ptr (b1 + 1) 4 0)), (3, (.ptr (b2 + 0) 4 0)), (4, (.v (.int .i64 y2)))] ∧ Hs σ [.sl .nils 31 1 ([].map (cL Span.cs)) true, .blk (b2 + 0) 25 [(.v (.int .i64 0)), (.v (.int .i64 0)), .nils, .nils], .blk (b1 + 1) 25 [(.v (.int .i64 0)), (.v (.int .i64 0)), .nils, .nils], .blk (b1 + 0) 25 [(.v (.int .i64 f.Period)), (.v (.int .i64 f.Count)), (.v (.sl (f.Core.map (cL Span.cs)))), (.v (.sl (f.Odd.map Granule.cs)))]]) ⟨⟨rfl, rfl, rfl, rfl, trivial⟩, H⟩ ?_) ?_
      · intro s1 e σ hI z h
        obtain ⟨he, H⟩ := hI
        obtain ⟨e, rfl⟩ := he.ex
        unfold epactref06_Form.s0 at h
        apply Runs.then
        apply Runs.then
        refine Runs.regionH 4 rfl H ?_; intro b5 σ H
        refine Ops.loadHA (off := 0) (cs := [(.v (.int .i64 f.Period)), (.v (.int .i64 f.Count)), (.v (.sl (f.Core.map (cL Span.cs)))), (.v (.sl (f.Odd.map Granule.cs)))]) H 3 rfl rfl rfl rfl rfl rfl rfl nofun rfl ?_
        refine Ops.move (v := (.v (.int .i64 s1))) rfl rfl ?_
        obtain ⟨x2, q2, h⟩ := bind_some h
        refine Ops.call (ys := [(.agg [(.v (.int .i64 f.Period)), (.v (.int .i64 f.Count)), (.v (.sl (f.Core.map (cL Span.cs)))), (.v (.sl (f.Odd.map Granule.cs)))]), (.v (.int .i64 s1))]) (r := (.v (.bool x2))) rfl (epactref06_turns_fn q2) rfl ?_
        refine Ops.not (b := x2) rfl rfl ?_
        apply Ops.nil
        replace H := H.all
        refine Runs.whether (v := (!x2)) rfl ?_ ?_ <;> intro hc2
        · replace h := cond_T hc2 h
          apply Runs.skip
          apply Runs.inBlock
          refine Runs.regionH 3 rfl H ?_; intro b6 σ H
          refine Ops.move (v := (.v (.int .i64 s1))) rfl rfl ?_
          refine Ops.int (m := s1) (m' := 1) (r := .int .i64 (w64 (s1 + 1))) rfl rfl rfl rfl rfl ?_
          refine Ops.assign (v := (.v (.int .i64 (w64 (s1 + 1))))) rfl rfl ?_
          apply Ops.nil
          replace H := H.all
          replace h := Option.some.inj h; subst h
          exact ⟨rfl, ⟨rfl, rfl, rfl, rfl, trivial⟩, H⟩
        · replace h := cond_F hc2 h
          apply Runs.exit
          replace h := Option.some.inj h; subst h
          exact ⟨nofun, ⟨rfl, ⟨rfl, rfl, rfl, rfl, trivial⟩, H⟩⟩
      · rintro x e σ ⟨rfl, he, H⟩
        obtain ⟨e, rfl⟩ := he.ex
        apply Runs.then
        refine Runs.regionH 3 rfl H ?_; intro b7 σ H
        refine Ops.move (v := (.v (.int .i64 y2))) rfl rfl ?_
        refine Ops.fieldAddrH (off := 0) (fo := 1) H 1 rfl rfl rfl rfl rfl nofun rfl ?_
        refine Ops.storeH (off := 1) (v := (.v (.int .i64 y2))) (ys := [(.v (.int .i64 y2))]) (cells' := [(.v (.int .i64 0)), (.v (.int .i64 y2)), .nils, .nils]) H 1 rfl rfl rfl rfl rfl rfl rfl rfl rfl nofun ?_; intro σ H
        apply Ops.nil
        replace H := H.all
        apply Runs.then
        refine Runs.regionH 9 rfl H ?_; intro b8 σ H
        refine Ops.fieldAddrH (off := 0) (fo := 0) H 3 rfl rfl rfl rfl rfl nofun rfl ?_
        refine Ops.loadH (off := 0) (v := (.v (.int .i64 f.Period))) H 3 rfl rfl rfl rfl rfl nofun rfl ?_
        refine Ops.move (v := (.v (.int .i64 y2))) rfl rfl ?_
        refine Ops.int (m := f.Period) (m' := y2) (r := .int .i64 (w64 (f.Period * y2))) rfl rfl rfl rfl rfl ?_
        refine Ops.fieldAddrH (off := 0) (fo := 1) H 3 rfl rfl rfl rfl rfl nofun rfl ?_
        refine Ops.loadH (off := 1) (v := (.v (.int .i64 f.Count))) H 3 rfl rfl rfl rfl rfl nofun rfl ?_
        obtain ⟨u1, q3, h⟩ := bind_some h
        refine Ops.quo (m := (w64 (f.Period * y2))) (m' := f.Count) rfl rfl (nz_ne q3) rfl ?_
        refine Ops.fieldAddrH (off := 0) (fo := 0) H 1 rfl rfl rfl rfl rfl nofun rfl ?_
        refine Ops.storeH (off := 0) (v := (.v (.int .i64 (w64 ((w64 (f.Period * y2)).tdiv f.Count))))) (ys := [(.v (.int .i64 (w64 ((w64 (f.Period * y2)).tdiv f.Count))))]) (cells' := [(.v (.int .i64 (w64 ((w64 (f.Period * y2)).tdiv f.Count)))), (.v (.int .i64 y2)), .nils, .nils]) H 1 rfl rfl rfl rfl rfl rfl rfl rfl rfl nofun ?_; intro σ H
        apply Ops.nil
        replace H := H.all
        apply Runs.then
        refine Runs.regionH 1 rfl H ?_; intro b9 σ H
        refine Ops.assign (v := (.v (.int .i64 0))) rfl rfl ?_
        apply Ops.nil
        replace H := H.all
        apply Runs.inBlock
        obtain ⟨y3, hj3, h⟩ := bind_some h
        obtain ⟨n2, hj3⟩ := loopO_iff.1 hj3
        refine Runs.mono (Runs.loopO hj3 (fun s2 e σ => ∃ (w4 : PV), EnvHas e [(1, (.ptr (b1 + 0) 4 0)), (2, (.ptr (b1 + 1) 4 0)), (3, (.ptr (b2 + 0) 4 0)), (4, (.v (.int .i64 y2))), (5, (.v (.int .i64 s2.1)))] ∧ Hs σ [.sl w4 31 1 (s2.2.map (cL Span.cs)) true, .blk (b2 + 0) 25 [(.v (.int .i64 (w64 ((w64 (f.Period * y2)).tdiv f.Count)))), (.v (.int .i64 y2)), w4, .nils], .blk (b1 + 1) 25 [(.v (.int .i64 0)), (.v (.int .i64 0)), .nils, .nils], .blk (b1 + 0) 25 [(.v (.int .i64 f.Period)), (.v (.int .i64 f.Count)), (.v (.sl (f.Core.map (cL Span.cs)))), (.v (.sl (f.Odd.map Granule.cs)))]]) (fun y3 x e σ => ∃ (w5 : PV), x = .exit 2 ∧ EnvHas e [(1, (.ptr (b1 + 0) 4 0)), (2, (.ptr (b1 + 1) 4 0)), (3, (.ptr (b2 + 0) 4 0))] ∧ Hs σ [.sl w5 31 1 (y3.1.map (cL Span.cs)) true, .blk (b2 + 0) 25 [(.v (.int .i64 y3.2)), (.v (.int .i64 y2)), w5, .nils], .blk (b1 + 1) 25 [(.v (.int .i64 0)), (.v (.int .i64 0)), .nils, .nils], .blk (b1 + 0) 25 [(.v (.int .i64 f.Period)), (.v (.int .i64 f.Count)), (.v (.sl (f.Core.map (cL Span.cs)))), (.v (.sl (f.Odd.map Granule.cs)))]]) ⟨.nils, ⟨rfl, rfl, rfl, rfl, rfl, trivial⟩, H⟩ ?_) ?_
        · intro s2 e σ hI z h
          obtain ⟨w4, he, H⟩ := hI
          obtain ⟨e, rfl⟩ := he.ex
          unfold epactref06_Form.s1 at h
          apply Runs.then
          apply Runs.then
          refine Runs.regionH 3 rfl H ?_; intro b10 σ H
          refine Ops.move (v := (.v (.int .i64 s2.1))) rfl rfl ?_
          refine Ops.move (v := (.v (.int .i64 y2))) rfl rfl ?_
          refine Ops.int (m := s2.1) (m' := y2) (r := .bool (decide (s2.1 < y2))) rfl rfl rfl rfl rfl ?_
          apply Ops.nil
          replace H := H.all
          refine Runs.whether (v := (decide (s2.1 < y2))) rfl ?_ ?_ <;> intro hc3
          · replace h := cond_T hc3 h
            apply Runs.skip
            apply Runs.then
            apply Runs.inBlock
            refine Runs.drawnH 13 rfl (by kernel_rfl) H ?_; intro b11 σ H B11
            refine Ops.fieldAddrH (off := 0) (fo := 2) H 1 rfl rfl rfl rfl rfl (fun _ => .inl ⟨B11 1 _ rfl _ rfl, nofun⟩) rfl ?_
            refine Ops.loadH (off := 2) (v := w4) H 1 rfl rfl rfl rfl rfl (fun _ => .inl ⟨B11 1 _ rfl _ rfl, nofun⟩) rfl ?_
            refine Ops.buildS (sz := 2) ([].map Span.cs) H (by omega) (by omega) rfl rfl rfl rfl rfl rfl rfl rfl rfl ?_; intro σ H
            refine Ops.fieldAddrH (off := 0) (fo := 2) H 4 rfl rfl rfl rfl rfl (fun _ => .inl ⟨B11 3 _ rfl _ rfl, nofun⟩) rfl ?_
            refine Ops.loadH (off := 2) (v := (.v (.sl (f.Core.map (cL Span.cs))))) H 4 rfl rfl rfl rfl rfl (fun _ => .inl ⟨B11 3 _ rfl _ rfl, nofun⟩) rfl ?_
            refine Ops.move (v := (.v (.int .i64 s2.1))) rfl rfl ?_
            obtain ⟨x3, q4, h⟩ := bind_some h
            refine Ops.indexP (c := (cL Span.cs)) (u := x3) rfl rfl q4 rfl rfl rfl rfl ?_
            refine Ops.loadP (u := (.sl (x3.map Span.cs))) rfl rfl rfl rfl ?_
            obtain ⟨x4, q5, h⟩ := bind_some h
            refine Ops.appendBt (c := Span.cs) (w := (.v (.sl (x3.map Span.cs)))) (xs := []) (ys := x3) H (by omega) (by omega) 0 rfl rfl rfl (.m (fun _ => rfl)) q5 rfl rfl rfl rfl rfl (fun h => ⟨(fun id ho => .inr ⟨2, (by cases ho; rfl), (fun h => nomatch h), by kernel_rfl, by decide⟩), (fun id ho => nomatch ho)⟩) rfl ?_; intro σ H
            refine Ops.buildSF (sz := 1) ([x4].map (cL Span.cs)) H (by omega) (by omega) rfl rfl (.exp (.c (.s 0 rfl)) .nil) rfl rfl rfl rfl rfl rfl rfl (fun _ => .inr ⟨[2], rfl, by kernel_rfl⟩) ?_; intro σ H
            obtain ⟨x5, q6, h⟩ := bind_some h
            refine Ops.appendSt (c := (cL Span.cs)) (v := w4) (w := (.buf (b11 + 9) 1 1)) (xs := s2.2) (ys := [x4]) H (by omega) (by omega) 2 rfl rfl rfl (.s 0 rfl) q6 rfl rfl rfl rfl rfl (fun h => ⟨(fun id ho => .inl ⟨B11 0 _ rfl id ho, (fun _ => by kernel_rfl)⟩), (fun id ho => .inr ⟨9, (by cases ho; rfl), (fun h => nomatch h), by kernel_rfl, by decide⟩)⟩) rfl ?_; intro w7 σ H
            refine Ops.fieldAddrH (off := 0) (fo := 2) H 3 rfl rfl rfl rfl rfl (fun _ => .inl ⟨B11 1 _ rfl _ rfl, nofun⟩) rfl ?_
            refine Ops.storeH (off := 2) (v := w7) (ys := [w7]) (cells' := [(.v (.int .i64 (w64 ((w64 (f.Period * y2)).tdiv f.Count)))), (.v (.int .i64 y2)), w7, .nils]) H 3 rfl rfl rfl rfl (H.slCells (k := 2) rfl) rfl rfl rfl rfl (fun _ => .inl ⟨B11 1 _ rfl _ rfl, (fresh_static (by kernel_rfl))⟩) ?_; intro σ H
            apply Ops.nil
            replace H := H.all
            refine Runs.regionH 3 rfl H ?_; intro b12 σ H
            refine Ops.move (v := (.v (.int .i64 s2.1))) rfl rfl ?_
            refine Ops.int (m := s2.1) (m' := 1) (r := .int .i64 (w64 (s2.1 + 1))) rfl rfl rfl rfl rfl ?_
            refine Ops.assign (v := (.v (.int .i64 (w64 (s2.1 + 1))))) rfl rfl ?_
            apply Ops.nil
            replace H := H.all
            replace h := Option.some.inj h; subst h
            exact ⟨rfl, w7, ⟨rfl, rfl, rfl, rfl, rfl, trivial⟩, ((H.erase 1).erase 0)⟩
          · replace h := cond_F hc3 h
            apply Runs.exit
            replace h := Option.some.inj h; subst h
            exact ⟨nofun, ⟨w4, rfl, ⟨rfl, rfl, rfl, trivial⟩, H⟩⟩
        · rintro x e σ ⟨w8, rfl, he, H⟩
          obtain ⟨e, rfl⟩ := he.ex
          replace h := Option.some.inj h; subst h
          exact ⟨w8, rfl, ⟨rfl, rfl, rfl, trivial⟩, H⟩
    · replace h := cond_F hc1 h
      apply Runs.skip
      replace h := Option.some.inj h; subst h
      exact ⟨.nils, rfl, ⟨rfl, rfl, rfl, trivial⟩, H⟩
  · rintro x e σ ⟨w9, rfl, he, H⟩
    obtain ⟨e, rfl⟩ := he.ex
    apply Runs.then
    refine Runs.regionH 2 rfl H ?_; intro b13 σ H
    refine Ops.buildS (sz := 2) ([].map Granule.cs) H (by omega) (by omega) rfl rfl rfl rfl rfl rfl rfl rfl rfl ?_; intro σ H
    refine Ops.assign (v := (.buf (b13 + 0) 0 2)) rfl rfl ?_
    apply Ops.nil
    replace H := H.all
    apply Runs.then
    apply Runs.then
    refine Runs.regionH 1 rfl H ?_; intro b14 σ H
    refine Ops.assign (v := (.v (.int .i64 0))) rfl rfl ?_
    apply Ops.nil
    replace H := H.all
    apply Runs.inBlock
    obtain ⟨y4, hj4, h⟩ := bind_some h
    obtain ⟨n3, hj4⟩ := loopO_iff.1 hj4
    refine Runs.mono (Runs.loopO hj4 (fun s3 e σ => ∃ (w12 : PV) (lb3 : Bool), EnvHas e [(1, (.ptr (b1 + 0) 4 0)), (2, (.ptr (b1 + 1) 4 0)), (3, (.ptr (b2 + 0) 4 0)), (6, w12), (7, (.v (.int .i64 s3.1)))] ∧ Hs σ [.sl w12 45 2 (s3.2.map Granule.cs) true, .sl w9 31 1 (y1.1.map (cL Span.cs)) lb3, .blk (b2 + 0) 25 [(.v (.int .i64 y1.2.1)), (.v (.int .i64 y1.2.2)), w9, .nils], .blk (b1 + 1) 25 [(.v (.int .i64 0)), (.v (.int .i64 0)), .nils, .nils], .blk (b1 + 0) 25 [(.v (.int .i64 f.Period)), (.v (.int .i64 f.Count)), (.v (.sl (f.Core.map (cL Span.cs)))), (.v (.sl (f.Odd.map Granule.cs)))]]) (fun y4 x e σ => ∃ (w13 : PV) (lb4 : Bool), x = .exit 4 ∧ EnvHas e [(2, (.ptr (b1 + 1) 4 0)), (3, (.ptr (b2 + 0) 4 0)), (6, w13)] ∧ Hs σ [.sl w13 45 2 (y4.map Granule.cs) true, .sl w9 31 1 (y1.1.map (cL Span.cs)) lb4, .blk (b2 + 0) 25 [(.v (.int .i64 y1.2.1)), (.v (.int .i64 y1.2.2)), w9, .nils], .blk (b1 + 1) 25 [(.v (.int .i64 0)), (.v (.int .i64 0)), .nils, .nils]]) ⟨(.buf (b13 + 0) 0 2), true, ⟨rfl, rfl, rfl, rfl, rfl, trivial⟩, H⟩ ?_) ?_
    · intro s3 e σ hI z h
      obtain ⟨w12, lb3, he, H⟩ := hI
      obtain ⟨e, rfl⟩ := he.ex
      unfold epactref06_Form.s2 at h
      apply Runs.then
      apply Runs.then
      refine Runs.regionH 5 rfl H ?_; intro b15 σ H
      refine Ops.move (v := (.v (.int .i64 s3.1))) rfl rfl ?_
      refine Ops.fieldAddrH (off := 0) (fo := 3) H 4 rfl rfl rfl rfl rfl nofun rfl ?_
      refine Ops.loadH (off := 3) (v := (.v (.sl (f.Odd.map Granule.cs)))) H 4 rfl rfl rfl rfl rfl nofun rfl ?_
      refine Ops.lenPt (c := Granule.cs) (xs := f.Odd) rfl rfl rfl ?_
      refine Ops.int (m := s3.1) (m' := (f.Odd.length : Int)) (r := .bool (decide (s3.1 < (f.Odd.length : Int)))) rfl rfl rfl rfl rfl ?_
      apply Ops.nil
      replace H := H.all
      refine Runs.whether (v := (decide (s3.1 < (f.Odd.length : Int)))) rfl ?_ ?_ <;> intro hc4
      · replace h := cond_T hc4 h
        apply Runs.skip
        apply Runs.then
        obtain ⟨y5, hj5, h⟩ := bind_some h
        refine Runs.mono (Q := fun x e σ => ∃ (w14 : PV) (lb5 : Bool), x = .normal ∧ EnvHas e [(1, (.ptr (b1 + 0) 4 0)), (2, (.ptr (b1 + 1) 4 0)), (3, (.ptr (b2 + 0) 4 0)), (6, w14), (7, (.v (.int .i64 s3.1)))] ∧ Hs σ [.sl w14 45 2 (y5.map Granule.cs) true, .sl w9 31 1 (y1.1.map (cL Span.cs)) lb5, .blk (b2 + 0) 25 [(.v (.int .i64 y1.2.1)), (.v (.int .i64 y1.2.2)), w9, .nils], .blk (b1 + 1) 25 [(.v (.int .i64 0)), (.v (.int .i64 0)), .nils, .nils], .blk (b1 + 0) 25 [(.v (.int .i64 f.Period)), (.v (.int .i64 f.Count)), (.v (.sl (f.Core.map (cL Span.cs)))), (.v (.sl (f.Odd.map Granule.cs)))]]) ?_ ?_
        · replace h := hj5
          apply Runs.inBlock
          obtain ⟨y6, hj6, h⟩ := bind_some h
          refine Runs.mono (Q := fun x e σ => ∃ (w15 : PV) (lb6 : Bool), x = .normal ∧ EnvHas e [(1, (.ptr (b1 + 0) 4 0)), (2, (.ptr (b1 + 1) 4 0)), (3, (.ptr (b2 + 0) 4 0)), (6, w15), (7, (.v (.int .i64 s3.1)))] ∧ Hs σ [.sl w15 45 2 (y6.map Granule.cs) true, .sl w9 31 1 (y1.1.map (cL Span.cs)) lb6, .blk (b2 + 0) 25 [(.v (.int .i64 y1.2.1)), (.v (.int .i64 y1.2.2)), w9, .nils], .blk (b1 + 1) 25 [(.v (.int .i64 0)), (.v (.int .i64 0)), .nils, .nils], .blk (b1 + 0) 25 [(.v (.int .i64 f.Period)), (.v (.int .i64 f.Count)), (.v (.sl (f.Core.map (cL Span.cs)))), (.v (.sl (f.Odd.map Granule.cs)))]]) ?_ ?_
          · replace h := hj6
            apply Runs.then
            refine Runs.regionH 1 rfl H ?_; intro b16 σ H
            refine Ops.assign (v := .nils) rfl rfl ?_
            apply Ops.nil
            replace H := H.all
            apply Runs.then
            refine Runs.regionH 1 rfl H ?_; intro b17 σ H
            refine Ops.assign (v := (.v (.int .i64 0))) rfl rfl ?_
            apply Ops.nil
            replace H := H.all
            apply Runs.then
            obtain ⟨y7, hj7, h⟩ := bind_some h
            refine Runs.mono (Q := fun x e σ => ∃ (lb7 : Bool) (w16 : PV), RO w16 (y7.1.map Span.cs) ∧ x = .normal ∧ EnvHas e [(1, (.ptr (b1 + 0) 4 0)), (2, (.ptr (b1 + 1) 4 0)), (3, (.ptr (b2 + 0) 4 0)), (6, w12), (7, (.v (.int .i64 s3.1))), (8, w16), (9, (.v (.int .i64 y7.2)))] ∧ Hs σ [.sl w12 45 2 (s3.2.map Granule.cs) true, .sl w9 31 1 (y1.1.map (cL Span.cs)) lb7, .blk (b2 + 0) 25 [(.v (.int .i64 y1.2.1)), (.v (.int .i64 y1.2.2)), w9, .nils], .blk (b1 + 1) 25 [(.v (.int .i64 0)), (.v (.int .i64 0)), .nils, .nils], .blk (b1 + 0) 25 [(.v (.int .i64 f.Period)), (.v (.int .i64 f.Count)), (.v (.sl (f.Core.map (cL Span.cs)))), (.v (.sl (f.Odd.map Granule.cs)))]]) ?_ ?_
            · replace h := hj7
              apply Runs.then
              refine Runs.regionH 3 rfl H ?_; intro b18 σ H
              refine Ops.fieldAddrH (off := 0) (fo := 1) H 2 rfl rfl rfl rfl rfl nofun rfl ?_
              refine Ops.loadH (off := 1) (v := (.v (.int .i64 y1.2.2))) H 2 rfl rfl rfl rfl rfl nofun rfl ?_
              refine Ops.int (m := y1.2.2) (m' := 0) (r := .bool (decide (y1.2.2 > 0))) rfl rfl rfl rfl rfl ?_
              apply Ops.nil
              replace H := H.all
              refine Runs.whether (v := (decide (y1.2.2 > 0))) rfl ?_ ?_ <;> intro hc5
              · replace h := cond_T hc5 h
                refine Runs.drawnH 13 rfl (by kernel_rfl) H ?_; intro b19 σ H B19
                refine Ops.loadHA (off := 0) (cs := [(.v (.int .i64 y1.2.1)), (.v (.int .i64 y1.2.2)), w9, .nils]) H 2 rfl rfl rfl rfl rfl rfl rfl (fun _ => .inl ⟨B19 2 _ rfl _ rfl, nofun⟩) rfl ?_
                refine Ops.fieldAddrH (off := 0) (fo := 3) H 4 rfl rfl rfl rfl rfl (fun _ => .inl ⟨B19 4 _ rfl _ rfl, nofun⟩) rfl ?_
                refine Ops.loadH (off := 3) (v := (.v (.sl (f.Odd.map Granule.cs)))) H 4 rfl rfl rfl rfl rfl (fun _ => .inl ⟨B19 4 _ rfl _ rfl, nofun⟩) rfl ?_
                refine Ops.move (v := (.v (.int .i64 s3.1))) rfl rfl ?_
                obtain ⟨x6, q7, h⟩ := bind_some h
                refine Ops.indexP (c := Granule.cs) (u := x6) rfl rfl q7 rfl rfl rfl rfl ?_
                refine Ops.fieldAddrP rfl rfl rfl rfl ?_
                refine Ops.loadP (u := (.int .i64 x6.Index)) rfl rfl rfl rfl ?_
                obtain ⟨x7, q8, h⟩ := bind_some h
                refine Ops.callX (xs := [(.agg [(.v (.int .i64 y1.2.1)), (.v (.int .i64 y1.2.2)), w9, .nils]), (.v (.int .i64 x6.Index))]) (ys := [(.agg (vs (Form.cs (Form.mk y1.2.1 y1.2.2 y1.1 [])))), (.v (.int .i64 x6.Index))]) H rfl (.cons (.a (.cons (.v _) (.cons (.v _) (.cons (.s 1 rfl) (.cons (.n) .nil))))) (.cons (.c (.v _)) .nil)) (epactref06_has_fn q8) rfl rfl (fun _ => by kernel_rfl) rfl ?_; intro σ H
                refine Ops.move (v := (.tup [(.v (.sl (x7.1.map Span.cs))), (.v (.int .i64 x7.2))])) rfl rfl ?_
                refine Ops.extract (v := (.v (.sl (x7.1.map Span.cs)))) rfl rfl rfl ?_
                refine Ops.extract (v := (.v (.int .i64 x7.2))) rfl rfl rfl ?_
                refine Ops.assign (v := (.v (.sl (x7.1.map Span.cs)))) rfl rfl ?_
                refine Ops.assign (v := (.v (.int .i64 x7.2))) rfl rfl ?_
                apply Ops.nil
                replace H := H.all
                replace h := Option.some.inj h; subst h
                exact ⟨false, (.v (.sl (x7.1.map Span.cs))), .inr rfl, rfl, ⟨rfl, rfl, rfl, rfl, rfl, rfl, rfl, trivial⟩, H⟩
              · replace h := cond_F hc5 h
                apply Runs.skip
                replace h := Option.some.inj h; subst h
                exact ⟨lb3, .nils, .inl ⟨rfl, rfl⟩, rfl, ⟨rfl, rfl, rfl, rfl, rfl, rfl, rfl, trivial⟩, H⟩
            · rintro x e σ ⟨lb8, w17, hw17, rfl, he, H⟩
              obtain ⟨e, rfl⟩ := he.ex
              apply Runs.then
              refine Runs.regionH 10 rfl H ?_; intro b20 σ H
              refine Ops.move (v := w17) rfl rfl ?_
              refine Ops.move (v := (.v (.int .i64 y7.2))) rfl rfl ?_
              refine Ops.fieldAddrH (off := 0) (fo := 3) H 4 rfl rfl rfl rfl rfl nofun rfl ?_
              refine Ops.loadH (off := 3) (v := (.v (.sl (f.Odd.map Granule.cs)))) H 4 rfl rfl rfl rfl rfl nofun rfl ?_
              refine Ops.move (v := (.v (.int .i64 s3.1))) rfl rfl ?_
              obtain ⟨x8, q9, h⟩ := bind_some h
              refine Ops.indexP (c := Granule.cs) (u := x8) rfl rfl q9 rfl rfl rfl rfl ?_
              refine Ops.fieldAddrP rfl rfl rfl rfl ?_
              refine Ops.loadP (u := (.sl (x8.Ticks.map Span.cs))) rfl rfl rfl rfl ?_
              obtain ⟨x9, q10, h⟩ := bind_some h
              refine Ops.callX (xs := [w17, (.v (.int .i64 y7.2)), (.v (.sl (x8.Ticks.map Span.cs))), (.v (.int .i64 0))]) (ys := [(.v (.sl (y7.1.map Span.cs))), (.v (.int .i64 y7.2)), (.v (.sl (x8.Ticks.map Span.cs))), (.v (.int .i64 0))]) H rfl (.cons (.c (.ro hw17)) (.cons (.c (.v _)) (.cons (.c (.v _)) (.cons (.c (.v _)) .nil)))) (epactref06_same_fn q10) rfl rfl nofun rfl ?_; intro σ H
              refine Ops.not (b := x9) rfl rfl ?_
              apply Ops.nil
              replace H := H.all
              refine Runs.whether (v := (!x9)) rfl ?_ ?_ <;> intro hc6
              · replace h := cond_T hc6 h
                refine Runs.drawnH 19 rfl (by kernel_rfl) H ?_; intro b21 σ H B21
                refine Ops.move (v := w12) rfl rfl ?_
                refine Ops.fieldAddrH (off := 0) (fo := 3) H 4 rfl rfl rfl rfl rfl (fun _ => .inl ⟨B21 4 _ rfl _ rfl, nofun⟩) rfl ?_
                refine Ops.loadH (off := 3) (v := (.v (.sl (f.Odd.map Granule.cs)))) H 4 rfl rfl rfl rfl rfl (fun _ => .inl ⟨B21 4 _ rfl _ rfl, nofun⟩) rfl ?_
                refine Ops.move (v := (.v (.int .i64 s3.1))) rfl rfl ?_
                obtain ⟨x10, q11, h⟩ := bind_some h
                refine Ops.indexP (c := Granule.cs) (u := x10) rfl rfl q11 rfl rfl rfl rfl ?_
                refine Ops.fieldAddrP rfl rfl rfl rfl ?_
                refine Ops.loadP (u := (.int .i64 x10.Index)) rfl rfl rfl rfl ?_
                refine Ops.buildS (sz := 2) ([].map Span.cs) H (by omega) (by omega) rfl rfl rfl rfl rfl rfl rfl rfl rfl ?_; intro σ H
                refine Ops.fieldAddrH (off := 0) (fo := 3) H 5 rfl rfl rfl rfl rfl (fun _ => .inl ⟨B21 4 _ rfl _ rfl, nofun⟩) rfl ?_
                refine Ops.loadH (off := 3) (v := (.v (.sl (f.Odd.map Granule.cs)))) H 5 rfl rfl rfl rfl rfl (fun _ => .inl ⟨B21 4 _ rfl _ rfl, nofun⟩) rfl ?_
                refine Ops.move (v := (.v (.int .i64 s3.1))) rfl rfl ?_
                obtain ⟨x11, q12, h⟩ := bind_some h
                refine Ops.indexP (c := Granule.cs) (u := x11) rfl rfl q12 rfl rfl rfl rfl ?_
                refine Ops.fieldAddrP rfl rfl rfl rfl ?_
                refine Ops.loadP (u := (.sl (x11.Ticks.map Span.cs))) rfl rfl rfl rfl ?_
                obtain ⟨x12, q13, h⟩ := bind_some h
                refine Ops.appendBt (c := Span.cs) (w := (.v (.sl (x11.Ticks.map Span.cs)))) (xs := []) (ys := x11.Ticks) H (by omega) (by omega) 0 rfl rfl rfl (.m (fun _ => rfl)) q13 rfl rfl rfl rfl rfl (fun h => ⟨(fun id ho => .inr ⟨7, (by cases ho; rfl), (fun h => nomatch h), by kernel_rfl, by decide⟩), (fun id ho => nomatch ho)⟩) rfl ?_; intro σ H
                refine Ops.buildA (cs := [(.v (.int .i64 x10.Index)), (.buf (b21 + 7) x12.length 2)]) rfl rfl ?_
                refine Ops.buildSF (sz := 2) ([(Granule.mk x10.Index x12)].map Granule.cs) H (by omega) (by omega) rfl rfl (.exp (.a (.cons (.v _) (.cons (.s 0 rfl) .nil))) .nil) rfl rfl rfl rfl rfl rfl rfl (fun _ => .inr ⟨[7], rfl, by kernel_rfl⟩) ?_; intro σ H
                obtain ⟨x13, q14, h⟩ := bind_some h
                refine Ops.appendSt (c := Granule.cs) (v := w12) (w := (.buf (b21 + 16) 1 2)) (xs := s3.2) (ys := [(Granule.mk x10.Index x12)]) H (by omega) (by omega) 2 rfl rfl rfl (.s 0 rfl) q14 rfl rfl rfl rfl rfl (fun h => ⟨(fun id ho => .inl ⟨B21 0 _ rfl id ho, (fun _ => by kernel_rfl)⟩), (fun id ho => .inr ⟨16, (by cases ho; rfl), (fun h => nomatch h), by kernel_rfl, by decide⟩)⟩) rfl ?_; intro w19 σ H
                refine Ops.assign (v := w19) rfl rfl ?_
                apply Ops.nil
                replace H := H.all
                replace h := Option.some.inj h; subst h
                exact ⟨w19, lb8, rfl, ⟨rfl, rfl, rfl, rfl, rfl, trivial⟩, ((H.erase 1).erase 0)⟩
              · replace h := cond_F hc6 h
                apply Runs.skip
                replace h := Option.some.inj h; subst h
                exact ⟨w12, lb8, rfl, ⟨rfl, rfl, rfl, rfl, rfl, trivial⟩, H⟩
          · rintro x e σ ⟨w20, lb9, rfl, he, H⟩
            obtain ⟨e, rfl⟩ := he.ex
            replace h := Option.some.inj h; subst h
            exact ⟨w20, lb9, rfl, ⟨rfl, rfl, rfl, rfl, rfl, trivial⟩, H⟩
        · rintro x e σ ⟨w21, lb10, rfl, he, H⟩
          obtain ⟨e, rfl⟩ := he.ex
          refine Runs.regionH 3 rfl H ?_; intro b22 σ H
          refine Ops.move (v := (.v (.int .i64 s3.1))) rfl rfl ?_
          refine Ops.int (m := s3.1) (m' := 1) (r := .int .i64 (w64 (s3.1 + 1))) rfl rfl rfl rfl rfl ?_
          refine Ops.assign (v := (.v (.int .i64 (w64 (s3.1 + 1))))) rfl rfl ?_
          apply Ops.nil
          replace H := H.all
          replace h := Option.some.inj h; subst h
          exact ⟨rfl, w21, lb10, ⟨rfl, rfl, rfl, rfl, rfl, trivial⟩, H⟩
      · replace h := cond_F hc4 h
        apply Runs.exit
        replace h := Option.some.inj h; subst h
        exact ⟨nofun, ⟨w12, lb3, rfl, ⟨rfl, rfl, rfl, trivial⟩, (H.erase 4)⟩⟩
    · rintro x e σ ⟨w22, lb11, rfl, he, H⟩
      obtain ⟨e, rfl⟩ := he.ex
      apply Runs.then
      refine Runs.regionH 3 rfl H ?_; intro b23 σ H
      refine Ops.move (v := w22) rfl rfl ?_
      refine Ops.fieldAddrH (off := 0) (fo := 3) H 2 rfl rfl rfl rfl rfl nofun rfl ?_
      refine Ops.storeH (off := 3) (v := w22) (ys := [w22]) (cells' := [(.v (.int .i64 y1.2.1)), (.v (.int .i64 y1.2.2)), w9, w22]) H 2 rfl rfl rfl rfl (H.slCells (k := 0) rfl) rfl rfl rfl rfl nofun ?_; intro σ H
      apply Ops.nil
      replace H := H.all
      apply Runs.then
      refine Runs.regionH 2 rfl H ?_; intro b24 σ H
      refine Ops.loadHA (off := 0) (cs := [(.v (.int .i64 y1.2.1)), (.v (.int .i64 y1.2.2)), w9, w22]) H 2 rfl rfl rfl rfl rfl rfl rfl nofun rfl ?_
      refine Ops.storeH (off := 0) (v := (.agg [(.v (.int .i64 y1.2.1)), (.v (.int .i64 y1.2.2)), w9, w22])) (ys := [(.v (.int .i64 y1.2.1)), (.v (.int .i64 y1.2.2)), w9, w22]) (cells' := [(.v (.int .i64 y1.2.1)), (.v (.int .i64 y1.2.2)), w9, w22]) H 3 rfl rfl rfl rfl rfl rfl rfl rfl rfl nofun ?_; intro σ H
      apply Ops.nil
      replace H := H.all
      apply Runs.ret
      replace h := Option.some.inj h; subst h
      exact (Ends.H (xs := [(.agg [(.v (.int .i64 y1.2.1)), (.v (.int .i64 y1.2.2)), w9, w22])]) (.inr rfl) H (.agg (cs := [(.v (.int .i64 y1.2.1)), (.v (.int .i64 y1.2.2)), w9, w22]) (off := 0) 3 rfl rfl rfl rfl rfl rfl rfl .nil) (.one (.a (.cons (.v _) (.cons (.v _) (.cons (.s 1 rfl) (.cons (.s 0 rfl) .nil)))))))

set_option maxRecDepth 100000 in
set_option maxHeartbeats 4000000 in
theorem epactlaw06_CanonTells_fn {f : Form} {r : Bool} (h : epactlaw06_CanonTells f = some r) : Fn CX 7 [(.agg (vs (Form.cs f)))] (.v (.bool r)) := by
  refine Fn.ends Try.func7 rfl rfl rfl rfl rfl rfl ?_
  have H : Hs (⟨0, fun _ => .none⟩ : Heap) [] := Has.nil (Nat.le_refl _)
  generalize (⟨0, fun _ => .none⟩ : Heap) = σ at H ⊢
  unfold epactlaw06_CanonTells at h
  apply Runs.then
  refine Runs.regionH 2 rfl H ?_; intro b1 σ H
  refine Ops.boxH (v := (.agg [(.v (.int .i64 f.Period)), (.v (.int .i64 f.Count)), (.v (.sl (f.Core.map (cL Span.cs)))), (.v (.sl (f.Odd.map Granule.cs)))])) (cs := [(.v (.int .i64 f.Period)), (.v (.int .i64 f.Count)), (.v (.sl (f.Core.map (cL Span.cs)))), (.v (.sl (f.Odd.map Granule.cs)))]) H (by omega) (by omega) rfl rfl rfl ?_; intro σ H
  refine Ops.assign (v := (.v (.bool false))) rfl rfl ?_
  apply Ops.nil
  replace H := H.all
  apply Runs.then
  apply Runs.then
  refine Runs.regionH 3 rfl H ?_; intro b2 σ H
  refine Ops.loadHA (off := 0) (cs := [(.v (.int .i64 f.Period)), (.v (.int .i64 f.Count)), (.v (.sl (f.Core.map (cL Span.cs)))), (.v (.sl (f.Odd.map Granule.cs)))]) H 0 rfl rfl rfl rfl rfl rfl rfl nofun rfl ?_
  obtain ⟨x1, q1, h⟩ := bind_some h
  refine Ops.call (ys := [(.agg [(.v (.int .i64 f.Period)), (.v (.int .i64 f.Count)), (.v (.sl (f.Core.map (cL Span.cs)))), (.v (.sl (f.Odd.map Granule.cs)))])]) (r := (.v (.bool x1))) rfl (epactlaw06_right_fn q1) rfl ?_
  refine Ops.not (b := x1) rfl rfl ?_
  apply Ops.nil
  replace H := H.all
  refine Runs.whether (v := (!x1)) rfl ?_ ?_ <;> intro hc1
  · replace h := cond_T hc1 h
    apply Runs.then
    refine Runs.regionH 2 rfl H ?_; intro b3 σ H
    refine Ops.call (ys := []) (r := (.v (.bool epactlaw06_awake))) rfl (epactlaw06_awake_fn rfl) rfl ?_
    refine Ops.assign (v := (.v (.bool epactlaw06_awake))) rfl rfl ?_
    apply Ops.nil
    replace H := H.all
    apply Runs.ret
    replace h := Option.some.inj h; subst h
    exact (Ends.H (xs := [(.v (.bool epactlaw06_awake))]) (.inr rfl) H (.tmp (v := (.v (.bool epactlaw06_awake))) rfl .nil) (.one (.c (.v _))))
  · replace h := cond_F hc1 h
    apply Runs.skip
    apply Runs.then
    refine Runs.regionH 4 rfl H ?_; intro b4 σ H
    refine Ops.loadHA (off := 0) (cs := [(.v (.int .i64 f.Period)), (.v (.int .i64 f.Count)), (.v (.sl (f.Core.map (cL Span.cs)))), (.v (.sl (f.Odd.map Granule.cs)))]) H 0 rfl rfl rfl rfl rfl rfl rfl nofun rfl ?_
    obtain ⟨x2, q2, h⟩ := bind_some h
    refine Ops.call (ys := [(.agg [(.v (.int .i64 f.Period)), (.v (.int .i64 f.Count)), (.v (.sl (f.Core.map (cL Span.cs)))), (.v (.sl (f.Odd.map Granule.cs)))])]) (r := (.agg [(.v (.int .i64 x2.Period)), (.v (.int .i64 x2.Count)), (.v (.sl (x2.Core.map (cL Span.cs)))), (.v (.sl (x2.Odd.map Granule.cs)))])) rfl (epactlow_AnewForm_fn q2) rfl ?_
    refine Ops.allocH (cs := [(.v (.int .i64 0)), (.v (.int .i64 0)), .nils, .nils]) H (by omega) (by omega) rfl rfl ?_; intro σ H
    refine Ops.storeH (off := 0) (v := (.agg [(.v (.int .i64 x2.Period)), (.v (.int .i64 x2.Count)), (.v (.sl (x2.Core.map (cL Span.cs)))), (.v (.sl (x2.Odd.map Granule.cs)))])) (ys := [(.v (.int .i64 x2.Period)), (.v (.int .i64 x2.Count)), (.v (.sl (x2.Core.map (cL Span.cs)))), (.v (.sl (x2.Odd.map Granule.cs)))]) (cells' := [(.v (.int .i64 x2.Period)), (.v (.int .i64 x2.Count)), (.v (.sl (x2.Core.map (cL Span.cs)))), (.v (.sl (x2.Odd.map Granule.cs)))]) H 0 rfl rfl rfl rfl rfl rfl rfl rfl rfl nofun ?_; intro σ H
    apply Ops.nil
    replace H := H.all
    apply Runs.then
    refine Runs.drawnH 8 rfl (by kernel_rfl) H ?_; intro b5 σ H B5
    refine Ops.loadHA (off := 0) (cs := [(.v (.int .i64 x2.Period)), (.v (.int .i64 x2.Count)), (.v (.sl (x2.Core.map (cL Span.cs)))), (.v (.sl (x2.Odd.map Granule.cs)))]) H 0 rfl rfl rfl rfl rfl rfl rfl (fun _ => .inl ⟨B5 0 _ rfl _ rfl, nofun⟩) rfl ?_
    obtain ⟨x3, q3, h⟩ := bind_some h
    refine Ops.call (ys := [(.agg [(.v (.int .i64 x2.Period)), (.v (.int .i64 x2.Count)), (.v (.sl (x2.Core.map (cL Span.cs)))), (.v (.sl (x2.Odd.map Granule.cs)))])]) (r := (.agg [(.v (.int .i64 x3.Period)), (.v (.int .i64 x3.Count)), (.v (.sl (x3.Core.map (cL Span.cs)))), (.v (.sl (x3.Odd.map Granule.cs)))])) rfl (canon_Form_fn q3) rfl ?_
    refine Ops.loadHA (off := 0) (cs := [(.v (.int .i64 f.Period)), (.v (.int .i64 f.Count)), (.v (.sl (f.Core.map (cL Span.cs)))), (.v (.sl (f.Odd.map Granule.cs)))]) H 1 rfl rfl rfl rfl rfl rfl rfl (fun _ => .inl ⟨B5 1 _ rfl _ rfl, nofun⟩) rfl ?_
    obtain ⟨x4, q4, h⟩ := bind_some h
    refine Ops.call (ys := [(.agg [(.v (.int .i64 f.Period)), (.v (.int .i64 f.Count)), (.v (.sl (f.Core.map (cL Span.cs)))), (.v (.sl (f.Odd.map Granule.cs)))])]) (r := (.agg [(.v (.int .i64 x4.Period)), (.v (.int .i64 x4.Count)), (.v (.sl (x4.Core.map (cL Span.cs)))), (.v (.sl (x4.Odd.map Granule.cs)))])) rfl (epactref06_Form_fn q4) rfl ?_
    refine Ops.allocH (cs := [(.v (.int .i64 0)), (.v (.int .i64 0)), .nils, .nils]) H (by omega) (by omega) rfl rfl ?_; intro σ H
    refine Ops.allocH (cs := [(.v (.int .i64 0)), (.v (.int .i64 0)), .nils, .nils]) H (by omega) (by omega) rfl rfl ?_; intro σ H
    refine Ops.storeH (off := 0) (v := (.agg [(.v (.int .i64 x3.Period)), (.v (.int .i64 x3.Count)), (.v (.sl (x3.Core.map (cL Span.cs)))), (.v (.sl (x3.Odd.map Granule.cs)))])) (ys := [(.v (.int .i64 x3.Period)), (.v (.int .i64 x3.Count)), (.v (.sl (x3.Core.map (cL Span.cs)))), (.v (.sl (x3.Odd.map Granule.cs)))]) (cells' := [(.v (.int .i64 x3.Period)), (.v (.int .i64 x3.Count)), (.v (.sl (x3.Core.map (cL Span.cs)))), (.v (.sl (x3.Odd.map Granule.cs)))]) H 1 rfl rfl rfl rfl rfl rfl rfl rfl rfl (fun _ => .inr ⟨4, rfl, by kernel_rfl, by decide⟩) ?_; intro σ H
    refine Ops.storeH (off := 0) (v := (.agg [(.v (.int .i64 x4.Period)), (.v (.int .i64 x4.Count)), (.v (.sl (x4.Core.map (cL Span.cs)))), (.v (.sl (x4.Odd.map Granule.cs)))])) (ys := [(.v (.int .i64 x4.Period)), (.v (.int .i64 x4.Count)), (.v (.sl (x4.Core.map (cL Span.cs)))), (.v (.sl (x4.Odd.map Granule.cs)))]) (cells' := [(.v (.int .i64 x4.Period)), (.v (.int .i64 x4.Count)), (.v (.sl (x4.Core.map (cL Span.cs)))), (.v (.sl (x4.Odd.map Granule.cs)))]) H 0 rfl rfl rfl rfl rfl rfl rfl rfl rfl (fun _ => .inr ⟨5, rfl, by kernel_rfl, by decide⟩) ?_; intro σ H
    apply Ops.nil
    replace H := H.all
    apply Runs.then
    refine Runs.drawnH 20 rfl (by kernel_rfl) H ?_; intro b6 σ H B6
    refine Ops.loadHA (off := 0) (cs := [(.v (.int .i64 x3.Period)), (.v (.int .i64 x3.Count)), (.v (.sl (x3.Core.map (cL Span.cs)))), (.v (.sl (x3.Odd.map Granule.cs)))]) H 1 rfl rfl rfl rfl rfl rfl rfl (fun _ => .inl ⟨B6 1 _ rfl _ rfl, nofun⟩) rfl ?_
    refine Ops.loadHA (off := 0) (cs := [(.v (.int .i64 x4.Period)), (.v (.int .i64 x4.Count)), (.v (.sl (x4.Core.map (cL Span.cs)))), (.v (.sl (x4.Odd.map Granule.cs)))]) H 0 rfl rfl rfl rfl rfl rfl rfl (fun _ => .inl ⟨B6 0 _ rfl _ rfl, nofun⟩) rfl ?_
    obtain ⟨x5, q5, h⟩ := bind_some h
    refine Ops.call (ys := [(.agg [(.v (.int .i64 x3.Period)), (.v (.int .i64 x3.Count)), (.v (.sl (x3.Core.map (cL Span.cs)))), (.v (.sl (x3.Odd.map Granule.cs)))]), (.agg [(.v (.int .i64 x4.Period)), (.v (.int .i64 x4.Count)), (.v (.sl (x4.Core.map (cL Span.cs)))), (.v (.sl (x4.Odd.map Granule.cs)))])]) (r := (.v (.bool x5))) rfl (epactlow_AlikeForms_fn q5) rfl ?_
    refine Ops.move (v := (.v (.bool x5))) rfl rfl ?_
    obtain ⟨y1, hj1, h⟩ := bind_some h
    refine Ops.mid 7 (K1 := fun e σ => EnvHas e [(26, (.v (.bool y1))), (1, (.ptr (b1 + 0) 4 0)), (3, (.ptr (b4 + 2) 4 0))] ∧ Has σ (b6 + 11) (b6 + 20) [.blk (b4 + 2) 25 [(.v (.int .i64 x2.Period)), (.v (.int .i64 x2.Count)), (.v (.sl (x2.Core.map (cL Span.cs)))), (.v (.sl (x2.Odd.map Granule.cs)))], .blk (b1 + 0) 25 [(.v (.int .i64 f.Period)), (.v (.int .i64 f.Count)), (.v (.sl (f.Core.map (cL Span.cs)))), (.v (.sl (f.Odd.map Granule.cs)))]]) rfl ?_ ?_
    · refine Ops.split rfl rfl ?_ ?_ <;> intro hc2
      · replace h := cond_T hc2 hj1
        refine Ops.wanted rfl rfl ?_
        refine Ops.loadHA (off := 0) (cs := [(.v (.int .i64 x2.Period)), (.v (.int .i64 x2.Count)), (.v (.sl (x2.Core.map (cL Span.cs)))), (.v (.sl (x2.Odd.map Granule.cs)))]) H 2 rfl rfl rfl rfl rfl rfl rfl (fun _ => .inl ⟨B6 2 _ rfl _ rfl, nofun⟩) rfl ?_
        refine Ops.wanted rfl rfl ?_
        obtain ⟨x6, q6, h⟩ := bind_some h
        refine Ops.call (ys := [(.agg [(.v (.int .i64 x2.Period)), (.v (.int .i64 x2.Count)), (.v (.sl (x2.Core.map (cL Span.cs)))), (.v (.sl (x2.Odd.map Granule.cs)))])]) (r := (.v (.bool x6))) rfl (canon_Is_fn q6) rfl ?_
        refine Ops.wanted rfl rfl ?_
        refine Ops.loadHA (off := 0) (cs := [(.v (.int .i64 f.Period)), (.v (.int .i64 f.Count)), (.v (.sl (f.Core.map (cL Span.cs)))), (.v (.sl (f.Odd.map Granule.cs)))]) H 3 rfl rfl rfl rfl rfl rfl rfl (fun _ => .inl ⟨B6 3 _ rfl _ rfl, nofun⟩) rfl ?_
        refine Ops.wanted rfl rfl ?_
        refine Ops.loadHA (off := 0) (cs := [(.v (.int .i64 x4.Period)), (.v (.int .i64 x4.Count)), (.v (.sl (x4.Core.map (cL Span.cs)))), (.v (.sl (x4.Odd.map Granule.cs)))]) H 0 rfl rfl rfl rfl rfl rfl rfl (fun _ => .inl ⟨B6 0 _ rfl _ rfl, nofun⟩) rfl ?_
        refine Ops.wanted rfl rfl ?_
        obtain ⟨x7, q7, h⟩ := bind_some h
        refine Ops.call (ys := [(.agg [(.v (.int .i64 f.Period)), (.v (.int .i64 f.Count)), (.v (.sl (f.Core.map (cL Span.cs)))), (.v (.sl (f.Odd.map Granule.cs)))]), (.agg [(.v (.int .i64 x4.Period)), (.v (.int .i64 x4.Count)), (.v (.sl (x4.Core.map (cL Span.cs)))), (.v (.sl (x4.Odd.map Granule.cs)))])]) (r := (.v (.bool x7))) rfl (epactlow_AlikeForms_fn q7) rfl ?_
        refine Ops.wanted rfl rfl ?_
        refine Ops.eqB (b := x6) (b' := x7) rfl rfl rfl rfl ?_
        refine Ops.pickT (v := (.v (.bool (x6 == x7)))) rfl rfl rfl ?_
        apply Ops.nil
        replace h := Option.some.inj h; subst h
        exact ⟨⟨rfl, rfl, rfl, trivial⟩, ((H.erase 1).erase 0).weak (by omega) (Nat.le_refl _)⟩
      · replace h := cond_F hc2 hj1
        refine Ops.pass rfl rfl rfl ?_
        refine Ops.pass rfl rfl rfl ?_
        refine Ops.pass rfl rfl rfl ?_
        refine Ops.pass rfl rfl rfl ?_
        refine Ops.pass rfl rfl rfl ?_
        refine Ops.pass rfl rfl rfl ?_
        refine Ops.pickF (v := (.v (.bool false))) rfl rfl rfl ?_
        apply Ops.nil
        replace h := Option.some.inj h; subst h
        exact ⟨⟨rfl, rfl, rfl, trivial⟩, ((H.erase 1).erase 0).weak (by omega) (Nat.le_refl _)⟩
    · rintro e σ ⟨he, H⟩
      obtain ⟨e, rfl⟩ := he.ex
      refine Ops.move (v := (.v (.bool y1))) rfl rfl ?_
      obtain ⟨y2, hj2, h⟩ := bind_some h
      refine Ops.mid 4 (K1 := fun e σ => EnvHas e [(31, (.v (.bool y2)))] ∧ Has σ (b6 + 16) (b6 + 20) []) rfl ?_ ?_
      · refine Ops.split rfl rfl ?_ ?_ <;> intro hc3
        · replace h := cond_T hc3 hj2
          refine Ops.wanted rfl rfl ?_
          refine Ops.loadHA (off := 0) (cs := [(.v (.int .i64 x2.Period)), (.v (.int .i64 x2.Count)), (.v (.sl (x2.Core.map (cL Span.cs)))), (.v (.sl (x2.Odd.map Granule.cs)))]) H 0 rfl rfl rfl rfl rfl rfl rfl (fun _ => .inl ⟨B6 2 _ rfl _ rfl, nofun⟩) rfl ?_
          refine Ops.wanted rfl rfl ?_
          refine Ops.loadHA (off := 0) (cs := [(.v (.int .i64 f.Period)), (.v (.int .i64 f.Count)), (.v (.sl (f.Core.map (cL Span.cs)))), (.v (.sl (f.Odd.map Granule.cs)))]) H 1 rfl rfl rfl rfl rfl rfl rfl (fun _ => .inl ⟨B6 3 _ rfl _ rfl, nofun⟩) rfl ?_
          refine Ops.wanted rfl rfl ?_
          obtain ⟨x8, q8, h⟩ := bind_some h
          refine Ops.call (ys := [(.agg [(.v (.int .i64 x2.Period)), (.v (.int .i64 x2.Count)), (.v (.sl (x2.Core.map (cL Span.cs)))), (.v (.sl (x2.Odd.map Granule.cs)))]), (.agg [(.v (.int .i64 f.Period)), (.v (.int .i64 f.Count)), (.v (.sl (f.Core.map (cL Span.cs)))), (.v (.sl (f.Odd.map Granule.cs)))])]) (r := (.v (.bool x8))) rfl (epactlow_AlikeForms_fn q8) rfl ?_
          refine Ops.pickT (v := (.v (.bool x8))) rfl rfl rfl ?_
          apply Ops.nil
          replace h := Option.some.inj h; subst h
          exact ⟨⟨rfl, trivial⟩, ((H.erase 1).erase 0).weak (by omega) (Nat.le_refl _)⟩
        · replace h := cond_F hc3 hj2
          refine Ops.pass rfl rfl rfl ?_
          refine Ops.pass rfl rfl rfl ?_
          refine Ops.pass rfl rfl rfl ?_
          refine Ops.pickF (v := (.v (.bool false))) rfl rfl rfl ?_
          apply Ops.nil
          replace h := Option.some.inj h; subst h
          exact ⟨⟨rfl, trivial⟩, ((H.erase 1).erase 0).weak (by omega) (Nat.le_refl _)⟩
      · rintro e σ ⟨he, H⟩
        obtain ⟨e, rfl⟩ := he.ex
        refine Ops.move (v := (.v (.bool y2))) rfl rfl ?_
        refine Ops.mid 2 (K1 := fun e σ => EnvHas e [(34, (.v (.bool (y2 && epactlaw06_awake))))] ∧ Has σ (b6 + 19) (b6 + 20) []) rfl ?_ ?_
        · refine Ops.split rfl rfl ?_ ?_ <;> intro hc4
          · skip
            refine Ops.wanted rfl rfl ?_
            refine Ops.call (ys := []) (r := (.v (.bool epactlaw06_awake))) rfl (epactlaw06_awake_fn rfl) rfl ?_
            refine Ops.pickT (v := (.v (.bool epactlaw06_awake))) rfl rfl rfl ?_
            apply Ops.nil
            exact ⟨⟨and_T hc4, trivial⟩, H.weak (by omega) (Nat.le_refl _)⟩
          · skip
            refine Ops.pass rfl rfl rfl ?_
            refine Ops.pickF (v := (.v (.bool false))) rfl rfl rfl ?_
            apply Ops.nil
            exact ⟨⟨and_F hc4, trivial⟩, H.weak (by omega) (Nat.le_refl _)⟩
        · rintro e σ ⟨he, H⟩
          obtain ⟨e, rfl⟩ := he.ex
          refine Ops.assign (v := (.v (.bool (y2 && epactlaw06_awake)))) rfl rfl ?_
          apply Ops.nil
          replace H := H.all
          apply Runs.ret
          replace h := Option.some.inj h; subst h
          exact (Ends.H (xs := [(.v (.bool (y2 && epactlaw06_awake)))]) (.inr rfl) H (.tmp (v := (.v (.bool (y2 && epactlaw06_awake)))) rfl .nil) (.one (.c (.v _))))

end Go.Dn

set_option linter.unusedVariables false
set_option linter.unusedSimpArgs false
namespace Go.Dn
open Go

/-- A loop comes to an end, and what holds then. -/
theorem loopO_inv {S R : Type} {step : S → Option (S ⊕ R)} (I : S → Prop) (m : S → Nat) (post : R → Prop)
    (h : ∀ s, I s → (∃ s', step s = some (.inl s') ∧ I s' ∧ m s' < m s) ∨ (∃ r, step s = some (.inr r) ∧ post r)) : ∀ s, I s → ∃ r, loopO step s = some r ∧ post r := by
  have key : ∀ n s, m s = n → I s → ∃ r, loopO step s = some r ∧ post r := by
    intro n
    induction n using Nat.strongRecOn with
    | _ n ih =>
      intro s hm hI
      rcases h s hI with ⟨s', h1, h2, h3⟩ | ⟨r, h1, h2⟩
      · obtain ⟨r, q1, q2⟩ := ih (m s') (by omega) s' rfl h2
        exact ⟨r, by rw [loopO_eq, h1]; exact q1, q2⟩
      · exact ⟨r, by rw [loopO_eq, h1], h2⟩
  exact fun s hI => key _ s rfl hI

/-- The answer is known ahead. -/
theorem loopO_val {S R : Type} {step : S → Option (S ⊕ R)} (I : S → R → Prop) (m : S → Nat)
    (h : ∀ s r, I s r → (∃ s', step s = some (.inl s') ∧ I s' r ∧ m s' < m s) ∨ step s = some (.inr r)) {s : S} {r : R} (hI : I s r) : loopO step s = some r := by
  obtain ⟨r', h1, h2⟩ := loopO_inv (I := fun s => I s r) m (fun r' => r' = r) (fun s hs => by
    rcases h s r hs with ⟨s', h1, h2, h3⟩ | h1
    · exact .inl ⟨s', h1, h2, h3⟩
    · exact .inr ⟨r, h1, rfl⟩) s hI
  rw [h1, h2]

theorem bind_eq {α β : Type} {x : Option α} {a : α} {f : α → Option β} {b : Option β} (h : x = some a) (hf : f a = b) : x.bind f = b := by rw [h]; exact hf

theorem wrap_i64 (a : Int) : IntKind.i64.wrap a = (a + 9223372036854775808) % 18446744073709551616 - 9223372036854775808 := by
  simp [IntKind.wrap, IntKind.bits, IntKind.signed]
  split <;> omega
theorem wrap_u64 (a : Int) : IntKind.u64.wrap a = a % 18446744073709551616 := by
  simp [IntKind.wrap, IntKind.bits, IntKind.signed]
theorem wrap_i8 (a : Int) : IntKind.i8.wrap a = (a + 128) % 256 - 128 := by
  simp [IntKind.wrap, IntKind.bits, IntKind.signed]
  split <;> omega
theorem wrap_i32 (a : Int) : IntKind.i32.wrap a = (a + 2147483648) % 4294967296 - 2147483648 := by
  simp [IntKind.wrap, IntKind.bits, IntKind.signed]
  split <;> omega
theorem okI_i64 {x : Int} : okI .i64 x ↔ -9223372036854775808 ≤ x ∧ x ≤ 9223372036854775807 := Iff.rfl
theorem okI_i32 {x : Int} : okI .i32 x ↔ -2147483648 ≤ x ∧ x ≤ 2147483647 := Iff.rfl
theorem okI_i8 {x : Int} : okI .i8 x ↔ -128 ≤ x ∧ x ≤ 127 := Iff.rfl
theorem okI_u8 {x : Int} : okI .u8 x ↔ 0 ≤ x ∧ x ≤ 255 := Iff.rfl
theorem w64_id {x : Int} (h : -9223372036854775808 ≤ x ∧ x ≤ 9223372036854775807) : w64 x = x := by
  unfold w64; rw [wrap_i64]; omega
theorem maxLen_eq : maxLen = 9223372036854775807 := rfl
theorem room_eq : room = 140737488355328 := rfl

theorem at?_lt {α : Type} {l : List α} {i : Int} (h0 : 0 ≤ i) (h : i < l.length) : at? l i = some (l[i.toNat]'(by omega)) := by
  unfold at?; rw [if_pos h0, List.getElem?_eq_getElem]
theorem at?_nat {α : Type} {l : List α} {k : Nat} (h : k < l.length) : at? l (k : Int) = some l[k] := by
  rw [at?_lt (by omega) (by omega)]; rfl
theorem at?_none {α : Type} {l : List α} {i : Int} (h : i < 0 ∨ (l.length : Int) ≤ i) : at? l i = none := by
  unfold at?
  split
  · rw [List.getElem?_eq_none]; omega
  · rfl
theorem app?_ok {α : Type} {b : Nat} {l m : List α} (h : (l.length + m.length) * b ≤ room) : app? b l m = some (l ++ m) := if_pos h
theorem nz?_ok {b : Int} (h : b ≠ 0) : nz? b = some () := if_neg h

theorem beq_t {a b : Int} (h : a = b) : (a == b) = true := by simp [h]
theorem beq_f {a b : Int} (h : a ≠ b) : (a == b) = false := by simp [h]
theorem bne_t {a b : Int} (h : a ≠ b) : (a != b) = true := by simp [h]
theorem bne_f {a b : Int} (h : a = b) : (a != b) = false := by simp [h]
theorem ibeq (a b : Int) : (a == b) = decide (a = b) := by by_cases h : a = b <;> simp [h]
theorem dec_t {p : Prop} [Decidable p] (h : p) : decide p = true := by simp [h]
theorem dec_f {p : Prop} [Decidable p] (h : ¬ p) : decide p = false := by simp [h]

theorem pickB {α : Type} (c : Bool) (a b : α) : (bif c then a else b) = if c = true then a else b := by cases c <;> rfl

theorem first_bad {α : Type} {l : List α} {good : Nat → α → Prop} (h : ¬ ∀ k x, l[k]? = some x → good k x) : ∃ (k : Nat) (x : α), l[k]? = some x ∧ ¬ good k x ∧ ∀ j y, j < k → l[j]? = some y → good j y := by
  have hex : ∃ k : Nat, ∃ x, l[k]? = some x ∧ ¬ good k x := by
    apply Classical.byContradiction
    intro hn
    exact h fun k x hk => Classical.byContradiction fun hg => hn ⟨k, x, hk, hg⟩
  obtain ⟨k, hk⟩ := hex
  induction k using Nat.strongRecOn with
  | _ k ih =>
    by_cases h : ∃ j, j < k ∧ ∃ x, l[j]? = some x ∧ ¬ good j x
    · obtain ⟨j, hj, hx⟩ := h
      exact ih j hj hx
    · obtain ⟨x, hx, hb⟩ := hk
      exact ⟨k, x, hx, hb, fun j y hj hy => Classical.byContradiction fun hg => h ⟨j, hj, y, hy, hg⟩⟩

/-- 'for i, x := range l { if bad(x) { return false } }'. -/
theorem all_loop {α R : Type} {l : List α} {step : Int → Option (Int ⊕ R)} (good : Nat → α → Prop) {no yes : R}
    (hstep : ∀ (k : Nat) (x : α), l[k]? = some x → (∀ j y, j < k → l[j]? = some y → good j y) → (step (k : Int) = some (.inl ((k : Int) + 1)) ∧ good k x) ∨ (step (k : Int) = some (.inr no) ∧ ¬ good k x))
    (hend : step (l.length : Int) = some (.inr yes)) : (loopO step 0 = some yes ∧ ∀ k x, l[k]? = some x → good k x) ∨ (loopO step 0 = some no ∧ ¬ ∀ k x, l[k]? = some x → good k x) := by
  by_cases hall : ∀ k x, l[k]? = some x → good k x
  · refine .inl ⟨?_, hall⟩
    refine loopO_val (I := fun (s : Int) r => r = yes ∧ ∃ k : Nat, s = k ∧ k ≤ l.length) (fun s => (l.length - s.toNat)) ?_ ⟨rfl, 0, rfl, Nat.zero_le _⟩
    rintro s r ⟨rfl, k, rfl, hk⟩
    by_cases hlt : k < l.length
    · rcases hstep k l[k] (List.getElem?_eq_getElem hlt) (fun j y _ hy => hall j y hy) with ⟨h1, _⟩ | ⟨_, h2⟩
      · exact .inl ⟨_, h1, ⟨rfl, k + 1, by push_cast; rfl, hlt⟩, by simp; omega⟩
      · exact absurd (hall k _ (List.getElem?_eq_getElem hlt)) h2
    · have : k = l.length := by omega
      subst this
      exact .inr hend
  · refine .inr ⟨?_, hall⟩
    obtain ⟨k0, x0, hx0, hb0, hgood⟩ := first_bad hall
    have hlt0 := (List.getElem?_eq_some_iff.1 hx0).1
    refine loopO_val (I := fun (s : Int) r => r = no ∧ ∃ k : Nat, s = k ∧ k ≤ k0) (fun s => (l.length - s.toNat)) ?_ ⟨rfl, 0, rfl, Nat.zero_le _⟩
    rintro s r ⟨rfl, k, rfl, hk⟩
    by_cases hlt : k < k0
    · have hkl : k < l.length := by omega
      rcases hstep k l[k] (List.getElem?_eq_getElem hkl) (fun j y hj hy => hgood j y (by omega) hy) with ⟨h1, _⟩ | ⟨_, h2⟩
      · exact .inl ⟨_, h1, ⟨rfl, k + 1, by push_cast; rfl, hlt⟩, by simp; omega⟩
      · exact absurd (hgood k _ hlt (List.getElem?_eq_getElem hkl)) h2
    · have : k = k0 := by omega
      subst this
      rcases hstep k x0 hx0 hgood with ⟨_, h2⟩ | ⟨h1, _⟩
      · exact absurd h2 hb0
      · exact .inr h1

/-- 'for _, x := range l { acc = acc with x }'. -/
theorem fold_loop {α A R : Type} {l : List α} {step : A × Int → Option ((A × Int) ⊕ R)} (f : A → Nat → α → A) (fin : A → R) (I : Nat → A → Prop) {a0 : A} (h0 : I 0 a0)
    (hgo : ∀ (k : Nat) (x : α) (a : A), l[k]? = some x → I k a → step (a, (k : Int)) = some (.inl (f a k x, (k : Int) + 1)) ∧ I (k + 1) (f a k x))
    (hend : ∀ a, I l.length a → step (a, (l.length : Int)) = some (.inr (fin a))) : ∃ a, loopO step (a0, 0) = some (fin a) ∧ I l.length a := by
  obtain ⟨r, h1, a, rfl, h2⟩ := loopO_inv (step := step) (I := fun s => ∃ (k : Nat) (a : A), s = (a, (k : Int)) ∧ k ≤ l.length ∧ I k a) (fun s => l.length - s.2.toNat) (fun r => ∃ a, r = fin a ∧ I l.length a) (by
    rintro s ⟨k, a, rfl, hk, hI⟩
    by_cases hlt : k < l.length
    · obtain ⟨q1, q2⟩ := hgo k l[k] a (List.getElem?_eq_getElem hlt) hI
      exact .inl ⟨_, q1, ⟨k + 1, _, by push_cast; rfl, hlt, q2⟩, by simp; omega⟩
    · have : k = l.length := by omega
      subst this
      exact .inr ⟨_, hend a hI, a, rfl, hI⟩) (a0, 0) ⟨0, a0, rfl, Nat.zero_le _, h0⟩
  exact ⟨a, h1, h2⟩
end Go.Dn

set_option linter.unusedVariables false
set_option linter.unusedSimpArgs false
namespace Go.Dn
open Go

def In64 (a : Int) : Prop := -9223372036854775808 ≤ a ∧ a ≤ 9223372036854775807
def InU64 (a : Int) : Prop := 0 ≤ a ∧ a ≤ 18446744073709551615
def fitS (a : Int) : Int × Int := if -9223372036854775808 ≤ a ∧ a ≤ 9223372036854775807 then (a, 0) else (0, 10)
theorem fitS_of {a : Int} (h : In64 a) : fitS a = (a, 0) := if_pos h
theorem fitS_not {a : Int} (h : ¬ In64 a) : fitS a = (0, 10) := if_neg h
theorem fitS_in (a : Int) : In64 (fitS a).1 := by unfold fitS In64; split <;> simp <;> omega
theorem fit_or (x : Int) : (In64 x ∧ fitS x = (x, 0)) ∨ (¬ In64 x ∧ fitS x = (0, 10)) := by
  by_cases h : In64 x
  · exact .inl ⟨h, fitS_of h⟩
  · exact .inr ⟨h, fitS_not h⟩
theorem fit_zero {x : Int} (h : (fitS x).2 = 0) : In64 x ∧ (fitS x).1 = x := by
  rcases fit_or x with ⟨h1, h2⟩ | ⟨h1, h2⟩
  · exact ⟨h1, by rw [h2]⟩
  · rw [h2] at h; cases h

theorem and32 (x : Int) (h : InU64 x) : (((BitVec.ofInt 64 x &&& BitVec.ofInt 64 4294967295).toNat : Nat) : Int) = x % 4294967296 := by
  obtain ⟨n, rfl⟩ := Int.eq_ofNat_of_zero_le h.1
  have hn : n < 2 ^ 64 := by have := h.2; omega
  have h1 : (BitVec.ofInt 64 (n : Int)).toNat = n := by simp [BitVec.toNat_ofInt]; omega
  have h2 : (BitVec.ofInt 64 4294967295).toNat = 2 ^ 32 - 1 := by decide
  rw [BitVec.toNat_and, h1, h2, Nat.and_two_pow_sub_one_eq_mod]
  omega

theorem mul64_fact {x y : Int} (hx : InU64 x) (hy : InU64 y) :
    (x / 4294967296 * (y / 4294967296) + (x / 4294967296 * (y % 4294967296) + x % 4294967296 * (y % 4294967296) / 4294967296) / 4294967296 +
      ((x / 4294967296 * (y % 4294967296) + x % 4294967296 * (y % 4294967296) / 4294967296) % 4294967296 + x % 4294967296 * (y / 4294967296)) / 4294967296) = x * y / 18446744073709551616 ∧
    0 ≤ x % 4294967296 * (y % 4294967296) ∧ x % 4294967296 * (y % 4294967296) ≤ 18446744065119617025 ∧
    0 ≤ x / 4294967296 * (y % 4294967296) ∧ x / 4294967296 * (y % 4294967296) ≤ 18446744065119617025 ∧
    0 ≤ x % 4294967296 * (y / 4294967296) ∧ x % 4294967296 * (y / 4294967296) ≤ 18446744065119617025 ∧
    0 ≤ x / 4294967296 * (y / 4294967296) ∧ x / 4294967296 * (y / 4294967296) ≤ 18446744065119617025 := by
  have b : ∀ {u v : Int}, 0 ≤ u → u ≤ 4294967295 → 0 ≤ v → v ≤ 4294967295 → 0 ≤ u * v ∧ u * v ≤ 18446744065119617025 := by
    intro u v h1 h2 h3 h4
    exact ⟨Int.mul_nonneg h1 h3, Int.le_trans (Int.mul_le_mul h2 h4 h3 (by omega)) (by decide)⟩
  obtain ⟨hx1, hx2⟩ := hx
  obtain ⟨hy1, hy2⟩ := hy
  obtain ⟨a1, a2⟩ := b (u := x % 4294967296) (v := y % 4294967296) (by omega) (by omega) (by omega) (by omega)
  obtain ⟨b1, b2⟩ := b (u := x / 4294967296) (v := y % 4294967296) (by omega) (by omega) (by omega) (by omega)
  obtain ⟨c1, c2⟩ := b (u := x % 4294967296) (v := y / 4294967296) (by omega) (by omega) (by omega) (by omega)
  obtain ⟨d1, d2⟩ := b (u := x / 4294967296) (v := y / 4294967296) (by omega) (by omega) (by omega) (by omega)
  refine ⟨?_, a1, a2, b1, b2, c1, c2, d1, d2⟩
  have e : x * y = x / 4294967296 * (y / 4294967296) * 18446744073709551616 + (x / 4294967296 * (y % 4294967296) + x % 4294967296 * (y / 4294967296)) * 4294967296 + x % 4294967296 * (y % 4294967296) := by
    have ex : x = x / 4294967296 * 4294967296 + x % 4294967296 := by omega
    have ey : y = y / 4294967296 * 4294967296 + y % 4294967296 := by omega
    clear a1 a2 b1 b2 c1 c2 d1 d2 b hx1 hx2 hy1 hy2
    generalize x / 4294967296 = x1 at *
    generalize x % 4294967296 = x0 at *
    generalize y / 4294967296 = y1 at *
    generalize y % 4294967296 = y0 at *
    subst ex ey
    simp only [Int.add_mul, Int.mul_add]
    have h1 : x1 * 4294967296 * (y1 * 4294967296) = x1 * y1 * 18446744073709551616 := by
      rw [Int.mul_assoc, Int.mul_comm 4294967296, Int.mul_assoc y1, ← Int.mul_assoc]
      rfl
    have h2 : x1 * 4294967296 * y0 = x1 * y0 * 4294967296 := by rw [Int.mul_assoc, Int.mul_comm 4294967296, ← Int.mul_assoc]
    have h3 : x0 * (y1 * 4294967296) = x0 * y1 * 4294967296 := by rw [← Int.mul_assoc]
    rw [h1, h2, h3]
    omega
  rw [e]
  generalize x / 4294967296 * (y / 4294967296) = d at *
  generalize x / 4294967296 * (y % 4294967296) = b' at *
  generalize x % 4294967296 * (y / 4294967296) = c at *
  generalize x % 4294967296 * (y % 4294967296) = a at *
  omega

theorem safe_Add_eq {a b : Int} (ha : In64 a) (hb : In64 b) : safe_Add a b = fitS (a + b) := by
  unfold In64 at ha hb
  unfold safe_Add fitS w64
  rw [wrap_i64]
  cases h : ((decide ((a + b + 9223372036854775808) % 18446744073709551616 - 9223372036854775808 > a) != decide (b > 0)) && b != 0)
  · rw [cond_false]
    simp only [Bool.and_eq_false_iff, bne_eq_false_iff_eq, decide_eq_decide] at h
    split <;> simp only [Prod.mk.injEq, and_true] <;> omega
  · rw [cond_true]
    simp only [Bool.and_eq_true, bne_iff_ne, ne_eq, decide_eq_decide] at h
    split <;> simp only [Prod.mk.injEq] <;> omega

theorem safe_size_eq {a : Int} (h : In64 a) : safe_size a = a.natAbs := by
  unfold In64 at h
  unfold safe_size
  rw [pickB]
  simp only [decide_eq_true_eq, wrap_u64]
  split <;> omega

theorem inU_abs {a : Int} (h : In64 a) : InU64 a.natAbs := by unfold In64 at h; unfold InU64; omega
theorem natAbs_prod (a b : Int) : (a.natAbs : Int) * b.natAbs = (a * b).natAbs := by rw [Int.natAbs_mul]; simp

theorem mul64_eq {x y : Int} (hx : InU64 x) (hy : InU64 y) : math_bits_Mul64 x y = (x * y / 18446744073709551616, x * y % 18446744073709551616) := by
  unfold math_bits_Mul64
  have hb : ∀ z : Int, z.fdiv (2 ^ 32) = z / 4294967296 := fun z => Int.fdiv_eq_ediv_of_nonneg z (by decide)
  have hm : (IntKind.u64.bits) = 64 := rfl
  obtain ⟨h1, h2, h3, h4, h5, h6, h7, h8, h9⟩ := mul64_fact hx hy
  have hw : ∀ z : Int, 0 ≤ z → z ≤ 18446744073709551615 → IntKind.u64.wrap z = z := fun z q1 q2 => by rw [wrap_u64]; omega
  simp only [hb, iAnd]
  rw [hm, and32 x hx, and32 y hy]
  have x0 : 0 ≤ x % 4294967296 ∧ x % 4294967296 < 4294967296 := by omega
  have y0 : 0 ≤ y % 4294967296 ∧ y % 4294967296 < 4294967296 := by omega
  rw [hw (x % 4294967296) (by omega) (by omega), hw (y % 4294967296) (by omega) (by omega), hw _ h2 (by omega), hw _ h4 (by omega), hw _ h6 (by omega), hw _ h8 (by omega)]
  rw [hw (x / 4294967296 * (y % 4294967296) + x % 4294967296 * (y % 4294967296) / 4294967296) (by omega) (by omega)]
  rw [and32 _ ⟨by omega, by omega⟩]
  have t0 : 0 ≤ (x / 4294967296 * (y % 4294967296) + x % 4294967296 * (y % 4294967296) / 4294967296) % 4294967296 ∧ (x / 4294967296 * (y % 4294967296) + x % 4294967296 * (y % 4294967296) / 4294967296) % 4294967296 < 4294967296 := by omega
  rw [hw ((x / 4294967296 * (y % 4294967296) + x % 4294967296 * (y % 4294967296) / 4294967296) % 4294967296) (by omega) (by omega)]
  rw [hw ((x / 4294967296 * (y % 4294967296) + x % 4294967296 * (y % 4294967296) / 4294967296) % 4294967296 + x % 4294967296 * (y / 4294967296)) (by omega) (by omega)]
  rw [hw (x / 4294967296 * (y / 4294967296) + (x / 4294967296 * (y % 4294967296) + x % 4294967296 * (y % 4294967296) / 4294967296) / 4294967296) (by omega) (by omega)]
  rw [hw _ (by omega) (by omega), h1, wrap_u64]

theorem safe_signed_eq {n : Int} (m : Bool) (h : InU64 n) : safe_signed n m = fitS (if m then -n else n) := by
  unfold InU64 at h
  unfold safe_signed fitS w64
  rw [pickB, pickB, wrap_u64, wrap_i64, wrap_i64]
  cases m <;> simp only [Bool.true_and, Bool.false_and, Bool.not_true, Bool.not_false, decide_eq_true_eq, Bool.false_eq_true, if_false, if_true]
  · split
    · rw [if_pos (by omega)]; simp only [Prod.mk.injEq, and_true]; omega
    · rw [if_neg (by omega)]
  · split
    · rw [if_pos (by omega)]; simp only [Prod.mk.injEq, and_true]; omega
    · rw [if_neg (by omega)]

theorem safe_Mul_eq {a b : Int} (ha : In64 a) (hb : In64 b) : safe_Mul a b = fitS (a * b) := by
  unfold safe_Mul
  rw [safe_size_eq ha, safe_size_eq hb, mul64_eq (inU_abs ha) (inU_abs hb), pickB]
  simp only [natAbs_prod]
  rw [safe_signed_eq _ (by unfold InU64; omega)]
  by_cases h : ((a * b).natAbs : Int) / 18446744073709551616 = 0
  · rw [if_neg (by simp [h])]
    have e : ((a * b).natAbs : Int) % 18446744073709551616 = (a * b).natAbs := by omega
    rw [e]
    show fitS _ = _
    refine congrArg fitS ?_
    by_cases h1 : a < 0 <;> by_cases h2 : b < 0 <;> simp only [h1, h2, decide_true, decide_false]
    · have := Int.mul_nonneg_of_nonpos_of_nonpos (Int.le_of_lt h1) (Int.le_of_lt h2)
      simp; omega
    · have := Int.mul_nonpos_of_nonpos_of_nonneg (Int.le_of_lt h1) (Int.not_lt.1 h2)
      simp; omega
    · have := Int.mul_nonpos_of_nonneg_of_nonpos (Int.not_lt.1 h1) (Int.le_of_lt h2)
      simp; omega
    · have := Int.mul_nonneg (Int.not_lt.1 h1) (Int.not_lt.1 h2)
      simp; omega
  · rw [if_pos (by simp [h])]
    unfold fitS
    rw [if_neg]
    omega

def floorS (a b : Int) : Int × Int × Int := if b = 0 then (0, 0, 11) else if b = -1 ∧ a = -9223372036854775808 then (0, 0, 10) else (a.fdiv b, a.fmod b, 0)
theorem floor_up {a b : Int} (hb : b ≠ 0) (h1 : a.tmod b ≠ 0) (h2 : ¬(a.tmod b < 0 ↔ b < 0)) : a.fdiv b = a.tdiv b - 1 ∧ a.fmod b = a.tmod b + b := by
  have q1 := Int.emod_nonneg a hb
  have q2 := Int.emod_lt a hb
  have hd : b ∣ a ↔ a % b = 0 := Int.dvd_iff_emod_eq_zero
  rw [Int.fdiv_eq_ediv, Int.fmod_eq_emod, Int.tdiv_eq_ediv]
  rw [Int.tmod_eq_emod] at h1 h2 ⊢
  simp only [hd] at h1 h2 ⊢
  rcases Int.lt_or_gt_of_ne hb with h | h
  · rw [Int.sign_eq_neg_one_of_neg h]
    split at h1 <;> split <;> simp_all <;> omega
  · rw [Int.sign_eq_one_of_pos h]
    split at h1 <;> split <;> simp_all <;> omega

theorem floor_same {a b : Int} (hb : b ≠ 0) (h : a.tmod b = 0 ∨ (a.tmod b < 0 ↔ b < 0)) : a.fdiv b = a.tdiv b ∧ a.fmod b = a.tmod b := by
  have q1 := Int.emod_nonneg a hb
  have q2 := Int.emod_lt a hb
  have hd : b ∣ a ↔ a % b = 0 := Int.dvd_iff_emod_eq_zero
  rw [Int.fdiv_eq_ediv, Int.fmod_eq_emod, Int.tdiv_eq_ediv]
  rw [Int.tmod_eq_emod] at h ⊢
  simp only [hd] at h ⊢
  rcases Int.lt_or_gt_of_ne hb with hh | hh
  · rw [Int.sign_eq_neg_one_of_neg hh]
    split at h <;> split <;> simp_all <;> omega
  · rw [Int.sign_eq_one_of_pos hh]
    split at h <;> split <;> simp_all <;> omega

theorem tdiv_in {a b : Int} (ha : In64 a) (hb : b ≠ 0) (hn : ¬(b = -1 ∧ a = -9223372036854775808)) : In64 (a.tdiv b) := by
  have h : (a.tdiv b).natAbs = a.natAbs / b.natAbs := Int.natAbs_tdiv a b
  obtain ⟨h1, h2⟩ := ha
  by_cases hb1 : b = 1
  · subst hb1; rw [Int.tdiv_one]; exact ⟨h1, h2⟩
  · by_cases hb2 : b = -1
    · have ha' : a ≠ -9223372036854775808 := fun e => hn ⟨hb2, e⟩
      have : a.natAbs / b.natAbs ≤ a.natAbs := Nat.div_le_self _ _
      unfold In64; omega
    · have h3 : a.natAbs / b.natAbs ≤ a.natAbs / 2 := Nat.div_le_div_left (by omega) (by omega)
      unfold In64; omega

theorem tdiv_in1 {a b : Int} (ha : In64 a) (hb : b ≠ 0) (h1 : a.tmod b ≠ 0) : In64 (a.tdiv b - 1) := by
  have h : (a.tdiv b).natAbs = a.natAbs / b.natAbs := Int.natAbs_tdiv a b
  obtain ⟨h2, h3⟩ := ha
  by_cases hb1 : b = 1
  · subst hb1; simp at h1
  · by_cases hb2 : b = -1
    · subst hb2; simp at h1
    · have h3 : a.natAbs / b.natAbs ≤ a.natAbs / 2 := Nat.div_le_div_left (by omega) (by omega)
      unfold In64; omega

theorem tmod_in {a b : Int} (hb : In64 b) (hb0 : b ≠ 0) : In64 (a.tmod b) := by
  have h : (a.tmod b).natAbs = a.natAbs % b.natAbs := Int.natAbs_tmod a b
  have : a.natAbs % b.natAbs < b.natAbs := Nat.mod_lt _ (by omega)
  unfold In64 at *; omega

theorem wrap_in {a : Int} (h : In64 a) : IntKind.i64.wrap a = a := by rw [wrap_i64]; unfold In64 at h; omega

theorem fmod_in {a b : Int} (hb : In64 b) (hb0 : b ≠ 0) : In64 (a.fmod b) := by
  have q1 := Int.emod_nonneg a hb0
  have q2 := Int.emod_lt a hb0
  rw [Int.fmod_eq_emod]
  unfold In64 at *
  split <;> omega

theorem floor_leaf1 {a b : Int} (ha : In64 a) (hb : In64 b) (h0 : b ≠ 0) (hn : ¬(b = -1 ∧ a = -9223372036854775808)) (h1 : a.tmod b ≠ 0) (h2 : ¬(a.tmod b < 0 ↔ b < 0)) :
    (IntKind.i64.wrap (IntKind.i64.wrap (a.tdiv b) - 1), IntKind.i64.wrap (a.tmod b + b), (0 : Int)) = floorS a b := by
  obtain ⟨e1, e2⟩ := floor_up h0 h1 h2
  rw [floorS, if_neg h0, if_neg hn, e1, e2, wrap_in (tdiv_in ha h0 hn), wrap_in (tdiv_in1 ha h0 h1), wrap_in (by rw [← e2]; exact fmod_in hb h0)]

theorem floor_leaf2 {a b : Int} (ha : In64 a) (hb : In64 b) (h0 : b ≠ 0) (hn : ¬(b = -1 ∧ a = -9223372036854775808)) (h : a.tmod b = 0 ∨ (a.tmod b < 0 ↔ b < 0)) :
    (IntKind.i64.wrap (a.tdiv b), a.tmod b, (0 : Int)) = floorS a b := by
  obtain ⟨e1, e2⟩ := floor_same h0 h
  rw [floorS, if_neg h0, if_neg hn, e1, e2, wrap_in (tdiv_in ha h0 hn)]


theorem safe_Floor_eq {a b : Int} (ha : In64 a) (hb : In64 b) : safe_Floor a b = some (floorS a b) := by
  unfold safe_Floor
  by_cases h0 : b = 0
  · subst h0; rfl
  rw [beq_f h0, cond_false]
  by_cases hn : b = -1 ∧ a = -9223372036854775808
  · obtain ⟨rfl, rfl⟩ := hn
    rfl
  have : (b == -1 && a == -9223372036854775808) = false := by
    simp only [Bool.and_eq_false_iff, beq_eq_false_iff_ne]
    by_cases h : b = -1
    · exact .inr fun e => hn ⟨h, e⟩
    · exact .inl h
  rw [this, cond_false, nz?_ok h0]
  simp only [Option.bind_some, pickB, Bool.and_eq_true, bne_iff_ne, ne_eq, decide_eq_decide]
  split
  · rename_i h
    simp only [Option.bind_some]
    exact congrArg some (floor_leaf1 ha hb h0 hn h.1 h.2)
  · rename_i h
    simp only [Option.bind_some]
    refine congrArg some (floor_leaf2 ha hb h0 hn ?_)
    by_cases h1 : a.tmod b = 0
    · exact .inl h1
    · exact .inr (Classical.byContradiction fun h2 => h ⟨h1, h2⟩)

theorem fdiv_nonneg_eq {a b : Int} (hb : 0 < b) : a.fdiv b = a / b ∧ a.fmod b = a % b := ⟨Int.fdiv_eq_ediv_of_nonneg a (Int.le_of_lt hb), Int.fmod_eq_emod_of_nonneg a (Int.le_of_lt hb)⟩
theorem floorS_pos {a b : Int} (hb : 0 < b) : floorS a b = (a / b, a % b, 0) := by
  unfold floorS
  rw [if_neg (by omega), if_neg (by omega), (fdiv_nonneg_eq hb).1, (fdiv_nonneg_eq hb).2]

end Go.Dn
