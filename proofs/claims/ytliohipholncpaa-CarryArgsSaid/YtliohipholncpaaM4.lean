/- Part 4 of what the row stands on. -/
import Derived.Test.YtliohipholncpaaM3
set_option linter.unusedVariables false
set_option linter.unusedSimpArgs false
namespace Go.Dn
open Go Go.Proofs

theorem slices_Clone_SSpan_Span_fn {l : List Span} {r : List Span} (h : clone? 16 l = some r) : Fn CX 67 [(vl Span.cs l)] (vl Span.cs r) := by
 obtain ⟨h1, rfl⟩ := clone_some h
 refine Fn.intr ?_ rfl rfl rfl
 rw [cx_intr67]
 unfold cloneV
 dsimp only
 rw [if_pos ⟨by simp [Span.cs], by simpa using h1⟩]

set_option maxRecDepth 100000 in
set_option maxHeartbeats 4000000 in
theorem canon_core_fn {f : Form} {r : Form} (h : canon_core f = some r) : Fn CX 65 [(.agg (vs (Form.cs f)))] (.agg (vs (Form.cs r))) := by
 refine Fn.ends Try.func65 rfl rfl rfl rfl rfl rfl ?_
 have H : Hs (⟨0, fun _ => .none⟩ : Heap) [] := Has.nil (Nat.le_refl _)
 generalize (⟨0, fun _ => .none⟩ : Heap) = σ at H ⊢
 unfold canon_core at h
 apply Runs.then
 refine Runs.regionH 2 rfl H ?_; intro b1 σ H
 refine Ops.boxH (v := (.agg [(vi f.Period), (vi f.Count), (vl (cL Span.cs) f.Core), (vl Granule.cs f.Odd)])) (cs := [(vi f.Period), (vi f.Count), (vl (cL Span.cs) f.Core), (vl Granule.cs f.Odd)]) H (by omega) (by omega) rfl rfl rfl ?_; intro σ H
 refine Ops.allocH (cs := [(vi 0), (vi 0), .nils, .nils]) H (by omega) (by omega) rfl rfl ?_; intro σ H
 apply Ops.nil
 replace H := H.all
 apply Runs.scope
 apply Runs.then
 refine Runs.regionH 3 rfl H ?_; intro b2 σ H
 refine Ops.buildA (cs := [(vi 0), (vi 0), .nils, .nils]) rfl rfl ?_
 refine Ops.allocH (cs := [(vi 0), (vi 0), .nils, .nils]) H (by omega) (by omega) rfl rfl ?_; intro σ H
 refine Ops.storeH (off := 0) (v := (.agg [(vi 0), (vi 0), .nils, .nils])) (ys := [(vi 0), (vi 0), .nils, .nils]) (cells' := [(vi 0), (vi 0), .nils, .nils]) H 0 rfl rfl rfl rfl rfl rfl rfl rfl rfl nofun ?_; intro σ H
 apply Ops.nil
 replace H := H.all
 apply Runs.then
 apply Runs.then
 refine Runs.regionH 2 rfl H ?_; intro b3 σ H
 refine Ops.loadHA (off := 0) (cs := [(vi f.Period), (vi f.Count), (vl (cL Span.cs) f.Core), (vl Granule.cs f.Odd)]) H 2 rfl rfl rfl rfl rfl rfl rfl nofun rfl ?_
 obtain ⟨x1, q1, h⟩ := bind_some h
 refine Ops.call (ys := [(.agg [(vi f.Period), (vi f.Count), (vl (cL Span.cs) f.Core), (vl Granule.cs f.Odd)])]) (r := (vb x1)) rfl (canon_bare_fn q1) rfl ?_
 apply Ops.nil
 replace H := H.all
 refine Runs.whether (v := x1) rfl ?_ ?_ <;> intro hc1
 ·replace h := cond_T hc1 h
  apply Runs.then
  refine Runs.regionH 2 rfl H ?_; intro b4 σ H
  refine Ops.loadHA (off := 0) (cs := [(vi 0), (vi 0), .nils, .nils]) H 0 rfl rfl rfl rfl rfl rfl rfl nofun rfl ?_
  refine Ops.storeH (off := 0) (v := (.agg [(vi 0), (vi 0), .nils, .nils])) (ys := [(vi 0), (vi 0), .nils, .nils]) (cells' := [(vi 0), (vi 0), .nils, .nils]) H 1 rfl rfl rfl rfl rfl rfl rfl rfl rfl nofun ?_; intro σ H
  apply Ops.nil
  replace H := H.all
  apply Runs.ret
  replace h := Option.some.inj h; subst h
  exact (Ends.H (xs := [(.agg [(vi 0), (vi 0), .nils, .nils])]) (.inr rfl) H (.agg (cs := [(vi 0), (vi 0), .nils, .nils]) (off := 0) 1 rfl rfl rfl rfl rfl rfl rfl .nil) (.one (.a (.cons (.v _) (.cons (.v _) (.cons .n (.cons .n .nil)))))))
 ·replace h := cond_F hc1 h
  apply Runs.skip
  apply Runs.then
  apply Runs.label
  apply Runs.then
  obtain ⟨y1, hj1, h⟩ := bind_some h
  refine Runs.mono (Q := fun x e σ => ∃ (w1 : PV), x = .normal ∧ EnvHas e [(2, (.ptr (b1 + 1) 4 0)), (3, (.ptr (b2 + 1) 4 0))] ∧ Hs σ [.sl w1 41 1 (y1.1.map (cL Span.cs)) true, .blk (b2 + 1) 25 [(vi y1.2.1), (vi y1.2.2), w1, .nils], .blk (b1 + 1) 25 [(vi 0), (vi 0), .nils, .nils]]) ?_ ?_
  ·replace h := hj1
   apply Runs.then
   refine Runs.regionH 3 rfl H ?_; intro b5 σ H
   refine Ops.fieldAddrH (off := 0) (fo := 1) H 2 rfl rfl rfl rfl rfl nofun rfl ?_
   refine Ops.loadH (off := 1) (v := (vi f.Count)) H 2 rfl rfl rfl rfl rfl nofun rfl ?_
   refine Ops.callO (ys := [(vi f.Count)]) rfl (canon_divisors_fn H) nofun rfl ?_; rintro _ σ ⟨id1, rfl, H⟩
   apply Ops.nil
   replace H := H.all
   apply Runs.inBlock
   replace H := H.pushNil 41 1 true
   obtain ⟨y2, hj2, h⟩ := bind_some h
   refine Runs.rangeH H rfl (fun s2 M => ∃ (w4 : PV), M = [.sl w4 41 1 (s2.1.map (cL Span.cs)) true, .blk id1 3 [(vi f.Count)], .blk (b2 + 1) 25 [(vi s2.2.1), (vi s2.2.2), w4, .nils], .blk (b1 + 1) 25 [(vi 0), (vi 0), .nils, .nils], .blk (b1 + 0) 25 [(vi f.Period), (vi f.Count), (vl (cL Span.cs) f.Core), (vl Granule.cs f.Odd)]]) (fun z2 => [(vi z2)]) (canon_core.b0 f) (fun p => if p = 0 then none else some (.exit 0)) rfl (fun p => by (repeat' split) <;> exact ⟨_, rfl⟩) (r := y2) ⟨.nils, rfl⟩ (fun _ => rfl) (fun _ => rfl) ?_ (fun id hy => canon_divisors_1_fn hy (fun s L hL => by obtain ⟨M, hM, rfl⟩ := hL; obtain ⟨_, rfl⟩ := hM; exact (.cons 2 rfl .nil)) hj2) ?_
   ·intro R0 R1 s2 z2 s' p h σ M O hM H
    obtain ⟨w4, rfl⟩ := hM
    unfold canon_core.b0 at h
    refine Runs.env [(17, (vi z2)), (1, (.ptr (b1 + 0) 4 0)), (2, (.ptr (b1 + 1) 4 0)), (3, (.ptr (b2 + 1) 4 0)), (16, (.clo 118 [] [(.ptr id1 1 0)]))] ⟨rfl, rfl, rfl, rfl, rfl, trivial⟩ fun e => ?_
    refine Runs.regionH 1 rfl H ?_; intro b6 σ H
    refine Ops.assign (v := (vi z2)) rfl rfl ?_
    apply Ops.nil
    replace H := H.all
    refine ⟨rfl, [.sl w4 41 1 (s2.1.map (cL Span.cs)) true, .blk id1 3 [(vi f.Count)], .blk (b2 + 1) 25 [(vi s2.2.1), (vi s2.2.2), w4, .nils], .blk (b1 + 1) 25 [(vi 0), (vi 0), .nils, .nils], .blk (b1 + 0) 25 [(vi f.Period), (vi f.Count), (vl (cL Span.cs) f.Core), (vl Granule.cs f.Odd)]], H, ?_⟩; intro σ H
    apply Runs.inBlock
    apply Runs.then
    refine Runs.drawnH 14 rfl (by kernel_rfl) H ?_; intro b7 σ H B7
    refine Ops.fieldAddrH (off := 0) (fo := 0) H 5 rfl rfl rfl rfl rfl (fun _ => .inl ⟨B7 5 _ rfl _ rfl, nofun⟩) rfl ?_
    refine Ops.loadH (off := 0) (v := (vi f.Period)) H 5 rfl rfl rfl rfl rfl (fun _ => .inl ⟨B7 5 _ rfl _ rfl, nofun⟩) rfl ?_
    refine Ops.fieldAddrH (off := 0) (fo := 1) H 5 rfl rfl rfl rfl rfl (fun _ => .inl ⟨B7 5 _ rfl _ rfl, nofun⟩) rfl ?_
    refine Ops.loadH (off := 1) (v := (vi f.Count)) H 5 rfl rfl rfl rfl rfl (fun _ => .inl ⟨B7 5 _ rfl _ rfl, nofun⟩) rfl ?_
    refine Ops.move (v := (vi z2)) rfl rfl ?_
    obtain ⟨u1, q2, h⟩ := bind_some h
    refine Ops.quo (m := f.Count) (m' := z2) rfl rfl (nz_ne q2) rfl ?_
    obtain ⟨x2, q3, h⟩ := bind_some h
    refine Ops.call (ys := [(vi f.Period), (vi (w64 (f.Count.tdiv z2)))]) (r := (.tup [(vi x2.1), (vi x2.2.1), (vi x2.2.2)])) rfl (safe_Floor_fn q3) rfl ?_
    refine Ops.move (v := (.tup [(vi x2.1), (vi x2.2.1), (vi x2.2.2)])) rfl rfl ?_
    refine Ops.extract (v := (vi x2.1)) rfl rfl rfl ?_
    refine Ops.extract (v := (vi x2.2.1)) rfl rfl rfl ?_
    refine Ops.extract (v := (vi x2.2.2)) rfl rfl rfl ?_
    refine Ops.assign (v := (vi x2.1)) rfl rfl ?_
    refine Ops.assign (v := (vi x2.2.1)) rfl rfl ?_
    refine Ops.assign (v := (vi x2.2.2)) rfl rfl ?_
    apply Ops.nil
    replace H := H.all
    apply Runs.then
    apply Runs.then
    refine Runs.regionH 9 rfl H ?_; intro b8 σ H
    refine Ops.move (v := (vi x2.2.1)) rfl rfl ?_
    refine Ops.int (m := x2.2.1) (m' := 0) (r := .bool (x2.2.1 != 0)) rfl rfl rfl rfl rfl ?_
    refine Ops.move (v := (vb (x2.2.1 != 0))) rfl rfl ?_
    obtain ⟨y3, hj3, h⟩ := bind_some h
    refine Ops.mid 6 (K1 := fun e σ => EnvHas e [(37, (vb y3)), (1, (.ptr (b1 + 0) 4 0)), (2, (.ptr (b1 + 1) 4 0)), (3, (.ptr (b2 + 1) 4 0)), (4, (vi z2)), (5, (vi x2.1))] ∧ Has σ (b8 + 9) (b8 + 9) (R1 :: .sl w4 41 1 (s2.1.map (cL Span.cs)) true :: .blk id1 3 [(vi f.Count)] :: .blk (b2 + 1) 25 [(vi s2.2.1), (vi s2.2.2), w4, .nils] :: .blk (b1 + 1) 25 [(vi 0), (vi 0), .nils, .nils] :: .blk (b1 + 0) 25 [(vi f.Period), (vi f.Count), (vl (cL Span.cs) f.Core), (vl Granule.cs f.Odd)] :: O)) rfl ?_ ?_
    ·refine Ops.split rfl rfl ?_ ?_ <;> intro hc2
     ·replace h := cond_T hc2 hj3
      refine Ops.pass rfl rfl rfl ?_
      refine Ops.pass rfl rfl rfl ?_
      refine Ops.pass rfl rfl rfl ?_
      refine Ops.pass rfl rfl rfl ?_
      refine Ops.pass rfl rfl rfl ?_
      refine Ops.pickT (v := (vb true)) rfl rfl rfl ?_
      apply Ops.nil
      replace h := Option.some.inj h; subst h
      exact ⟨⟨rfl, rfl, rfl, rfl, rfl, rfl, trivial⟩, H.weak (by omega) (Nat.le_refl _)⟩
     ·replace h := cond_F hc2 hj3
      refine Ops.wanted rfl rfl ?_
      refine Ops.loadHA (off := 0) (cs := [(vi f.Period), (vi f.Count), (vl (cL Span.cs) f.Core), (vl Granule.cs f.Odd)]) H 5 rfl rfl rfl rfl rfl rfl rfl nofun rfl ?_
      refine Ops.wanted rfl rfl ?_
      refine Ops.move (v := (vi z2)) rfl rfl ?_
      refine Ops.wanted rfl rfl ?_
      refine Ops.move (v := (vi x2.1)) rfl rfl ?_
      refine Ops.wanted rfl rfl ?_
      obtain ⟨x3, q4, h⟩ := bind_some h
      refine Ops.call (ys := [(.agg [(vi f.Period), (vi f.Count), (vl (cL Span.cs) f.Core), (vl Granule.cs f.Odd)]), (vi z2), (vi x2.1)]) (r := (vb x3)) rfl (canon_turn_fn q4) rfl ?_
      refine Ops.wanted rfl rfl ?_
      refine Ops.not (b := x3) rfl rfl ?_
      refine Ops.pickF (v := (vb (!x3))) rfl rfl rfl ?_
      apply Ops.nil
      replace h := Option.some.inj h; subst h
      exact ⟨⟨rfl, rfl, rfl, rfl, rfl, rfl, trivial⟩, H.weak (by omega) (Nat.le_refl _)⟩
    ·rintro e σ ⟨he, H⟩
     obtain ⟨e, rfl⟩ := he.ex
     apply Ops.nil
     replace H := H.all
     refine Runs.whether (v := y3) rfl ?_ ?_ <;> intro hc3
     ·replace h := cond_T hc3 h
      apply Runs.exit
      obtain ⟨rfl, rfl⟩ := Prod.mk.inj (Option.some.inj h)
      exact ⟨⟨rfl, (iff_of_true rfl rfl)⟩, _, ⟨w4, rfl⟩, H⟩
     ·replace h := cond_F hc3 h
      apply Runs.skip
      apply Runs.then
      refine Runs.regionH 6 rfl H ?_; intro b9 σ H
      refine Ops.move (v := (vi x2.1)) rfl rfl ?_
      refine Ops.move (v := (vi z2)) rfl rfl ?_
      refine Ops.fieldAddrH (off := 0) (fo := 0) H 3 rfl rfl rfl rfl rfl nofun rfl ?_
      refine Ops.storeH (off := 0) (v := (vi x2.1)) (ys := [(vi x2.1)]) (cells' := [(vi x2.1), (vi s2.2.2), w4, .nils]) H 3 rfl rfl rfl rfl rfl rfl rfl rfl rfl nofun ?_; intro σ H
      refine Ops.fieldAddrH (off := 0) (fo := 1) H 3 rfl rfl rfl rfl rfl nofun rfl ?_
      refine Ops.storeH (off := 1) (v := (vi z2)) (ys := [(vi z2)]) (cells' := [(vi x2.1), (vi z2), w4, .nils]) H 3 rfl rfl rfl rfl rfl rfl rfl rfl rfl nofun ?_; intro σ H
      apply Ops.nil
      replace H := H.all
      apply Runs.then
      apply Runs.then
      refine Runs.regionH 6 rfl H ?_; intro b10 σ H
      refine Ops.fieldAddrH (off := 0) (fo := 2) H 5 rfl rfl rfl rfl rfl nofun rfl ?_
      refine Ops.loadH (off := 2) (v := (vl (cL Span.cs) f.Core)) H 5 rfl rfl rfl rfl rfl nofun rfl ?_
      refine Ops.move (v := (vi z2)) rfl rfl ?_
      obtain ⟨x4, q5, h⟩ := bind_some h
      refine Ops.sliceP01 (c := (cL Span.cs)) q5 rfl rfl rfl rfl (fun _ => rfl) rfl ?_
      refine Ops.lenPt (c := (cL Span.cs)) (xs := x4) rfl rfl rfl ?_
      refine Ops.move (v := (vi 0)) rfl rfl ?_
      apply Ops.nil
      replace H := H.all
      apply Runs.inBlock
      obtain ⟨y4, hj4, h⟩ := bind_some h
      obtain ⟨n1, hj4⟩ := loopO_iff.1 hj4
      refine Runs.mono (Runs.loopO hj4 (fun s3 e σ => ∃ (w7 : PV), EnvHas e [(2, (.ptr (b1 + 1) 4 0)), (3, (.ptr (b2 + 1) 4 0)), (45, (vl (cL Span.cs) x4)), (46, (vi (x4.length : Int))), (47, (vi s3.1))] ∧ Hs σ (R1 :: .sl w7 41 1 (s3.2.map (cL Span.cs)) true :: .blk id1 3 [(vi f.Count)] :: .blk (b2 + 1) 25 [(vi x2.1), (vi z2), w7, .nils] :: .blk (b1 + 1) 25 [(vi 0), (vi 0), .nils, .nils] :: .blk (b1 + 0) 25 [(vi f.Period), (vi f.Count), (vl (cL Span.cs) f.Core), (vl Granule.cs f.Odd)] :: O)) (fun y4 x e σ => ∃ (w8 : PV), x = .exit 2 ∧ EnvHas e [(2, (.ptr (b1 + 1) 4 0)), (3, (.ptr (b2 + 1) 4 0))] ∧ Hs σ (R1 :: .sl w8 41 1 (y4.map (cL Span.cs)) true :: .blk id1 3 [(vi f.Count)] :: .blk (b2 + 1) 25 [(vi x2.1), (vi z2), w8, .nils] :: .blk (b1 + 1) 25 [(vi 0), (vi 0), .nils, .nils] :: .blk (b1 + 0) 25 [(vi f.Period), (vi f.Count), (vl (cL Span.cs) f.Core), (vl Granule.cs f.Odd)] :: O)) ⟨w4, ⟨rfl, rfl, rfl, rfl, rfl, trivial⟩, H⟩ ?_) ?_
      ·intro s3 e σ hI z h
       obtain ⟨w7, he, H⟩ := hI
       obtain ⟨e, rfl⟩ := he.ex
       unfold canon_core.s1 at h
       apply Runs.then
       refine Runs.regionH 1 rfl H ?_; intro b11 σ H
       refine Ops.int (m := s3.1) (m' := (x4.length : Int)) (r := .bool (decide (s3.1 < (x4.length : Int)))) rfl rfl rfl rfl rfl ?_
       apply Ops.nil
       replace H := H.all
       apply Runs.then
       refine Runs.whether (v := (decide (s3.1 < (x4.length : Int)))) rfl ?_ ?_ <;> intro hc4
       ·replace h := cond_T hc4 h
        apply Runs.skip
        apply Runs.then
        apply Runs.inBlock
        apply Runs.then
        refine Runs.regionH 3 rfl H ?_; intro b12 σ H
        obtain ⟨x5, q6, h⟩ := bind_some h
        refine Ops.indexP (c := (cL Span.cs)) (u := x5) rfl rfl q6 rfl rfl rfl rfl ?_
        refine Ops.loadP (u := (.sl (x5.map Span.cs))) rfl rfl rfl rfl ?_
        refine Ops.assign (v := (vl Span.cs x5)) rfl rfl ?_
        apply Ops.nil
        replace H := H.all
        refine Runs.drawnH 8 rfl (by kernel_rfl) H ?_; intro b13 σ H B13
        refine Ops.fieldAddrH (off := 0) (fo := 2) H 3 rfl rfl rfl rfl rfl (fun _ => .inl ⟨B13 3 _ rfl _ rfl, nofun⟩) rfl ?_
        refine Ops.loadH (off := 2) (v := w7) H 3 rfl rfl rfl rfl rfl (fun _ => .inl ⟨B13 3 _ rfl _ rfl, nofun⟩) rfl ?_
        refine Ops.move (v := (vl Span.cs x5)) rfl rfl ?_
        obtain ⟨x6, q7, h⟩ := bind_some h
        refine Ops.call (ys := [(vl Span.cs x5)]) (r := (vl Span.cs x6)) rfl (slices_Clone_SSpan_Span_fn q7) rfl ?_
        refine Ops.buildS (sz := 1) ([x6].map (cL Span.cs)) H (by omega) (by omega) rfl rfl rfl rfl rfl rfl rfl rfl rfl ?_; intro σ H
        obtain ⟨x7, q8, h⟩ := bind_some h
        refine Ops.appendSt (c := (cL Span.cs)) (v := w7) (w := (.buf (b13 + 4) 1 1)) (xs := s3.2) (ys := [x6]) H (by omega) (by omega) 2 rfl rfl rfl (.s 0 rfl) q8 rfl rfl rfl rfl rfl (fun h => ⟨(fun id ho => .inl ⟨B13 1 _ rfl id ho, (fun _ => by kernel_rfl)⟩), (fun id ho => .inr ⟨4, (by cases ho; rfl), (fun h => nomatch h), by kernel_rfl, by decide⟩)⟩) rfl ?_; intro w9 σ H
        refine Ops.fieldAddrH (off := 0) (fo := 2) H 4 rfl rfl rfl rfl rfl (fun _ => .inl ⟨B13 3 _ rfl _ rfl, nofun⟩) rfl ?_
        refine Ops.storeH (off := 2) (v := w9) (ys := [w9]) (cells' := [(vi x2.1), (vi z2), w9, .nils]) H 4 rfl rfl rfl rfl (H.slCells (k := 2) rfl) rfl rfl rfl rfl (fun _ => .inl ⟨B13 3 _ rfl _ rfl, (fresh_static (by kernel_rfl))⟩) ?_; intro σ H
        apply Ops.nil
        replace H := H.all
        refine Runs.regionH 2 rfl H ?_; intro b14 σ H
        refine Ops.int (m := s3.1) (m' := 1) (r := .int .i64 (w64 (s3.1 + 1))) rfl rfl rfl rfl rfl ?_
        refine Ops.move (v := (vi (w64 (s3.1 + 1)))) rfl rfl ?_
        apply Ops.nil
        replace H := H.all
        replace h := Option.some.inj h; subst h
        exact ⟨rfl, w9, ⟨rfl, rfl, rfl, rfl, rfl, trivial⟩, (H.erase 0)⟩
       ·replace h := cond_F hc4 h
        apply Runs.exit
        replace h := Option.some.inj h; subst h
        exact ⟨nofun, ⟨w7, rfl, ⟨rfl, rfl, trivial⟩, H⟩⟩
      ·rintro x e σ ⟨w10, rfl, he, H⟩
       obtain ⟨e, rfl⟩ := he.ex
       apply Runs.exit
       obtain ⟨rfl, rfl⟩ := Prod.mk.inj (Option.some.inj h)
       exact ⟨⟨rfl, (iff_of_false nofun nofun)⟩, _, ⟨w10, rfl⟩, H⟩
   ·intro x σ M hx hM H
    obtain ⟨w11, rfl⟩ := hM
    cases hc0_ : (y2.2 == 0)
    ·replace h := cond_F hc0_ h
     have hx : x = .exit 0 := by simpa [ne_of_beq_false hc0_, jumpD] using hx.symm
     subst hx
     replace h := Option.some.inj h; subst h
     exact ⟨w11, rfl, ⟨rfl, rfl, trivial⟩, ((H.erase 4).erase 1)⟩
    ·replace h := cond_T hc0_ h
     have hx : x = .normal := by rw [eq_of_beq hc0_] at hx; exact (Option.some.inj hx).symm
     subst hx
     replace h := Option.some.inj h; subst h
     exact ⟨w11, rfl, ⟨rfl, rfl, trivial⟩, ((H.erase 4).erase 1)⟩
  ·rintro x e σ ⟨w12, rfl, he, H⟩
   obtain ⟨e, rfl⟩ := he.ex
   apply Runs.then
   refine Runs.regionH 2 rfl H ?_; intro b15 σ H
   refine Ops.loadHA (off := 0) (cs := [(vi y1.2.1), (vi y1.2.2), w12, .nils]) H 1 rfl rfl rfl rfl rfl rfl rfl nofun rfl ?_
   refine Ops.storeH (off := 0) (v := (.agg [(vi y1.2.1), (vi y1.2.2), w12, .nils])) (ys := [(vi y1.2.1), (vi y1.2.2), w12, .nils]) (cells' := [(vi y1.2.1), (vi y1.2.2), w12, .nils]) H 2 rfl rfl rfl rfl rfl rfl rfl rfl rfl nofun ?_; intro σ H
   apply Ops.nil
   replace H := H.all
   apply Runs.ret
   replace h := Option.some.inj h; subst h
   exact (Ends.H (xs := [(.agg [(vi y1.2.1), (vi y1.2.2), w12, .nils])]) (.inr rfl) H (.agg (cs := [(vi y1.2.1), (vi y1.2.2), w12, .nils]) (off := 0) 2 rfl rfl rfl rfl rfl rfl rfl .nil) (.one (.a (.cons (.v _) (.cons (.v _) (.cons (.s 0 rfl) (.cons .n .nil)))))))

set_option maxRecDepth 100000 in
set_option maxHeartbeats 4000000 in
theorem slices_Equal_SSpan_Span_fn {s1' : (List Span)} {s2' : (List Span)} {r : Bool} (h : slices_Equal_SSpan_Span s1' s2' = some r) : Fn CX 120 [(vl Span.cs s1'), (vl Span.cs s2')] (vb r) := by
 refine Fn.ends Try.func120 rfl rfl rfl rfl rfl rfl ?_
 have H : Hs (⟨0, fun _ => .none⟩ : Heap) [] := Has.nil (Nat.le_refl _)
 generalize (⟨0, fun _ => .none⟩ : Heap) = σ at H ⊢
 unfold slices_Equal_SSpan_Span at h
 apply Runs.then
 refine Runs.regionH 1 rfl H ?_; intro b1 σ H
 refine Ops.assign (v := (vb false)) rfl rfl ?_
 apply Ops.nil
 replace H := H.all
 apply Runs.then
 apply Runs.then
 refine Runs.regionH 5 rfl H ?_; intro b2 σ H
 refine Ops.move (v := (vl Span.cs s1')) rfl rfl ?_
 refine Ops.lenPt (c := Span.cs) (xs := s1') rfl rfl rfl ?_
 refine Ops.move (v := (vl Span.cs s2')) rfl rfl ?_
 refine Ops.lenPt (c := Span.cs) (xs := s2') rfl rfl rfl ?_
 refine Ops.int (m := (s1'.length : Int)) (m' := (s2'.length : Int)) (r := .bool ((s1'.length : Int) != (s2'.length : Int))) rfl rfl rfl rfl rfl ?_
 apply Ops.nil
 replace H := H.all
 refine Runs.whether (v := ((s1'.length : Int) != (s2'.length : Int))) rfl ?_ ?_ <;> intro hc1
 ·replace h := cond_T hc1 h
  apply Runs.then
  refine Runs.regionH 1 rfl H ?_; intro b3 σ H
  refine Ops.assign (v := (vb false)) rfl rfl ?_
  apply Ops.nil
  replace H := H.all
  apply Runs.ret
  replace h := Option.some.inj h; subst h
  exact (Ends.H (xs := [(vb false)]) (.inr rfl) H (.tmp (v := (vb false)) rfl .nil) (.one (.c (.v _))))
 ·replace h := cond_F hc1 h
  apply Runs.skip
  apply Runs.then
  apply Runs.then
  refine Runs.regionH 3 rfl H ?_; intro b4 σ H
  refine Ops.move (v := (vl Span.cs s1')) rfl rfl ?_
  refine Ops.lenPt (c := Span.cs) (xs := s1') rfl rfl rfl ?_
  refine Ops.move (v := (vi 0)) rfl rfl ?_
  apply Ops.nil
  replace H := H.all
  apply Runs.inBlock
  obtain ⟨y1, hj1, h⟩ := bind_some h
  obtain ⟨n1, hj1⟩ := loopO_iff.1 hj1
  refine Runs.mono (Runs.loopO hj1 (fun s1 e σ => EnvHas e [(0, (vl Span.cs s1')), (1, (vl Span.cs s2')), (12, (vi (s1'.length : Int))), (13, (vi s1))] ∧ Hs σ []) (fun y1 x e σ => (∃ a1, y1 = (.go a1) ∧ x = .exit 0 ∧ EnvHas e [] ∧ Hs σ []) ∨ (∃ r', y1 = (.ret r') ∧ x = .ret ∧ Ends CX Try.f120.results.toList (vb r') x e σ)) ⟨⟨rfl, rfl, rfl, rfl, trivial⟩, H⟩ ?_) ?_
  ·intro s1 e σ hI z h
   obtain ⟨he, H⟩ := hI
   obtain ⟨e, rfl⟩ := he.ex
   unfold slices_Equal_SSpan_Span.s0 at h
   apply Runs.then
   refine Runs.regionH 1 rfl H ?_; intro b5 σ H
   refine Ops.int (m := s1) (m' := (s1'.length : Int)) (r := .bool (decide (s1 < (s1'.length : Int)))) rfl rfl rfl rfl rfl ?_
   apply Ops.nil
   replace H := H.all
   apply Runs.then
   refine Runs.whether (v := (decide (s1 < (s1'.length : Int)))) rfl ?_ ?_ <;> intro hc2
   ·replace h := cond_T hc2 h
    apply Runs.skip
    apply Runs.then
    apply Runs.inBlock
    apply Runs.then
    refine Runs.regionH 2 rfl H ?_; intro b6 σ H
    refine Ops.move (v := (vi s1)) rfl rfl ?_
    refine Ops.assign (v := (vi s1)) rfl rfl ?_
    apply Ops.nil
    replace H := H.all
    apply Runs.then
    refine Runs.drawnH 9 rfl (by kernel_rfl) H ?_; intro b7 σ H B7
    refine Ops.move (v := (vl Span.cs s1')) rfl rfl ?_
    refine Ops.move (v := (vi s1)) rfl rfl ?_
    obtain ⟨x1, q1, h⟩ := bind_some h
    refine Ops.indexP (c := Span.cs) (u := x1) rfl rfl q1 rfl rfl rfl rfl ?_
    refine Ops.loadPA (cs := [(.int .i64 x1.From), (.int .i64 x1.To)]) rfl rfl rfl rfl rfl rfl ?_
    refine Ops.move (v := (vl Span.cs s2')) rfl rfl ?_
    refine Ops.move (v := (vi s1)) rfl rfl ?_
    obtain ⟨x2, q2, h⟩ := bind_some h
    refine Ops.indexP (c := Span.cs) (u := x2) rfl rfl q2 rfl rfl rfl rfl ?_
    refine Ops.loadPA (cs := [(.int .i64 x2.From), (.int .i64 x2.To)]) rfl rfl rfl rfl rfl rfl ?_
    refine Ops.binA (u := (.agg [(vi x1.From), (vi x1.To)])) (w := (.agg [(vi x2.From), (vi x2.To)])) (r := .bool (!((x1.From == x2.From) && ((x1.To == x2.To) && true)))) rfl rfl (by kernel_rfl) (fun _ => ask_eqA rfl rfl rfl rfl) rfl ?_
    apply Ops.nil
    replace H := H.all
    refine Runs.whether (v := (!((x1.From == x2.From) && ((x1.To == x2.To) && true)))) rfl ?_ ?_ <;> intro hc3
    ·replace h := cond_T hc3 h
     apply Runs.then
     refine Runs.regionH 1 rfl H ?_; intro b8 σ H
     refine Ops.assign (v := (vb false)) rfl rfl ?_
     apply Ops.nil
     replace H := H.all
     apply Runs.ret
     replace h := Option.some.inj h; subst h
     exact ⟨nofun, (.inr ⟨_, rfl, rfl, (Ends.H (xs := [(vb false)]) (.inr rfl) H (.tmp (v := (vb false)) rfl .nil) (.one (.c (.v _))))⟩)⟩
    ·replace h := cond_F hc3 h
     apply Runs.skip
     refine Runs.regionH 2 rfl H ?_; intro b9 σ H
     refine Ops.int (m := s1) (m' := 1) (r := .int .i64 (w64 (s1 + 1))) rfl rfl rfl rfl rfl ?_
     refine Ops.move (v := (vi (w64 (s1 + 1)))) rfl rfl ?_
     apply Ops.nil
     replace H := H.all
     replace h := Option.some.inj h; subst h
     exact ⟨rfl, ⟨rfl, rfl, rfl, rfl, trivial⟩, H⟩
   ·replace h := cond_F hc2 h
    apply Runs.exit
    replace h := Option.some.inj h; subst h
    exact ⟨nofun, (.inl ⟨_, rfl, rfl, trivial, H⟩)⟩
  ·rintro x e σ (⟨a2, rfl, rfl, he, H⟩ | ⟨r', rfl, rfl, hE⟩)
   ·skip
    replace h := jgo h
    obtain ⟨e, rfl⟩ := he.ex
    apply Runs.then
    refine Runs.regionH 1 rfl H ?_; intro b10 σ H
    refine Ops.assign (v := (vb true)) rfl rfl ?_
    apply Ops.nil
    replace H := H.all
    apply Runs.ret
    replace h := Option.some.inj h; subst h
    exact (Ends.H (xs := [(vb true)]) (.inr rfl) H (.tmp (v := (vb true)) rfl .nil) (.one (.c (.v _))))
   ·skip
    replace h := jret h
    replace h := Option.some.inj h; subst h
    exact hE

set_option maxRecDepth 100000 in
set_option maxHeartbeats 4000000 in
theorem spans_Same_fn {a : (List Span)} {b : (List Span)} {r : Bool} (h : spans_Same a b = some r) : Fn CX 94 [(vl Span.cs a), (vl Span.cs b)] (vb r) := by
 refine Fn.ends Try.func94 rfl rfl rfl rfl rfl rfl ?_
 have H : Hs (⟨0, fun _ => .none⟩ : Heap) [] := Has.nil (Nat.le_refl _)
 generalize (⟨0, fun _ => .none⟩ : Heap) = σ at H ⊢
 unfold spans_Same at h
 apply Runs.then
 refine Runs.regionH 1 rfl H ?_; intro b1 σ H
 refine Ops.assign (v := (vb false)) rfl rfl ?_
 apply Ops.nil
 replace H := H.all
 apply Runs.then
 refine Runs.regionH 4 rfl H ?_; intro b2 σ H
 refine Ops.move (v := (vl Span.cs a)) rfl rfl ?_
 refine Ops.move (v := (vl Span.cs b)) rfl rfl ?_
 obtain ⟨x1, q1, h⟩ := bind_some h
 refine Ops.call (ys := [(vl Span.cs a), (vl Span.cs b)]) (r := (vb x1)) rfl (slices_Equal_SSpan_Span_fn q1) rfl ?_
 refine Ops.assign (v := (vb x1)) rfl rfl ?_
 apply Ops.nil
 replace H := H.all
 apply Runs.ret
 replace h := Option.some.inj h; subst h
 exact (Ends.H (xs := [(vb x1)]) (.inr rfl) H (.tmp (v := (vb x1)) rfl .nil) (.one (.c (.v _))))

set_option maxRecDepth 100000 in
set_option maxHeartbeats 4000000 in
theorem canon_plain_fn {f : Form} {g : Granule} {r : Bool} (h : canon_plain f g = some r) : Fn CX 66 [(.agg (vs (Form.cs f))), (.agg (vs (Granule.cs g)))] (vb r) := by
 refine Fn.ends Try.func66 rfl rfl rfl rfl rfl rfl ?_
 have H : Hs (⟨0, fun _ => .none⟩ : Heap) [] := Has.nil (Nat.le_refl _)
 generalize (⟨0, fun _ => .none⟩ : Heap) = σ at H ⊢
 unfold canon_plain at h
 apply Runs.then
 refine Runs.regionH 3 rfl H ?_; intro b1 σ H
 refine Ops.boxH (v := (.agg [(vi f.Period), (vi f.Count), (vl (cL Span.cs) f.Core), (vl Granule.cs f.Odd)])) (cs := [(vi f.Period), (vi f.Count), (vl (cL Span.cs) f.Core), (vl Granule.cs f.Odd)]) H (by omega) (by omega) rfl rfl rfl ?_; intro σ H
 refine Ops.boxH (v := (.agg [(vi g.Index), (vl Span.cs g.Ticks)])) (cs := [(vi g.Index), (vl Span.cs g.Ticks)]) H (by omega) (by omega) rfl rfl rfl ?_; intro σ H
 refine Ops.assign (v := (vb false)) rfl rfl ?_
 apply Ops.nil
 replace H := H.all
 apply Runs.then
 refine Runs.regionH 9 rfl H ?_; intro b2 σ H
 refine Ops.loadHA (off := 0) (cs := [(vi f.Period), (vi f.Count), (vl (cL Span.cs) f.Core), (vl Granule.cs f.Odd)]) H 1 rfl rfl rfl rfl rfl rfl rfl nofun rfl ?_
 refine Ops.fieldAddrH (off := 0) (fo := 0) H 0 rfl rfl rfl rfl rfl nofun rfl ?_
 refine Ops.loadH (off := 0) (v := (vi g.Index)) H 0 rfl rfl rfl rfl rfl nofun rfl ?_
 obtain ⟨x1, q1, h⟩ := bind_some h
 refine Ops.call (ys := [(.agg [(vi f.Period), (vi f.Count), (vl (cL Span.cs) f.Core), (vl Granule.cs f.Odd)]), (vi g.Index)]) (r := (.tup [(vl Span.cs x1.1), (vi x1.2)])) rfl (gran_Get_fn q1) rfl ?_
 refine Ops.move (v := (.tup [(vl Span.cs x1.1), (vi x1.2)])) rfl rfl ?_
 refine Ops.extract (v := (vl Span.cs x1.1)) rfl rfl rfl ?_
 refine Ops.extract (v := (vi x1.2)) rfl rfl rfl ?_
 refine Ops.assign (v := (vl Span.cs x1.1)) rfl rfl ?_
 refine Ops.assign (v := (vi x1.2)) rfl rfl ?_
 apply Ops.nil
 replace H := H.all
 apply Runs.then
 refine Runs.regionH 9 rfl H ?_; intro b3 σ H
 refine Ops.move (v := (vi x1.2)) rfl rfl ?_
 refine Ops.int (m := x1.2) (m' := 0) (r := .bool (x1.2 == 0)) rfl rfl rfl rfl rfl ?_
 refine Ops.move (v := (vb (x1.2 == 0))) rfl rfl ?_
 obtain ⟨y1, hj1, h⟩ := bind_some h
 refine Ops.mid 5 (K1 := fun e σ => EnvHas e [(21, (vb y1))] ∧ Has σ (b3 + 8) (b3 + 9) []) rfl ?_ ?_
 ·refine Ops.split rfl rfl ?_ ?_ <;> intro hc1
  ·replace h := cond_T hc1 hj1
   refine Ops.wanted rfl rfl ?_
   refine Ops.move (v := (vl Span.cs x1.1)) rfl rfl ?_
   refine Ops.wanted rfl rfl ?_
   refine Ops.fieldAddrH (off := 0) (fo := 1) H 0 rfl rfl rfl rfl rfl nofun rfl ?_
   refine Ops.wanted rfl rfl ?_
   refine Ops.loadH (off := 1) (v := (vl Span.cs g.Ticks)) H 0 rfl rfl rfl rfl rfl nofun rfl ?_
   refine Ops.wanted rfl rfl ?_
   obtain ⟨x2, q2, h⟩ := bind_some h
   refine Ops.call (ys := [(vl Span.cs x1.1), (vl Span.cs g.Ticks)]) (r := (vb x2)) rfl (spans_Same_fn q2) rfl ?_
   refine Ops.pickT (v := (vb x2)) rfl rfl rfl ?_
   apply Ops.nil
   replace h := Option.some.inj h; subst h
   exact ⟨⟨rfl, trivial⟩, ((H.erase 1).erase 0).weak (by omega) (Nat.le_refl _)⟩
  ·replace h := cond_F hc1 hj1
   refine Ops.pass rfl rfl rfl ?_
   refine Ops.pass rfl rfl rfl ?_
   refine Ops.pass rfl rfl rfl ?_
   refine Ops.pass rfl rfl rfl ?_
   refine Ops.pickF (v := (vb false)) rfl rfl rfl ?_
   apply Ops.nil
   replace h := Option.some.inj h; subst h
   exact ⟨⟨rfl, trivial⟩, ((H.erase 1).erase 0).weak (by omega) (Nat.le_refl _)⟩
 ·rintro e σ ⟨he, H⟩
  obtain ⟨e, rfl⟩ := he.ex
  refine Ops.assign (v := (vb y1)) rfl rfl ?_
  apply Ops.nil
  replace H := H.all
  apply Runs.ret
  replace h := Option.some.inj h; subst h
  exact (Ends.H (xs := [(vb y1)]) (.inr rfl) H (.tmp (v := (vb y1)) rfl .nil) (.one (.c (.v _))))

set_option maxRecDepth 100000 in
set_option maxHeartbeats 4000000 in
theorem canon_Form_fn {f : Form} {r : Form} (h : canon_Form f = some r) : Fn CX 38 [(.agg (vs (Form.cs f)))] (.agg (vs (Form.cs r))) := by
 refine Fn.ends Try.func38 rfl rfl rfl rfl rfl rfl ?_
 have H : Hs (⟨0, fun _ => .none⟩ : Heap) [] := Has.nil (Nat.le_refl _)
 generalize (⟨0, fun _ => .none⟩ : Heap) = σ at H ⊢
 unfold canon_Form at h
 apply Runs.then
 refine Runs.regionH 2 rfl H ?_; intro b1 σ H
 refine Ops.boxH (v := (.agg [(vi f.Period), (vi f.Count), (vl (cL Span.cs) f.Core), (vl Granule.cs f.Odd)])) (cs := [(vi f.Period), (vi f.Count), (vl (cL Span.cs) f.Core), (vl Granule.cs f.Odd)]) H (by omega) (by omega) rfl rfl rfl ?_; intro σ H
 refine Ops.allocH (cs := [(vi 0), (vi 0), .nils, .nils]) H (by omega) (by omega) rfl rfl ?_; intro σ H
 apply Ops.nil
 replace H := H.all
 apply Runs.then
 refine Runs.regionH 4 rfl H ?_; intro b2 σ H
 refine Ops.loadHA (off := 0) (cs := [(vi f.Period), (vi f.Count), (vl (cL Span.cs) f.Core), (vl Granule.cs f.Odd)]) H 1 rfl rfl rfl rfl rfl rfl rfl nofun rfl ?_
 obtain ⟨x1, q1, h⟩ := bind_some h
 refine Ops.call (ys := [(.agg [(vi f.Period), (vi f.Count), (vl (cL Span.cs) f.Core), (vl Granule.cs f.Odd)])]) (r := (.agg [(vi x1.Period), (vi x1.Count), (vl (cL Span.cs) x1.Core), (vl Granule.cs x1.Odd)])) rfl (canon_core_fn q1) rfl ?_
 refine Ops.allocH (cs := [(vi 0), (vi 0), .nils, .nils]) H (by omega) (by omega) rfl rfl ?_; intro σ H
 refine Ops.storeH (off := 0) (v := (.agg [(vi x1.Period), (vi x1.Count), (vl (cL Span.cs) x1.Core), (vl Granule.cs x1.Odd)])) (ys := [(vi x1.Period), (vi x1.Count), (vl (cL Span.cs) x1.Core), (vl Granule.cs x1.Odd)]) (cells' := [(vi x1.Period), (vi x1.Count), (vl (cL Span.cs) x1.Core), (vl Granule.cs x1.Odd)]) H 0 rfl rfl rfl rfl rfl rfl rfl rfl rfl nofun ?_; intro σ H
 apply Ops.nil
 replace H := H.all
 apply Runs.then
 refine Runs.regionH 1 rfl H ?_; intro b3 σ H
 refine Ops.assign (v := .nils) rfl rfl ?_
 apply Ops.nil
 replace H := H.all
 apply Runs.then
 apply Runs.then
 refine Runs.regionH 4 rfl H ?_; intro b4 σ H
 refine Ops.fieldAddrH (off := 0) (fo := 3) H 2 rfl rfl rfl rfl rfl nofun rfl ?_
 refine Ops.loadH (off := 3) (v := (vl Granule.cs f.Odd)) H 2 rfl rfl rfl rfl rfl nofun rfl ?_
 refine Ops.lenPt (c := Granule.cs) (xs := f.Odd) rfl rfl rfl ?_
 refine Ops.move (v := (vi 0)) rfl rfl ?_
 apply Ops.nil
 replace H := H.all
 apply Runs.inBlock
 replace H := H.pushNil 76 2 true
 obtain ⟨y1, hj1, h⟩ := bind_some h
 obtain ⟨n1, hj1⟩ := loopO_iff.1 hj1
 refine Runs.mono (Runs.loopO hj1 (fun s2 e σ => ∃ (w3 : PV), EnvHas e [(2, (.ptr (b1 + 1) 4 0)), (3, (.ptr (b2 + 2) 4 0)), (4, w3), (10, (vl Granule.cs f.Odd)), (11, (vi (f.Odd.length : Int))), (12, (vi s2.1))] ∧ Hs σ [.sl w3 76 2 (s2.2.map Granule.cs) true, .blk (b2 + 2) 25 [(vi x1.Period), (vi x1.Count), (vl (cL Span.cs) x1.Core), (vl Granule.cs x1.Odd)], .blk (b1 + 1) 25 [(vi 0), (vi 0), .nils, .nils]]) (fun y1 x e σ => ∃ (w4 : PV), x = .exit 0 ∧ EnvHas e [(2, (.ptr (b1 + 1) 4 0)), (3, (.ptr (b2 + 2) 4 0)), (4, w4)] ∧ Hs σ [.sl w4 76 2 (y1.map Granule.cs) true, .blk (b2 + 2) 25 [(vi x1.Period), (vi x1.Count), (vl (cL Span.cs) x1.Core), (vl Granule.cs x1.Odd)], .blk (b1 + 1) 25 [(vi 0), (vi 0), .nils, .nils]]) ⟨.nils, ⟨rfl, rfl, rfl, rfl, rfl, rfl, trivial⟩, (H.erase 3)⟩ ?_) ?_
 ·intro s2 e σ hI z h
  obtain ⟨w3, he, H⟩ := hI
  obtain ⟨e, rfl⟩ := he.ex
  unfold canon_Form.s0 at h
  apply Runs.then
  refine Runs.regionH 1 rfl H ?_; intro b5 σ H
  refine Ops.int (m := s2.1) (m' := (f.Odd.length : Int)) (r := .bool (decide (s2.1 < (f.Odd.length : Int)))) rfl rfl rfl rfl rfl ?_
  apply Ops.nil
  replace H := H.all
  apply Runs.then
  refine Runs.whether (v := (decide (s2.1 < (f.Odd.length : Int)))) rfl ?_ ?_ <;> intro hc1
  ·replace h := cond_T hc1 h
   apply Runs.skip
   apply Runs.then
   obtain ⟨y2, hj2, h⟩ := bind_some h
   refine Runs.mono (Q := fun x e σ => ∃ (w5 : PV), x = .normal ∧ EnvHas e [(2, (.ptr (b1 + 1) 4 0)), (3, (.ptr (b2 + 2) 4 0)), (4, w5), (10, (vl Granule.cs f.Odd)), (11, (vi (f.Odd.length : Int))), (12, (vi s2.1))] ∧ Hs σ [.sl w5 76 2 (y2.map Granule.cs) true, .blk (b2 + 2) 25 [(vi x1.Period), (vi x1.Count), (vl (cL Span.cs) x1.Core), (vl Granule.cs x1.Odd)], .blk (b1 + 1) 25 [(vi 0), (vi 0), .nils, .nils]]) ?_ ?_
   ·replace h := hj2
    apply Runs.inBlock
    obtain ⟨y3, hj3, h⟩ := bind_some h
    refine Runs.mono (Q := fun x e σ => ∃ (w6 : PV), x = .normal ∧ EnvHas e [(2, (.ptr (b1 + 1) 4 0)), (3, (.ptr (b2 + 2) 4 0)), (4, w6), (10, (vl Granule.cs f.Odd)), (11, (vi (f.Odd.length : Int))), (12, (vi s2.1))] ∧ Hs σ [.sl w6 76 2 (y3.map Granule.cs) true, .blk (b2 + 2) 25 [(vi x1.Period), (vi x1.Count), (vl (cL Span.cs) x1.Core), (vl Granule.cs x1.Odd)], .blk (b1 + 1) 25 [(vi 0), (vi 0), .nils, .nils]]) ?_ ?_
    ·replace h := hj3
     apply Runs.then
     refine Runs.regionH 4 rfl H ?_; intro b6 σ H
     obtain ⟨x2, q2, h⟩ := bind_some h
     refine Ops.indexP (c := Granule.cs) (u := x2) rfl rfl q2 rfl rfl rfl rfl ?_
     refine Ops.loadPA (cs := [(.int .i64 x2.Index), (.sl (x2.Ticks.map Span.cs))]) rfl rfl rfl rfl rfl rfl ?_
     refine Ops.allocH (cs := [(vi 0), .nils]) H (by omega) (by omega) rfl rfl ?_; intro σ H
     refine Ops.storeH (off := 0) (v := (.agg [(vi x2.Index), (vl Span.cs x2.Ticks)])) (ys := [(vi x2.Index), (vl Span.cs x2.Ticks)]) (cells' := [(vi x2.Index), (vl Span.cs x2.Ticks)]) H 0 rfl rfl rfl rfl rfl rfl rfl rfl rfl nofun ?_; intro σ H
     apply Ops.nil
     replace H := H.all
     apply Runs.then
     refine Runs.regionH 4 rfl H ?_; intro b7 σ H
     refine Ops.loadHA (off := 0) (cs := [(vi x1.Period), (vi x1.Count), (vl (cL Span.cs) x1.Core), (vl Granule.cs x1.Odd)]) H 2 rfl rfl rfl rfl rfl rfl rfl nofun rfl ?_
     refine Ops.loadHA (off := 0) (cs := [(vi x2.Index), (vl Span.cs x2.Ticks)]) H 0 rfl rfl rfl rfl rfl rfl rfl nofun rfl ?_
     obtain ⟨x3, q3, h⟩ := bind_some h
     refine Ops.call (ys := [(.agg [(vi x1.Period), (vi x1.Count), (vl (cL Span.cs) x1.Core), (vl Granule.cs x1.Odd)]), (.agg [(vi x2.Index), (vl Span.cs x2.Ticks)])]) (r := (vb x3)) rfl (canon_plain_fn q3) rfl ?_
     refine Ops.not (b := x3) rfl rfl ?_
     apply Ops.nil
     replace H := H.all
     refine Runs.whether (v := (!x3)) rfl ?_ ?_ <;> intro hc2
     ·replace h := cond_T hc2 h
      refine Runs.drawnH 10 rfl (by kernel_rfl) H ?_; intro b8 σ H B8
      refine Ops.move (v := w3) rfl rfl ?_
      refine Ops.fieldAddrH (off := 0) (fo := 0) H 0 rfl rfl rfl rfl rfl (fun _ => .inl ⟨B8 0 _ rfl _ rfl, nofun⟩) rfl ?_
      refine Ops.loadH (off := 0) (v := (vi x2.Index)) H 0 rfl rfl rfl rfl rfl (fun _ => .inl ⟨B8 0 _ rfl _ rfl, nofun⟩) rfl ?_
      refine Ops.fieldAddrH (off := 0) (fo := 1) H 0 rfl rfl rfl rfl rfl (fun _ => .inl ⟨B8 0 _ rfl _ rfl, nofun⟩) rfl ?_
      refine Ops.loadH (off := 1) (v := (vl Span.cs x2.Ticks)) H 0 rfl rfl rfl rfl rfl (fun _ => .inl ⟨B8 0 _ rfl _ rfl, nofun⟩) rfl ?_
      obtain ⟨x4, q4, h⟩ := bind_some h
      refine Ops.call (ys := [(vl Span.cs x2.Ticks)]) (r := (vl Span.cs x4)) rfl (slices_Clone_SSpan_Span_fn q4) rfl ?_
      refine Ops.buildA (cs := [(vi x2.Index), (vl Span.cs x4)]) rfl rfl ?_
      refine Ops.buildS (sz := 2) ([(Granule.mk x2.Index x4)].map Granule.cs) H (by omega) (by omega) rfl rfl rfl rfl rfl rfl rfl rfl rfl ?_; intro σ H
      obtain ⟨x5, q5, h⟩ := bind_some h
      refine Ops.appendSt (c := Granule.cs) (v := w3) (w := (.buf (b8 + 7) 1 2)) (xs := s2.2) (ys := [(Granule.mk x2.Index x4)]) H (by omega) (by omega) 2 rfl rfl rfl (.s 0 rfl) q5 rfl rfl rfl rfl rfl (fun h => ⟨(fun id ho => .inl ⟨B8 1 _ rfl id ho, (fun _ => by kernel_rfl)⟩), (fun id ho => .inr ⟨7, (by cases ho; rfl), (fun h => nomatch h), by kernel_rfl, by decide⟩)⟩) rfl ?_; intro w7 σ H
      refine Ops.assign (v := w7) rfl rfl ?_
      apply Ops.nil
      replace H := H.all
      replace h := Option.some.inj h; subst h
      exact ⟨w7, rfl, ⟨rfl, rfl, rfl, rfl, rfl, rfl, trivial⟩, ((H.erase 1).erase 0)⟩
     ·replace h := cond_F hc2 h
      apply Runs.skip
      replace h := Option.some.inj h; subst h
      exact ⟨w3, rfl, ⟨rfl, rfl, rfl, rfl, rfl, rfl, trivial⟩, (H.erase 0)⟩
    ·rintro x e σ ⟨w8, rfl, he, H⟩
     obtain ⟨e, rfl⟩ := he.ex
     replace h := Option.some.inj h; subst h
     exact ⟨w8, rfl, ⟨rfl, rfl, rfl, rfl, rfl, rfl, trivial⟩, H⟩
   ·rintro x e σ ⟨w9, rfl, he, H⟩
    obtain ⟨e, rfl⟩ := he.ex
    refine Runs.regionH 2 rfl H ?_; intro b9 σ H
    refine Ops.int (m := s2.1) (m' := 1) (r := .int .i64 (w64 (s2.1 + 1))) rfl rfl rfl rfl rfl ?_
    refine Ops.move (v := (vi (w64 (s2.1 + 1)))) rfl rfl ?_
    apply Ops.nil
    replace H := H.all
    replace h := Option.some.inj h; subst h
    exact ⟨rfl, w9, ⟨rfl, rfl, rfl, rfl, rfl, rfl, trivial⟩, H⟩
  ·replace h := cond_F hc1 h
   apply Runs.exit
   replace h := Option.some.inj h; subst h
   exact ⟨nofun, ⟨w3, rfl, ⟨rfl, rfl, rfl, trivial⟩, H⟩⟩
 ·rintro x e σ ⟨w10, rfl, he, H⟩
  obtain ⟨e, rfl⟩ := he.ex
  apply Runs.then
  refine Runs.regionH 3 rfl H ?_; intro b10 σ H
  refine Ops.move (v := w10) rfl rfl ?_
  refine Ops.fieldAddrH (off := 0) (fo := 3) H 1 rfl rfl rfl rfl rfl nofun rfl ?_
  refine Ops.storeH (off := 3) (v := w10) (ys := [w10]) (cells' := [(vi x1.Period), (vi x1.Count), (vl (cL Span.cs) x1.Core), w10]) H 1 rfl rfl rfl rfl (H.slCells (k := 0) rfl) rfl rfl rfl rfl nofun ?_; intro σ H
  apply Ops.nil
  replace H := H.all
  apply Runs.then
  refine Runs.regionH 2 rfl H ?_; intro b11 σ H
  refine Ops.loadHA (off := 0) (cs := [(vi x1.Period), (vi x1.Count), (vl (cL Span.cs) x1.Core), w10]) H 1 rfl rfl rfl rfl rfl rfl rfl nofun rfl ?_
  refine Ops.storeH (off := 0) (v := (.agg [(vi x1.Period), (vi x1.Count), (vl (cL Span.cs) x1.Core), w10])) (ys := [(vi x1.Period), (vi x1.Count), (vl (cL Span.cs) x1.Core), w10]) (cells' := [(vi x1.Period), (vi x1.Count), (vl (cL Span.cs) x1.Core), w10]) H 2 rfl rfl rfl rfl rfl rfl rfl rfl rfl nofun ?_; intro σ H
  apply Ops.nil
  replace H := H.all
  apply Runs.ret
  replace h := Option.some.inj h; subst h
  exact (Ends.H (xs := [(.agg [(vi x1.Period), (vi x1.Count), (vl (cL Span.cs) x1.Core), w10])]) (.inr rfl) H (.agg (cs := [(vi x1.Period), (vi x1.Count), (vl (cL Span.cs) x1.Core), w10]) (off := 0) 2 rfl rfl rfl rfl rfl rfl rfl .nil) (.one (.a (.cons (.v _) (.cons (.v _) (.cons (.v _) (.cons (.s 0 rfl) .nil)))))))

set_option maxRecDepth 100000 in
set_option maxHeartbeats 4000000 in
theorem spans_Hull_fn {l : (List Span)} {r : Span × Bool} (h : spans_Hull l = some r) : Fn CX 40 [(vl Span.cs l)] (.tup [(.agg (vs (Span.cs r.1))), (vb r.2)]) := by
 refine Fn.ends Try.func40 rfl rfl rfl rfl rfl rfl ?_
 have H : Hs (⟨0, fun _ => .none⟩ : Heap) [] := Has.nil (Nat.le_refl _)
 generalize (⟨0, fun _ => .none⟩ : Heap) = σ at H ⊢
 unfold spans_Hull at h
 apply Runs.then
 refine Runs.regionH 2 rfl H ?_; intro b1 σ H
 refine Ops.allocH (cs := [(vi 0), (vi 0)]) H (by omega) (by omega) rfl rfl ?_; intro σ H
 refine Ops.assign (v := (vb false)) rfl rfl ?_
 apply Ops.nil
 replace H := H.all
 apply Runs.then
 apply Runs.then
 refine Runs.regionH 3 rfl H ?_; intro b2 σ H
 refine Ops.move (v := (vl Span.cs l)) rfl rfl ?_
 refine Ops.lenPt (c := Span.cs) (xs := l) rfl rfl rfl ?_
 refine Ops.int (m := (l.length : Int)) (m' := 0) (r := .bool ((l.length : Int) == 0)) rfl rfl rfl rfl rfl ?_
 apply Ops.nil
 replace H := H.all
 refine Runs.whether (v := ((l.length : Int) == 0)) rfl ?_ ?_ <;> intro hc1
 ·replace h := cond_T hc1 h
  apply Runs.then
  refine Runs.regionH 3 rfl H ?_; intro b3 σ H
  refine Ops.buildA (cs := [(vi 0), (vi 0)]) rfl rfl ?_
  refine Ops.storeH (off := 0) (v := (.agg [(vi 0), (vi 0)])) (ys := [(vi 0), (vi 0)]) (cells' := [(vi 0), (vi 0)]) H 0 rfl rfl rfl rfl rfl rfl rfl rfl rfl nofun ?_; intro σ H
  refine Ops.assign (v := (vb false)) rfl rfl ?_
  apply Ops.nil
  replace H := H.all
  apply Runs.ret
  replace h := Option.some.inj h; subst h
  exact (Ends.H (xs := [(.agg [(vi 0), (vi 0)]), (vb false)]) (.inr rfl) H (.agg (cs := [(vi 0), (vi 0)]) (off := 0) 0 rfl rfl rfl rfl rfl rfl rfl (.tmp (v := (vb false)) rfl .nil)) (.two (.cons (.p rfl) (.cons (.c (.v _)) .nil))))
 ·replace h := cond_F hc1 h
  apply Runs.skip
  apply Runs.then
  refine Runs.drawnH 14 rfl (by kernel_rfl) H ?_; intro b4 σ H B4
  refine Ops.move (v := (vl Span.cs l)) rfl rfl ?_
  obtain ⟨x1, q1, h⟩ := bind_some h
  refine Ops.indexP (c := Span.cs) (u := x1) rfl rfl q1 rfl rfl rfl rfl ?_
  refine Ops.fieldAddrP rfl rfl rfl rfl ?_
  refine Ops.loadP (u := (.int .i64 x1.From)) rfl rfl rfl rfl ?_
  refine Ops.move (v := (vl Span.cs l)) rfl rfl ?_
  refine Ops.move (v := (vl Span.cs l)) rfl rfl ?_
  refine Ops.lenPt (c := Span.cs) (xs := l) rfl rfl rfl ?_
  refine Ops.int (m := (l.length : Int)) (m' := 1) (r := .int .i64 (w64 ((l.length : Int) - 1))) rfl rfl rfl rfl rfl ?_
  obtain ⟨x2, q2, h⟩ := bind_some h
  refine Ops.indexP (c := Span.cs) (u := x2) rfl rfl q2 rfl rfl rfl rfl ?_
  refine Ops.fieldAddrP rfl rfl rfl rfl ?_
  refine Ops.loadP (u := (.int .i64 x2.To)) rfl rfl rfl rfl ?_
  refine Ops.buildA (cs := [(vi x1.From), (vi x2.To)]) rfl rfl ?_
  refine Ops.storeH (off := 0) (v := (.agg [(vi x1.From), (vi x2.To)])) (ys := [(vi x1.From), (vi x2.To)]) (cells' := [(vi x1.From), (vi x2.To)]) H 0 rfl rfl rfl rfl rfl rfl rfl rfl rfl (fun _ => .inl ⟨B4 0 _ rfl _ rfl, (fresh_static (by kernel_rfl))⟩) ?_; intro σ H
  refine Ops.assign (v := (vb true)) rfl rfl ?_
  apply Ops.nil
  replace H := H.all
  apply Runs.ret
  replace h := Option.some.inj h; subst h
  exact (Ends.H (xs := [(.agg [(vi x1.From), (vi x2.To)]), (vb true)]) (.inr rfl) H (.agg (cs := [(vi x1.From), (vi x2.To)]) (off := 0) 0 rfl rfl rfl rfl rfl rfl rfl (.tmp (v := (vb true)) rfl .nil)) (.two (.cons (.p rfl) (.cons (.c (.v _)) .nil))))

set_option maxRecDepth 100000 in
set_option maxHeartbeats 4000000 in
theorem size_made_fn {f : Form} {r : size_form} (h : size_made f = some r) : Fn CX 59 [(.agg (vs (Form.cs f)))] (.agg (vs (size_form.cs r))) := by
 refine Fn.ends Try.func59 rfl rfl rfl rfl rfl rfl ?_
 have H : Hs (⟨0, fun _ => .none⟩ : Heap) [] := Has.nil (Nat.le_refl _)
 generalize (⟨0, fun _ => .none⟩ : Heap) = σ at H ⊢
 unfold size_made at h
 apply Runs.then
 refine Runs.regionH 2 rfl H ?_; intro b1 σ H
 refine Ops.boxH (v := (.agg [(vi f.Period), (vi f.Count), (vl (cL Span.cs) f.Core), (vl Granule.cs f.Odd)])) (cs := [(vi f.Period), (vi f.Count), (vl (cL Span.cs) f.Core), (vl Granule.cs f.Odd)]) H (by omega) (by omega) rfl rfl rfl ?_; intro σ H
 refine Ops.allocH (cs := [(vi 0), (vi 0), .nils, .nils, .nils]) H (by omega) (by omega) rfl rfl ?_; intro σ H
 apply Ops.nil
 replace H := H.all
 apply Runs.then
 refine Runs.regionH 5 rfl H ?_; intro b2 σ H
 refine Ops.loadHA (off := 0) (cs := [(vi f.Period), (vi f.Count), (vl (cL Span.cs) f.Core), (vl Granule.cs f.Odd)]) H 1 rfl rfl rfl rfl rfl rfl rfl nofun rfl ?_
 obtain ⟨x1, q1, h⟩ := bind_some h
 refine Ops.call (ys := [(.agg [(vi f.Period), (vi f.Count), (vl (cL Span.cs) f.Core), (vl Granule.cs f.Odd)])]) (r := (.agg [(vi x1.Period), (vi x1.Count), (vl (cL Span.cs) x1.Core), (vl Granule.cs x1.Odd)])) rfl (canon_Form_fn q1) rfl ?_
 refine Ops.buildA (cs := [(vi x1.Period), (vi x1.Count), (vl (cL Span.cs) x1.Core), (vl Granule.cs x1.Odd), .nils]) rfl rfl ?_
 refine Ops.allocH (cs := [(vi 0), (vi 0), .nils, .nils, .nils]) H (by omega) (by omega) rfl rfl ?_; intro σ H
 refine Ops.storeH (off := 0) (v := (.agg [(vi x1.Period), (vi x1.Count), (vl (cL Span.cs) x1.Core), (vl Granule.cs x1.Odd), .nils])) (ys := [(vi x1.Period), (vi x1.Count), (vl (cL Span.cs) x1.Core), (vl Granule.cs x1.Odd), .nils]) (cells' := [(vi x1.Period), (vi x1.Count), (vl (cL Span.cs) x1.Core), (vl Granule.cs x1.Odd), .nils]) H 0 rfl rfl rfl rfl rfl rfl rfl rfl rfl nofun ?_; intro σ H
 apply Ops.nil
 replace H := H.all
 apply Runs.then
 apply Runs.then
 refine Runs.regionH 5 rfl H ?_; intro b3 σ H
 refine Ops.fieldAddrH (off := 0) (fo := 0) H 0 rfl rfl rfl rfl rfl nofun rfl ?_
 refine Ops.fieldAddrH (off := 0) (fo := 2) H 0 rfl rfl rfl rfl rfl nofun rfl ?_
 refine Ops.loadH (off := 2) (v := (vl (cL Span.cs) x1.Core)) H 0 rfl rfl rfl rfl rfl nofun rfl ?_
 refine Ops.lenPt (c := (cL Span.cs)) (xs := x1.Core) rfl rfl rfl ?_
 refine Ops.move (v := (vi 0)) rfl rfl ?_
 apply Ops.nil
 replace H := H.all
 apply Runs.inBlock
 replace H := H.pushNil 116 3 true
 obtain ⟨y1, hj1, h⟩ := bind_some h
 obtain ⟨n1, hj1⟩ := loopO_iff.1 hj1
 refine Runs.mono (Runs.loopO hj1 (fun s2 e σ => ∃ (w3 : PV), EnvHas e [(2, (.ptr (b1 + 1) 5 0)), (3, (.ptr (b2 + 3) 5 0)), (13, (vl (cL Span.cs) x1.Core)), (14, (vi (x1.Core.length : Int))), (15, (vi s2.1))] ∧ Hs σ [.sl w3 116 3 (s2.2.map size_spot.cs) true, .blk (b2 + 3) 96 [(vi x1.Period), (vi x1.Count), (vl (cL Span.cs) x1.Core), (vl Granule.cs x1.Odd), w3], .blk (b1 + 1) 96 [(vi 0), (vi 0), .nils, .nils, .nils]]) (fun y1 x e σ => ∃ (w4 : PV), x = .exit 0 ∧ EnvHas e [(2, (.ptr (b1 + 1) 5 0)), (3, (.ptr (b2 + 3) 5 0))] ∧ Hs σ [.sl w4 116 3 (y1.map size_spot.cs) true, .blk (b2 + 3) 96 [(vi x1.Period), (vi x1.Count), (vl (cL Span.cs) x1.Core), (vl Granule.cs x1.Odd), w4], .blk (b1 + 1) 96 [(vi 0), (vi 0), .nils, .nils, .nils]]) ⟨.nils, ⟨rfl, rfl, rfl, rfl, rfl, trivial⟩, (H.erase 3)⟩ ?_) ?_
 ·intro s2 e σ hI z h
  obtain ⟨w3, he, H⟩ := hI
  obtain ⟨e, rfl⟩ := he.ex
  unfold size_made.s0 at h
  apply Runs.then
  refine Runs.regionH 1 rfl H ?_; intro b4 σ H
  refine Ops.int (m := s2.1) (m' := (x1.Core.length : Int)) (r := .bool (decide (s2.1 < (x1.Core.length : Int)))) rfl rfl rfl rfl rfl ?_
  apply Ops.nil
  replace H := H.all
  apply Runs.then
  refine Runs.whether (v := (decide (s2.1 < (x1.Core.length : Int)))) rfl ?_ ?_ <;> intro hc1
  ·replace h := cond_T hc1 h
   apply Runs.skip
   apply Runs.then
   obtain ⟨y2, hj2, h⟩ := bind_some h
   refine Runs.mono (Q := fun x e σ => ∃ (w5 : PV), x = .normal ∧ EnvHas e [(2, (.ptr (b1 + 1) 5 0)), (3, (.ptr (b2 + 3) 5 0)), (13, (vl (cL Span.cs) x1.Core)), (14, (vi (x1.Core.length : Int))), (15, (vi s2.1))] ∧ Hs σ [.sl w5 116 3 (y2.map size_spot.cs) true, .blk (b2 + 3) 96 [(vi x1.Period), (vi x1.Count), (vl (cL Span.cs) x1.Core), (vl Granule.cs x1.Odd), w5], .blk (b1 + 1) 96 [(vi 0), (vi 0), .nils, .nils, .nils]]) ?_ ?_
   ·replace h := hj2
    apply Runs.inBlock
    obtain ⟨y3, hj3, h⟩ := bind_some h
    refine Runs.mono (Q := fun x e σ => ∃ (w6 : PV), x = .normal ∧ EnvHas e [(2, (.ptr (b1 + 1) 5 0)), (3, (.ptr (b2 + 3) 5 0)), (13, (vl (cL Span.cs) x1.Core)), (14, (vi (x1.Core.length : Int))), (15, (vi s2.1))] ∧ Hs σ [.sl w6 116 3 (y3.map size_spot.cs) true, .blk (b2 + 3) 96 [(vi x1.Period), (vi x1.Count), (vl (cL Span.cs) x1.Core), (vl Granule.cs x1.Odd), w6], .blk (b1 + 1) 96 [(vi 0), (vi 0), .nils, .nils, .nils]]) ?_ ?_
    ·replace h := hj3
     apply Runs.then
     refine Runs.regionH 5 rfl H ?_; intro b5 σ H
     refine Ops.move (v := (vi s2.1)) rfl rfl ?_
     obtain ⟨x2, q2, h⟩ := bind_some h
     refine Ops.indexP (c := (cL Span.cs)) (u := x2) rfl rfl q2 rfl rfl rfl rfl ?_
     refine Ops.loadP (u := (.sl (x2.map Span.cs))) rfl rfl rfl rfl ?_
     refine Ops.assign (v := (vi s2.1)) rfl rfl ?_
     refine Ops.assign (v := (vl Span.cs x2)) rfl rfl ?_
     apply Ops.nil
     replace H := H.all
     apply Runs.then
     refine Runs.regionH 8 rfl H ?_; intro b6 σ H
     refine Ops.move (v := (vl Span.cs x2)) rfl rfl ?_
     obtain ⟨x3, q3, h⟩ := bind_some h
     refine Ops.call (ys := [(vl Span.cs x2)]) (r := (.tup [(.agg [(vi x3.1.From), (vi x3.1.To)]), (vb x3.2)])) rfl (spans_Hull_fn q3) rfl ?_
     refine Ops.move (v := (.tup [(.agg [(vi x3.1.From), (vi x3.1.To)]), (vb x3.2)])) rfl rfl ?_
     refine Ops.extract (v := (.agg [(vi x3.1.From), (vi x3.1.To)])) rfl rfl rfl ?_
     refine Ops.extract (v := (vb x3.2)) rfl rfl rfl ?_
     refine Ops.allocH (cs := [(vi 0), (vi 0)]) H (by omega) (by omega) rfl rfl ?_; intro σ H
     refine Ops.storeH (off := 0) (v := (.agg [(vi x3.1.From), (vi x3.1.To)])) (ys := [(vi x3.1.From), (vi x3.1.To)]) (cells' := [(vi x3.1.From), (vi x3.1.To)]) H 0 rfl rfl rfl rfl rfl rfl rfl rfl rfl nofun ?_; intro σ H
     refine Ops.assign (v := (vb x3.2)) rfl rfl ?_
     apply Ops.nil
     replace H := H.all
     apply Runs.then
     refine Runs.regionH 1 rfl H ?_; intro b7 σ H
     refine Ops.move (v := (vb x3.2)) rfl rfl ?_
     apply Ops.nil
     replace H := H.all
     refine Runs.whether (v := x3.2) rfl ?_ ?_ <;> intro hc2
     ·replace h := cond_T hc2 h
      refine Runs.regionH 13 rfl H ?_; intro b8 σ H
      refine Ops.fieldAddrH (off := 0) (fo := 4) H 2 rfl rfl rfl rfl rfl nofun rfl ?_
      refine Ops.loadH (off := 4) (v := w3) H 2 rfl rfl rfl rfl rfl nofun rfl ?_
      refine Ops.move (v := (vi s2.1)) rfl rfl ?_
      refine Ops.fieldAddrH (off := 0) (fo := 0) H 0 rfl rfl rfl rfl rfl nofun rfl ?_
      refine Ops.loadH (off := 0) (v := (vi x3.1.From)) H 0 rfl rfl rfl rfl rfl nofun rfl ?_
      refine Ops.fieldAddrH (off := 0) (fo := 1) H 0 rfl rfl rfl rfl rfl nofun rfl ?_
      refine Ops.loadH (off := 1) (v := (vi x3.1.To)) H 0 rfl rfl rfl rfl rfl nofun rfl ?_
      refine Ops.buildA (cs := [(vi x3.1.From), (vi x3.1.To)]) rfl rfl ?_
      refine Ops.buildA (cs := [(vi s2.1), (vi x3.1.From), (vi x3.1.To)]) rfl rfl ?_
      refine Ops.buildS (sz := 3) ([(size_spot.mk s2.1 (size_place.mk x3.1.From x3.1.To))].map size_spot.cs) H (by omega) (by omega) rfl rfl rfl rfl rfl rfl rfl rfl rfl ?_; intro σ H
      obtain ⟨x4, q4, h⟩ := bind_some h
      refine Ops.appendSt (c := size_spot.cs) (v := w3) (w := (.buf (b8 + 9) 1 3)) (xs := s2.2) (ys := [(size_spot.mk s2.1 (size_place.mk x3.1.From x3.1.To))]) H (by omega) (by omega) 2 rfl rfl rfl (.s 0 rfl) q4 rfl rfl rfl rfl rfl nofun rfl ?_; intro w7 σ H
      refine Ops.fieldAddrH (off := 0) (fo := 4) H 3 rfl rfl rfl rfl rfl nofun rfl ?_
      refine Ops.storeH (off := 4) (v := w7) (ys := [w7]) (cells' := [(vi x1.Period), (vi x1.Count), (vl (cL Span.cs) x1.Core), (vl Granule.cs x1.Odd), w7]) H 3 rfl rfl rfl rfl (H.slCells (k := 2) rfl) rfl rfl rfl rfl nofun ?_; intro σ H
      apply Ops.nil
      replace H := H.all
      replace h := Option.some.inj h; subst h
      exact ⟨w7, rfl, ⟨rfl, rfl, rfl, rfl, rfl, trivial⟩, ((H.erase 1).erase 0)⟩
     ·replace h := cond_F hc2 h
      apply Runs.skip
      replace h := Option.some.inj h; subst h
      exact ⟨w3, rfl, ⟨rfl, rfl, rfl, rfl, rfl, trivial⟩, (H.erase 0)⟩
    ·rintro x e σ ⟨w8, rfl, he, H⟩
     obtain ⟨e, rfl⟩ := he.ex
     replace h := Option.some.inj h; subst h
     exact ⟨w8, rfl, ⟨rfl, rfl, rfl, rfl, rfl, trivial⟩, H⟩
   ·rintro x e σ ⟨w9, rfl, he, H⟩
    obtain ⟨e, rfl⟩ := he.ex
    refine Runs.regionH 2 rfl H ?_; intro b9 σ H
    refine Ops.int (m := s2.1) (m' := 1) (r := .int .i64 (w64 (s2.1 + 1))) rfl rfl rfl rfl rfl ?_
    refine Ops.move (v := (vi (w64 (s2.1 + 1)))) rfl rfl ?_
    apply Ops.nil
    replace H := H.all
    replace h := Option.some.inj h; subst h
    exact ⟨rfl, w9, ⟨rfl, rfl, rfl, rfl, rfl, trivial⟩, H⟩
  ·replace h := cond_F hc1 h
   apply Runs.exit
   replace h := Option.some.inj h; subst h
   exact ⟨nofun, ⟨w3, rfl, ⟨rfl, rfl, trivial⟩, H⟩⟩
 ·rintro x e σ ⟨w10, rfl, he, H⟩
  obtain ⟨e, rfl⟩ := he.ex
  apply Runs.then
  refine Runs.regionH 2 rfl H ?_; intro b10 σ H
  refine Ops.loadHA (off := 0) (cs := [(vi x1.Period), (vi x1.Count), (vl (cL Span.cs) x1.Core), (vl Granule.cs x1.Odd), w10]) H 1 rfl rfl rfl rfl rfl rfl rfl nofun rfl ?_
  refine Ops.storeH (off := 0) (v := (.agg [(vi x1.Period), (vi x1.Count), (vl (cL Span.cs) x1.Core), (vl Granule.cs x1.Odd), w10])) (ys := [(vi x1.Period), (vi x1.Count), (vl (cL Span.cs) x1.Core), (vl Granule.cs x1.Odd), w10]) (cells' := [(vi x1.Period), (vi x1.Count), (vl (cL Span.cs) x1.Core), (vl Granule.cs x1.Odd), w10]) H 2 rfl rfl rfl rfl rfl rfl rfl rfl rfl nofun ?_; intro σ H
  apply Ops.nil
  replace H := H.all
  apply Runs.ret
  replace h := Option.some.inj h; subst h
  exact (Ends.H (xs := [(.agg [(vi x1.Period), (vi x1.Count), (vl (cL Span.cs) x1.Core), (vl Granule.cs x1.Odd), w10])]) (.inr rfl) H (.agg (cs := [(vi x1.Period), (vi x1.Count), (vl (cL Span.cs) x1.Core), (vl Granule.cs x1.Odd), w10]) (off := 0) 2 rfl rfl rfl rfl rfl rfl rfl .nil) (.one (.a (.cons (.v _) (.cons (.v _) (.cons (.v _) (.cons (.v _) (.cons (.s 0 rfl) .nil))))))))

set_option maxRecDepth 100000 in
set_option maxHeartbeats 4000000 in
theorem size_form_core_1_fn {n : Int} {p1' : size_form} {p2' : Int} {p3' : Int} {id0' : Nat} {id1' : Nat} {id2' : Nat} {r : Bool} (h : size_form_core_1 n p1' p2' p3' = some r) : FnH CX 113 [(vi n), (.ptr id0' 5 0), (.ptr id1' 1 0), (.ptr id2' 1 0)] (vb r) [.blk id0' 96 [(vi p1'.Form.Period), (vi p1'.Form.Count), (vl (cL Span.cs) p1'.Form.Core), (vl Granule.cs p1'.Form.Odd), (vl size_spot.cs p1'.spots)], .blk id1' 3 [(vi p2')], .blk id2' 3 [(vi p3')]] := by
 refine FnH.of Try.func113 rfl rfl rfl rfl rfl rfl (fun h => by have := all_get h 1 rfl; cases this) ?_
 intro σ L hC H
 have hC0 := hC
 obtain ⟨k0', hk0', hC⟩ := hC.inv
 obtain ⟨k1', hk1', hC⟩ := hC.inv
 obtain ⟨k2', hk2', hC⟩ := hC.inv
 unfold size_form_core_1 at h
 apply Runs.then
 refine Runs.regionH 1 rfl H ?_; intro b1 σ H
 refine Ops.assign (v := (vb false)) rfl rfl ?_
 apply Ops.nil
 replace H := H.all
 apply Runs.then
 refine Runs.drawnH 16 rfl (by kernel_rfl) H ?_; intro b2 σ H B2
 refine Ops.fieldAddrH (off := 0) (fo := 4) H k0' hk0' rfl rfl rfl rfl (fun _ => .inl ⟨B2 (k0' + 0) _ hk0' _ rfl, nofun⟩) rfl ?_
 refine Ops.loadH (off := 4) (v := (vl size_spot.cs p1'.spots)) H k0' hk0' rfl rfl rfl rfl (fun _ => .inl ⟨B2 (k0' + 0) _ hk0' _ rfl, nofun⟩) rfl ?_
 refine Ops.move (v := (vi n)) rfl rfl ?_
 obtain ⟨x1, q1, h⟩ := bind_some h
 refine Ops.indexP (c := size_spot.cs) (u := x1) rfl rfl q1 rfl rfl rfl rfl ?_
 refine Ops.fieldAddrP rfl rfl rfl rfl ?_
 refine Ops.fieldAddrP rfl rfl rfl rfl ?_
 refine Ops.loadP (u := (.int .i64 x1.place.last)) rfl rfl rfl rfl ?_
 refine Ops.loadH (off := 0) (v := (vi p2')) H k1' hk1' rfl rfl rfl rfl (fun _ => .inl ⟨B2 (k1' + 0) _ hk1' _ rfl, nofun⟩) rfl ?_
 refine Ops.fieldAddrH (off := 0) (fo := 0) H k0' hk0' rfl rfl rfl rfl (fun _ => .inl ⟨B2 (k0' + 0) _ hk0' _ rfl, nofun⟩) rfl ?_
 refine Ops.fieldAddrH (off := 0) (fo := 0) H k0' hk0' rfl rfl rfl rfl (fun _ => .inl ⟨B2 (k0' + 0) _ hk0' _ rfl, nofun⟩) rfl ?_
 refine Ops.loadH (off := 0) (v := (vi p1'.Form.Period)) H k0' hk0' rfl rfl rfl rfl (fun _ => .inl ⟨B2 (k0' + 0) _ hk0' _ rfl, nofun⟩) rfl ?_
 refine Ops.int (m := p2') (m' := p1'.Form.Period) (r := .int .i64 (w64 (p2' * p1'.Form.Period))) rfl rfl rfl rfl rfl ?_
 refine Ops.int (m := x1.place.last) (m' := (w64 (p2' * p1'.Form.Period))) (r := .int .i64 (w64 (x1.place.last - (w64 (p2' * p1'.Form.Period))))) rfl rfl rfl rfl rfl ?_
 refine Ops.loadH (off := 0) (v := (vi p3')) H k2' hk2' rfl rfl rfl rfl (fun _ => .inl ⟨B2 (k2' + 0) _ hk2' _ rfl, nofun⟩) rfl ?_
 refine Ops.int (m := (w64 (x1.place.last - (w64 (p2' * p1'.Form.Period))))) (m' := p3') (r := .bool (decide ((w64 (x1.place.last - (w64 (p2' * p1'.Form.Period)))) ≥ p3'))) rfl rfl rfl rfl rfl ?_
 refine Ops.assign (v := (vb (decide ((w64 (x1.place.last - (w64 (p2' * p1'.Form.Period)))) ≥ p3')))) rfl rfl ?_
 apply Ops.nil
 replace H := H.all
 apply Runs.ret
 replace h := Option.some.inj h; subst h
 exact (EndsH.H (xs := [(vb (decide ((w64 (x1.place.last - (w64 (p2' * p1'.Form.Period)))) ≥ p3')))]) (.inr rfl) H (.tmp (v := (vb (decide ((w64 (x1.place.last - (w64 (p2' * p1'.Form.Period)))) ≥ p3')))) rfl .nil) (.one (.c (.v _))) 0 rfl)

set_option maxRecDepth 100000 in
set_option maxHeartbeats 4000000 in
theorem size_form_core_2_fn {n : Int} {p1' : size_form} {p2' : Int} {p3' : Int} {id0' : Nat} {id1' : Nat} {id2' : Nat} {r : Bool} (h : size_form_core_2 n p1' p2' p3' = some r) : FnH CX 114 [(vi n), (.ptr id0' 5 0), (.ptr id1' 1 0), (.ptr id2' 1 0)] (vb r) [.blk id0' 96 [(vi p1'.Form.Period), (vi p1'.Form.Count), (vl (cL Span.cs) p1'.Form.Core), (vl Granule.cs p1'.Form.Odd), (vl size_spot.cs p1'.spots)], .blk id1' 3 [(vi p2')], .blk id2' 3 [(vi p3')]] := by
 refine FnH.of Try.func114 rfl rfl rfl rfl rfl rfl (fun h => by have := all_get h 1 rfl; cases this) ?_
 intro σ L hC H
 have hC0 := hC
 obtain ⟨k0', hk0', hC⟩ := hC.inv
 obtain ⟨k1', hk1', hC⟩ := hC.inv
 obtain ⟨k2', hk2', hC⟩ := hC.inv
 unfold size_form_core_2 at h
 apply Runs.then
 refine Runs.regionH 1 rfl H ?_; intro b1 σ H
 refine Ops.assign (v := (vb false)) rfl rfl ?_
 apply Ops.nil
 replace H := H.all
 apply Runs.then
 refine Runs.drawnH 16 rfl (by kernel_rfl) H ?_; intro b2 σ H B2
 refine Ops.fieldAddrH (off := 0) (fo := 4) H k0' hk0' rfl rfl rfl rfl (fun _ => .inl ⟨B2 (k0' + 0) _ hk0' _ rfl, nofun⟩) rfl ?_
 refine Ops.loadH (off := 4) (v := (vl size_spot.cs p1'.spots)) H k0' hk0' rfl rfl rfl rfl (fun _ => .inl ⟨B2 (k0' + 0) _ hk0' _ rfl, nofun⟩) rfl ?_
 refine Ops.move (v := (vi n)) rfl rfl ?_
 obtain ⟨x1, q1, h⟩ := bind_some h
 refine Ops.indexP (c := size_spot.cs) (u := x1) rfl rfl q1 rfl rfl rfl rfl ?_
 refine Ops.fieldAddrP rfl rfl rfl rfl ?_
 refine Ops.fieldAddrP rfl rfl rfl rfl ?_
 refine Ops.loadP (u := (.int .i64 x1.place.first)) rfl rfl rfl rfl ?_
 refine Ops.loadH (off := 0) (v := (vi p2')) H k1' hk1' rfl rfl rfl rfl (fun _ => .inl ⟨B2 (k1' + 0) _ hk1' _ rfl, nofun⟩) rfl ?_
 refine Ops.fieldAddrH (off := 0) (fo := 0) H k0' hk0' rfl rfl rfl rfl (fun _ => .inl ⟨B2 (k0' + 0) _ hk0' _ rfl, nofun⟩) rfl ?_
 refine Ops.fieldAddrH (off := 0) (fo := 0) H k0' hk0' rfl rfl rfl rfl (fun _ => .inl ⟨B2 (k0' + 0) _ hk0' _ rfl, nofun⟩) rfl ?_
 refine Ops.loadH (off := 0) (v := (vi p1'.Form.Period)) H k0' hk0' rfl rfl rfl rfl (fun _ => .inl ⟨B2 (k0' + 0) _ hk0' _ rfl, nofun⟩) rfl ?_
 refine Ops.int (m := p2') (m' := p1'.Form.Period) (r := .int .i64 (w64 (p2' * p1'.Form.Period))) rfl rfl rfl rfl rfl ?_
 refine Ops.int (m := x1.place.first) (m' := (w64 (p2' * p1'.Form.Period))) (r := .int .i64 (w64 (x1.place.first + (w64 (p2' * p1'.Form.Period))))) rfl rfl rfl rfl rfl ?_
 refine Ops.loadH (off := 0) (v := (vi p3')) H k2' hk2' rfl rfl rfl rfl (fun _ => .inl ⟨B2 (k2' + 0) _ hk2' _ rfl, nofun⟩) rfl ?_
 refine Ops.int (m := (w64 (x1.place.first + (w64 (p2' * p1'.Form.Period))))) (m' := p3') (r := .bool (decide ((w64 (x1.place.first + (w64 (p2' * p1'.Form.Period)))) > p3'))) rfl rfl rfl rfl rfl ?_
 refine Ops.assign (v := (vb (decide ((w64 (x1.place.first + (w64 (p2' * p1'.Form.Period)))) > p3')))) rfl rfl ?_
 apply Ops.nil
 replace H := H.all
 apply Runs.ret
 replace h := Option.some.inj h; subst h
 exact (EndsH.H (xs := [(vb (decide ((w64 (x1.place.first + (w64 (p2' * p1'.Form.Period)))) > p3')))]) (.inr rfl) H (.tmp (v := (vb (decide ((w64 (x1.place.first + (w64 (p2' * p1'.Form.Period)))) > p3')))) rfl .nil) (.one (.c (.v _))) 0 rfl)

set_option maxRecDepth 100000 in
set_option maxHeartbeats 4000000 in
theorem size_form_core_fn {f : size_form} {t : Int} {up : Bool} {r : Int} (h : size_form_core f t up = some r) : Fn CX 89 [(.agg (vs (size_form.cs f))), (vi t), (vb up)] (vi r) := by
 refine Fn.ends Try.func89 rfl rfl rfl rfl rfl rfl ?_
 have H : Hs (⟨0, fun _ => .none⟩ : Heap) [] := Has.nil (Nat.le_refl _)
 generalize (⟨0, fun _ => .none⟩ : Heap) = σ at H ⊢
 unfold size_form_core at h
 apply Runs.then
 refine Runs.regionH 3 rfl H ?_; intro b1 σ H
 refine Ops.boxH (v := (.agg [(vi f.Form.Period), (vi f.Form.Count), (vl (cL Span.cs) f.Form.Core), (vl Granule.cs f.Form.Odd), (vl size_spot.cs f.spots)])) (cs := [(vi f.Form.Period), (vi f.Form.Count), (vl (cL Span.cs) f.Form.Core), (vl Granule.cs f.Form.Odd), (vl size_spot.cs f.spots)]) H (by omega) (by omega) rfl rfl rfl ?_; intro σ H
 refine Ops.boxH (v := (vi t)) (cs := [(vi t)]) H (by omega) (by omega) rfl rfl rfl ?_; intro σ H
 refine Ops.assign (v := (vi 0)) rfl rfl ?_
 apply Ops.nil
 replace H := H.all
 apply Runs.then
 apply Runs.then
 refine Runs.regionH 1 rfl H ?_; intro b2 σ H
 refine Ops.move (v := (vb up)) rfl rfl ?_
 apply Ops.nil
 replace H := H.all
 refine Runs.whether (v := up) rfl ?_ ?_ <;> intro hc1
 ·replace h := cond_T hc1 h
  apply Runs.then
  refine Runs.drawnH 24 rfl (by kernel_rfl) H ?_; intro b3 σ H B3
  refine Ops.fieldAddrH (off := 0) (fo := 4) H 1 rfl rfl rfl rfl rfl (fun _ => .inl ⟨B3 1 _ rfl _ rfl, nofun⟩) rfl ?_
  refine Ops.loadH (off := 4) (v := (vl size_spot.cs f.spots)) H 1 rfl rfl rfl rfl rfl (fun _ => .inl ⟨B3 1 _ rfl _ rfl, nofun⟩) rfl ?_
  refine Ops.fieldAddrH (off := 0) (fo := 4) H 1 rfl rfl rfl rfl rfl (fun _ => .inl ⟨B3 1 _ rfl _ rfl, nofun⟩) rfl ?_
  refine Ops.loadH (off := 4) (v := (vl size_spot.cs f.spots)) H 1 rfl rfl rfl rfl rfl (fun _ => .inl ⟨B3 1 _ rfl _ rfl, nofun⟩) rfl ?_
  refine Ops.lenPt (c := size_spot.cs) (xs := f.spots) rfl rfl rfl ?_
  refine Ops.int (m := (f.spots.length : Int)) (m' := 1) (r := .int .i64 (w64 ((f.spots.length : Int) - 1))) rfl rfl rfl rfl rfl ?_
  obtain ⟨x1, q1, h⟩ := bind_some h
  refine Ops.indexP (c := size_spot.cs) (u := x1) rfl rfl q1 rfl rfl rfl rfl ?_
  refine Ops.fieldAddrP rfl rfl rfl rfl ?_
  refine Ops.fieldAddrP rfl rfl rfl rfl ?_
  refine Ops.loadP (u := (.int .i64 x1.place.last)) rfl rfl rfl rfl ?_
  refine Ops.loadH (off := 0) (v := (vi t)) H 0 rfl rfl rfl rfl rfl (fun _ => .inl ⟨B3 0 _ rfl _ rfl, nofun⟩) rfl ?_
  refine Ops.int (m := x1.place.last) (m' := t) (r := .int .i64 (w64 (x1.place.last - t))) rfl rfl rfl rfl rfl ?_
  refine Ops.fieldAddrH (off := 0) (fo := 0) H 1 rfl rfl rfl rfl rfl (fun _ => .inl ⟨B3 1 _ rfl _ rfl, nofun⟩) rfl ?_
  refine Ops.fieldAddrH (off := 0) (fo := 0) H 1 rfl rfl rfl rfl rfl (fun _ => .inl ⟨B3 1 _ rfl _ rfl, nofun⟩) rfl ?_
  refine Ops.loadH (off := 0) (v := (vi f.Form.Period)) H 1 rfl rfl rfl rfl rfl (fun _ => .inl ⟨B3 1 _ rfl _ rfl, nofun⟩) rfl ?_
  obtain ⟨x2, q2, h⟩ := bind_some h
  refine Ops.call (ys := [(vi (w64 (x1.place.last - t))), (vi f.Form.Period)]) (r := (.tup [(vi x2.1), (vi x2.2.1), (vi x2.2.2)])) rfl (safe_Floor_fn q2) rfl ?_
  refine Ops.move (v := (.tup [(vi x2.1), (vi x2.2.1), (vi x2.2.2)])) rfl rfl ?_
  refine Ops.extract (v := (vi x2.1)) rfl rfl rfl ?_
  refine Ops.extract (v := (vi x2.2.1)) rfl rfl rfl ?_
  refine Ops.extract (v := (vi x2.2.2)) rfl rfl rfl ?_
  refine Ops.allocH (cs := [(vi 0)]) H (by omega) (by omega) rfl rfl ?_; intro σ H
  refine Ops.storeH (off := 0) (v := (vi x2.1)) (ys := [(vi x2.1)]) (cells' := [(vi x2.1)]) H 0 rfl rfl rfl rfl rfl rfl rfl rfl rfl (fun _ => .inr ⟨20, rfl, by kernel_rfl, by decide⟩) ?_; intro σ H
  refine Ops.assign (v := (vi x2.2.1)) rfl rfl ?_
  refine Ops.assign (v := (vi x2.2.2)) rfl rfl ?_
  apply Ops.nil
  replace H := H.all
  apply Runs.then
  refine Runs.regionH 6 rfl H ?_; intro b4 σ H
  refine Ops.fieldAddrH (off := 0) (fo := 4) H 2 rfl rfl rfl rfl rfl nofun rfl ?_
  refine Ops.loadH (off := 4) (v := (vl size_spot.cs f.spots)) H 2 rfl rfl rfl rfl rfl nofun rfl ?_
  refine Ops.lenPt (c := size_spot.cs) (xs := f.spots) rfl rfl rfl ?_
  refine Ops.makeClo (fs := []) (cs := [(.ptr (b1 + 0) 5 0), (.ptr (b3 + 20) 1 0), (.ptr (b1 + 1) 1 0)]) rfl rfl rfl rfl ?_
  obtain ⟨x3, q3, h⟩ := bind_some h
  refine Ops.callH (ys := [(vi (f.spots.length : Int)), (.clo 113 [] [(.ptr (b1 + 0) 5 0), (.ptr (b3 + 20) 1 0), (.ptr (b1 + 1) 1 0)])]) (r := (vi x3)) H rfl (sort_Search_fn (C := [.blk (b1 + 0) 96 [(vi f.Form.Period), (vi f.Form.Count), (vl (cL Span.cs) f.Form.Core), (vl Granule.cs f.Form.Odd), (vl size_spot.cs f.spots)], .blk (b3 + 20) 3 [(vi x2.1)], .blk (b1 + 1) 3 [(vi t)]]) rfl (fun h => by simp [PV.pure] at h) (fun z0 y hz => (CloH.clo (size_form_core_1_fn hz))) q3) (.cons 2 rfl (.cons 0 rfl (.cons 1 rfl .nil))) nofun rfl ?_; intro σ H
  refine Ops.assign (v := (vi x3)) rfl rfl ?_
  apply Ops.nil
  replace H := H.all
  apply Runs.then
  refine Runs.drawnH 13 rfl (by kernel_rfl) H ?_; intro b5 σ H B5
  refine Ops.fieldAddrH (off := 0) (fo := 4) H 2 rfl rfl rfl rfl rfl (fun _ => .inl ⟨B5 2 _ rfl _ rfl, nofun⟩) rfl ?_
  refine Ops.loadH (off := 4) (v := (vl size_spot.cs f.spots)) H 2 rfl rfl rfl rfl rfl (fun _ => .inl ⟨B5 2 _ rfl _ rfl, nofun⟩) rfl ?_
  refine Ops.move (v := (vi x3)) rfl rfl ?_
  obtain ⟨x4, q4, h⟩ := bind_some h
  refine Ops.indexP (c := size_spot.cs) (u := x4) rfl rfl q4 rfl rfl rfl rfl ?_
  refine Ops.fieldAddrP rfl rfl rfl rfl ?_
  refine Ops.loadP (u := (.int .i64 x4.index)) rfl rfl rfl rfl ?_
  refine Ops.loadH (off := 0) (v := (vi x2.1)) H 0 rfl rfl rfl rfl rfl (fun _ => .inl ⟨B5 0 _ rfl _ rfl, nofun⟩) rfl ?_
  refine Ops.fieldAddrH (off := 0) (fo := 0) H 2 rfl rfl rfl rfl rfl (fun _ => .inl ⟨B5 2 _ rfl _ rfl, nofun⟩) rfl ?_
  refine Ops.fieldAddrH (off := 0) (fo := 1) H 2 rfl rfl rfl rfl rfl (fun _ => .inl ⟨B5 2 _ rfl _ rfl, nofun⟩) rfl ?_
  refine Ops.loadH (off := 1) (v := (vi f.Form.Count)) H 2 rfl rfl rfl rfl rfl (fun _ => .inl ⟨B5 2 _ rfl _ rfl, nofun⟩) rfl ?_
  refine Ops.int (m := x2.1) (m' := f.Form.Count) (r := .int .i64 (w64 (x2.1 * f.Form.Count))) rfl rfl rfl rfl rfl ?_
  refine Ops.int (m := x4.index) (m' := (w64 (x2.1 * f.Form.Count))) (r := .int .i64 (w64 (x4.index - (w64 (x2.1 * f.Form.Count))))) rfl rfl rfl rfl rfl ?_
  refine Ops.assign (v := (vi (w64 (x4.index - (w64 (x2.1 * f.Form.Count)))))) rfl rfl ?_
  apply Ops.nil
  replace H := H.all
  apply Runs.ret
  replace h := Option.some.inj h; subst h
  exact (Ends.H (xs := [(vi (w64 (x4.index - (w64 (x2.1 * f.Form.Count)))))]) (.inr rfl) H (.tmp (v := (vi (w64 (x4.index - (w64 (x2.1 * f.Form.Count)))))) rfl .nil) (.one (.c (.v _))))
 ·replace h := cond_F hc1 h
  apply Runs.skip
  apply Runs.then
  refine Runs.drawnH 20 rfl (by kernel_rfl) H ?_; intro b6 σ H B6
  refine Ops.loadH (off := 0) (v := (vi t)) H 0 rfl rfl rfl rfl rfl (fun _ => .inl ⟨B6 0 _ rfl _ rfl, nofun⟩) rfl ?_
  refine Ops.fieldAddrH (off := 0) (fo := 4) H 1 rfl rfl rfl rfl rfl (fun _ => .inl ⟨B6 1 _ rfl _ rfl, nofun⟩) rfl ?_
  refine Ops.loadH (off := 4) (v := (vl size_spot.cs f.spots)) H 1 rfl rfl rfl rfl rfl (fun _ => .inl ⟨B6 1 _ rfl _ rfl, nofun⟩) rfl ?_
  obtain ⟨x5, q5, h⟩ := bind_some h
  refine Ops.indexP (c := size_spot.cs) (u := x5) rfl rfl q5 rfl rfl rfl rfl ?_
  refine Ops.fieldAddrP rfl rfl rfl rfl ?_
  refine Ops.fieldAddrP rfl rfl rfl rfl ?_
  refine Ops.loadP (u := (.int .i64 x5.place.first)) rfl rfl rfl rfl ?_
  refine Ops.int (m := t) (m' := x5.place.first) (r := .int .i64 (w64 (t - x5.place.first))) rfl rfl rfl rfl rfl ?_
  refine Ops.fieldAddrH (off := 0) (fo := 0) H 1 rfl rfl rfl rfl rfl (fun _ => .inl ⟨B6 1 _ rfl _ rfl, nofun⟩) rfl ?_
  refine Ops.fieldAddrH (off := 0) (fo := 0) H 1 rfl rfl rfl rfl rfl (fun _ => .inl ⟨B6 1 _ rfl _ rfl, nofun⟩) rfl ?_
  refine Ops.loadH (off := 0) (v := (vi f.Form.Period)) H 1 rfl rfl rfl rfl rfl (fun _ => .inl ⟨B6 1 _ rfl _ rfl, nofun⟩) rfl ?_
  obtain ⟨x6, q6, h⟩ := bind_some h
  refine Ops.call (ys := [(vi (w64 (t - x5.place.first))), (vi f.Form.Period)]) (r := (.tup [(vi x6.1), (vi x6.2.1), (vi x6.2.2)])) rfl (safe_Floor_fn q6) rfl ?_
  refine Ops.move (v := (.tup [(vi x6.1), (vi x6.2.1), (vi x6.2.2)])) rfl rfl ?_
  refine Ops.extract (v := (vi x6.1)) rfl rfl rfl ?_
  refine Ops.extract (v := (vi x6.2.1)) rfl rfl rfl ?_
  refine Ops.extract (v := (vi x6.2.2)) rfl rfl rfl ?_
  refine Ops.allocH (cs := [(vi 0)]) H (by omega) (by omega) rfl rfl ?_; intro σ H
  refine Ops.storeH (off := 0) (v := (vi x6.1)) (ys := [(vi x6.1)]) (cells' := [(vi x6.1)]) H 0 rfl rfl rfl rfl rfl rfl rfl rfl rfl (fun _ => .inr ⟨16, rfl, by kernel_rfl, by decide⟩) ?_; intro σ H
  refine Ops.assign (v := (vi x6.2.1)) rfl rfl ?_
  refine Ops.assign (v := (vi x6.2.2)) rfl rfl ?_
  apply Ops.nil
  replace H := H.all
  apply Runs.then
  refine Runs.regionH 6 rfl H ?_; intro b7 σ H
  refine Ops.fieldAddrH (off := 0) (fo := 4) H 2 rfl rfl rfl rfl rfl nofun rfl ?_
  refine Ops.loadH (off := 4) (v := (vl size_spot.cs f.spots)) H 2 rfl rfl rfl rfl rfl nofun rfl ?_
  refine Ops.lenPt (c := size_spot.cs) (xs := f.spots) rfl rfl rfl ?_
  refine Ops.makeClo (fs := []) (cs := [(.ptr (b1 + 0) 5 0), (.ptr (b6 + 16) 1 0), (.ptr (b1 + 1) 1 0)]) rfl rfl rfl rfl ?_
  obtain ⟨x7, q7, h⟩ := bind_some h
  refine Ops.callH (ys := [(vi (f.spots.length : Int)), (.clo 114 [] [(.ptr (b1 + 0) 5 0), (.ptr (b6 + 16) 1 0), (.ptr (b1 + 1) 1 0)])]) (r := (vi x7)) H rfl (sort_Search_fn (C := [.blk (b1 + 0) 96 [(vi f.Form.Period), (vi f.Form.Count), (vl (cL Span.cs) f.Form.Core), (vl Granule.cs f.Form.Odd), (vl size_spot.cs f.spots)], .blk (b6 + 16) 3 [(vi x6.1)], .blk (b1 + 1) 3 [(vi t)]]) rfl (fun h => by simp [PV.pure] at h) (fun z0 y hz => (CloH.clo (size_form_core_2_fn hz))) q7) (.cons 2 rfl (.cons 0 rfl (.cons 1 rfl .nil))) nofun rfl ?_; intro σ H
  refine Ops.assign (v := (vi x7)) rfl rfl ?_
  apply Ops.nil
  replace H := H.all
  apply Runs.then
  refine Runs.drawnH 14 rfl (by kernel_rfl) H ?_; intro b8 σ H B8
  refine Ops.fieldAddrH (off := 0) (fo := 4) H 2 rfl rfl rfl rfl rfl (fun _ => .inl ⟨B8 2 _ rfl _ rfl, nofun⟩) rfl ?_
  refine Ops.loadH (off := 4) (v := (vl size_spot.cs f.spots)) H 2 rfl rfl rfl rfl rfl (fun _ => .inl ⟨B8 2 _ rfl _ rfl, nofun⟩) rfl ?_
  refine Ops.move (v := (vi x7)) rfl rfl ?_
  refine Ops.int (m := x7) (m' := 1) (r := .int .i64 (w64 (x7 - 1))) rfl rfl rfl rfl rfl ?_
  obtain ⟨x8, q8, h⟩ := bind_some h
  refine Ops.indexP (c := size_spot.cs) (u := x8) rfl rfl q8 rfl rfl rfl rfl ?_
  refine Ops.fieldAddrP rfl rfl rfl rfl ?_
  refine Ops.loadP (u := (.int .i64 x8.index)) rfl rfl rfl rfl ?_
  refine Ops.loadH (off := 0) (v := (vi x6.1)) H 0 rfl rfl rfl rfl rfl (fun _ => .inl ⟨B8 0 _ rfl _ rfl, nofun⟩) rfl ?_
  refine Ops.fieldAddrH (off := 0) (fo := 0) H 2 rfl rfl rfl rfl rfl (fun _ => .inl ⟨B8 2 _ rfl _ rfl, nofun⟩) rfl ?_
  refine Ops.fieldAddrH (off := 0) (fo := 1) H 2 rfl rfl rfl rfl rfl (fun _ => .inl ⟨B8 2 _ rfl _ rfl, nofun⟩) rfl ?_
  refine Ops.loadH (off := 1) (v := (vi f.Form.Count)) H 2 rfl rfl rfl rfl rfl (fun _ => .inl ⟨B8 2 _ rfl _ rfl, nofun⟩) rfl ?_
  refine Ops.int (m := x6.1) (m' := f.Form.Count) (r := .int .i64 (w64 (x6.1 * f.Form.Count))) rfl rfl rfl rfl rfl ?_
  refine Ops.int (m := x8.index) (m' := (w64 (x6.1 * f.Form.Count))) (r := .int .i64 (w64 (x8.index + (w64 (x6.1 * f.Form.Count))))) rfl rfl rfl rfl rfl ?_
  refine Ops.assign (v := (vi (w64 (x8.index + (w64 (x6.1 * f.Form.Count)))))) rfl rfl ?_
  apply Ops.nil
  replace H := H.all
  apply Runs.ret
  replace h := Option.some.inj h; subst h
  exact (Ends.H (xs := [(vi (w64 (x8.index + (w64 (x6.1 * f.Form.Count)))))]) (.inr rfl) H (.tmp (v := (vi (w64 (x8.index + (w64 (x6.1 * f.Form.Count)))))) rfl .nil) (.one (.c (.v _))))

set_option maxRecDepth 100000 in
set_option maxHeartbeats 4000000 in
theorem size_form_odd_1_fn {g : Granule} {i : Int} {r : Int} (h : size_form_odd_1 g i = r) : Fn CX 130 [(.agg (vs (Granule.cs g))), (vi i)] (vi r) := by
 refine Fn.ends Try.func130 rfl rfl rfl rfl rfl rfl ?_
 have H : Hs (⟨0, fun _ => .none⟩ : Heap) [] := Has.nil (Nat.le_refl _)
 generalize (⟨0, fun _ => .none⟩ : Heap) = σ at H ⊢
 unfold size_form_odd_1 at h
 apply Runs.then
 refine Runs.regionH 2 rfl H ?_; intro b1 σ H
 refine Ops.boxH (v := (.agg [(vi g.Index), (vl Span.cs g.Ticks)])) (cs := [(vi g.Index), (vl Span.cs g.Ticks)]) H (by omega) (by omega) rfl rfl rfl ?_; intro σ H
 refine Ops.assign (v := (vi 0)) rfl rfl ?_
 apply Ops.nil
 replace H := H.all
 apply Runs.then
 refine Runs.regionH 5 rfl H ?_; intro b2 σ H
 refine Ops.fieldAddrH (off := 0) (fo := 0) H 0 rfl rfl rfl rfl rfl nofun rfl ?_
 refine Ops.loadH (off := 0) (v := (vi g.Index)) H 0 rfl rfl rfl rfl rfl nofun rfl ?_
 refine Ops.move (v := (vi i)) rfl rfl ?_
 refine Ops.call (ys := [(vi g.Index), (vi i)]) (r := (vi (cmp_Compare_int g.Index i))) rfl (cmp_Compare_int_fn rfl) rfl ?_
 refine Ops.assign (v := (vi (cmp_Compare_int g.Index i))) rfl rfl ?_
 apply Ops.nil
 replace H := H.all
 apply Runs.ret
 subst h
 exact (Ends.H (xs := [(vi (cmp_Compare_int g.Index i))]) (.inr rfl) H (.tmp (v := (vi (cmp_Compare_int g.Index i))) rfl .nil) (.one (.c (.v _))))

set_option maxRecDepth 100000 in
set_option maxHeartbeats 4000000 in
theorem size_form_odd_fn {f : size_form} {i : Int} {r : Int} (h : size_form_odd f i = some r) : Fn CX 112 [(.agg (vs (size_form.cs f))), (vi i)] (vi r) := by
 refine Fn.ends Try.func112 rfl rfl rfl rfl rfl rfl ?_
 have H : Hs (⟨0, fun _ => .none⟩ : Heap) [] := Has.nil (Nat.le_refl _)
 generalize (⟨0, fun _ => .none⟩ : Heap) = σ at H ⊢
 unfold size_form_odd at h
 apply Runs.then
 refine Runs.regionH 2 rfl H ?_; intro b1 σ H
 refine Ops.boxH (v := (.agg [(vi f.Form.Period), (vi f.Form.Count), (vl (cL Span.cs) f.Form.Core), (vl Granule.cs f.Form.Odd), (vl size_spot.cs f.spots)])) (cs := [(vi f.Form.Period), (vi f.Form.Count), (vl (cL Span.cs) f.Form.Core), (vl Granule.cs f.Form.Odd), (vl size_spot.cs f.spots)]) H (by omega) (by omega) rfl rfl rfl ?_; intro σ H
 refine Ops.assign (v := (vi 0)) rfl rfl ?_
 apply Ops.nil
 replace H := H.all
 apply Runs.then
 refine Runs.regionH 10 rfl H ?_; intro b2 σ H
 refine Ops.fieldAddrH (off := 0) (fo := 0) H 0 rfl rfl rfl rfl rfl nofun rfl ?_
 refine Ops.fieldAddrH (off := 0) (fo := 3) H 0 rfl rfl rfl rfl rfl nofun rfl ?_
 refine Ops.loadH (off := 3) (v := (vl Granule.cs f.Form.Odd)) H 0 rfl rfl rfl rfl rfl nofun rfl ?_
 refine Ops.move (v := (vi i)) rfl rfl ?_
 obtain ⟨x1, q1, h⟩ := bind_some h
 refine Ops.callH (ys := [(vl Granule.cs f.Form.Odd), (vi i), (.v (.fn 130))]) (r := (.tup [(vi x1.1), (vb x1.2)])) H rfl (slices_BinarySearchFunc_SGranule_Granule_int_fn (C := []) rfl (fun _ => rfl) (fun z0 z1 y hz => (CloH.fn (Fn.toH (size_form_odd_1_fn (Option.some.inj hz)) _))) q1) .nil nofun rfl ?_; intro σ H
 refine Ops.move (v := (.tup [(vi x1.1), (vb x1.2)])) rfl rfl ?_
 refine Ops.extract (v := (vi x1.1)) rfl rfl rfl ?_
 refine Ops.extract (v := (vb x1.2)) rfl rfl rfl ?_
 refine Ops.assign (v := (vi x1.1)) rfl rfl ?_
 refine Ops.assign (v := (vb x1.2)) rfl rfl ?_
 apply Ops.nil
 replace H := H.all
 apply Runs.then
 apply Runs.then
 refine Runs.regionH 2 rfl H ?_; intro b3 σ H
 refine Ops.move (v := (vb x1.2)) rfl rfl ?_
 refine Ops.not (b := x1.2) rfl rfl ?_
 apply Ops.nil
 replace H := H.all
 refine Runs.whether (v := (!x1.2)) rfl ?_ ?_ <;> intro hc1
 ·replace h := cond_T hc1 h
  apply Runs.then
  refine Runs.regionH 1 rfl H ?_; intro b4 σ H
  refine Ops.assign (v := (vi (-1))) rfl rfl ?_
  apply Ops.nil
  replace H := H.all
  apply Runs.ret
  replace h := Option.some.inj h; subst h
  exact (Ends.H (xs := [(vi (-1))]) (.inr rfl) H (.tmp (v := (vi (-1))) rfl .nil) (.one (.c (.v _))))
 ·replace h := cond_F hc1 h
  apply Runs.skip
  apply Runs.then
  refine Runs.regionH 2 rfl H ?_; intro b5 σ H
  refine Ops.move (v := (vi x1.1)) rfl rfl ?_
  refine Ops.assign (v := (vi x1.1)) rfl rfl ?_
  apply Ops.nil
  replace H := H.all
  apply Runs.ret
  replace h := Option.some.inj h; subst h
  exact (Ends.H (xs := [(vi x1.1)]) (.inr rfl) H (.tmp (v := (vi x1.1)) rfl .nil) (.one (.c (.v _))))

set_option maxRecDepth 100000 in
set_option maxHeartbeats 4000000 in
theorem size_form_has_fn {f : size_form} {i : Int} {r : Bool} (h : size_form_has f i = some r) : Fn CX 115 [(.agg (vs (size_form.cs f))), (vi i)] (vb r) := by
 refine Fn.ends Try.func115 rfl rfl rfl rfl rfl rfl ?_
 have H : Hs (⟨0, fun _ => .none⟩ : Heap) [] := Has.nil (Nat.le_refl _)
 generalize (⟨0, fun _ => .none⟩ : Heap) = σ at H ⊢
 unfold size_form_has at h
 apply Runs.then
 refine Runs.regionH 2 rfl H ?_; intro b1 σ H
 refine Ops.boxH (v := (.agg [(vi f.Form.Period), (vi f.Form.Count), (vl (cL Span.cs) f.Form.Core), (vl Granule.cs f.Form.Odd), (vl size_spot.cs f.spots)])) (cs := [(vi f.Form.Period), (vi f.Form.Count), (vl (cL Span.cs) f.Form.Core), (vl Granule.cs f.Form.Odd), (vl size_spot.cs f.spots)]) H (by omega) (by omega) rfl rfl rfl ?_; intro σ H
 refine Ops.assign (v := (vb false)) rfl rfl ?_
 apply Ops.nil
 replace H := H.all
 apply Runs.then
 refine Runs.regionH 12 rfl H ?_; intro b2 σ H
 refine Ops.move (v := (vi i)) rfl rfl ?_
 refine Ops.fieldAddrH (off := 0) (fo := 0) H 0 rfl rfl rfl rfl rfl nofun rfl ?_
 refine Ops.fieldAddrH (off := 0) (fo := 1) H 0 rfl rfl rfl rfl rfl nofun rfl ?_
 refine Ops.loadH (off := 1) (v := (vi f.Form.Count)) H 0 rfl rfl rfl rfl rfl nofun rfl ?_
 obtain ⟨x1, q1, h⟩ := bind_some h
 refine Ops.call (ys := [(vi i), (vi f.Form.Count)]) (r := (.tup [(vi x1.1), (vi x1.2.1), (vi x1.2.2)])) rfl (safe_Floor_fn q1) rfl ?_
 refine Ops.move (v := (.tup [(vi x1.1), (vi x1.2.1), (vi x1.2.2)])) rfl rfl ?_
 refine Ops.extract (v := (vi x1.1)) rfl rfl rfl ?_
 refine Ops.extract (v := (vi x1.2.1)) rfl rfl rfl ?_
 refine Ops.extract (v := (vi x1.2.2)) rfl rfl rfl ?_
 refine Ops.assign (v := (vi x1.1)) rfl rfl ?_
 refine Ops.assign (v := (vi x1.2.1)) rfl rfl ?_
 refine Ops.assign (v := (vi x1.2.2)) rfl rfl ?_
 apply Ops.nil
 replace H := H.all
 apply Runs.then
 refine Runs.regionH 9 rfl H ?_; intro b3 σ H
 refine Ops.fieldAddrH (off := 0) (fo := 0) H 0 rfl rfl rfl rfl rfl nofun rfl ?_
 refine Ops.fieldAddrH (off := 0) (fo := 2) H 0 rfl rfl rfl rfl rfl nofun rfl ?_
 refine Ops.loadH (off := 2) (v := (vl (cL Span.cs) f.Form.Core)) H 0 rfl rfl rfl rfl rfl nofun rfl ?_
 refine Ops.move (v := (vi x1.2.1)) rfl rfl ?_
 obtain ⟨x2, q2, h⟩ := bind_some h
 refine Ops.indexP (c := (cL Span.cs)) (u := x2) rfl rfl q2 rfl rfl rfl rfl ?_
 refine Ops.loadP (u := (.sl (x2.map Span.cs))) rfl rfl rfl rfl ?_
 refine Ops.lenPt (c := Span.cs) (xs := x2) rfl rfl rfl ?_
 refine Ops.int (m := (x2.length : Int)) (m' := 0) (r := .bool (decide ((x2.length : Int) > 0))) rfl rfl rfl rfl rfl ?_
 refine Ops.assign (v := (vb (decide ((x2.length : Int) > 0)))) rfl rfl ?_
 apply Ops.nil
 replace H := H.all
 apply Runs.ret
 replace h := Option.some.inj h; subst h
 exact (Ends.H (xs := [(vb (decide ((x2.length : Int) > 0)))]) (.inr rfl) H (.tmp (v := (vb (decide ((x2.length : Int) > 0)))) rfl .nil) (.one (.c (.v _))))

set_option maxRecDepth 100000 in
set_option maxHeartbeats 4000000 in
theorem size_form_reach_fn {f : size_form} {t : Int} {up : Bool} {r : Int × Bool} (h : size_form_reach f t up = some r) : Fn CX 90 [(.agg (vs (size_form.cs f))), (vi t), (vb up)] (.tup [(vi r.1), (vb r.2)]) := by
 refine Fn.ends Try.func90 rfl rfl rfl rfl rfl rfl ?_
 have H : Hs (⟨0, fun _ => .none⟩ : Heap) [] := Has.nil (Nat.le_refl _)
 generalize (⟨0, fun _ => .none⟩ : Heap) = σ at H ⊢
 unfold size_form_reach at h
 apply Runs.then
 refine Runs.regionH 3 rfl H ?_; intro b1 σ H
 refine Ops.boxH (v := (.agg [(vi f.Form.Period), (vi f.Form.Count), (vl (cL Span.cs) f.Form.Core), (vl Granule.cs f.Form.Odd), (vl size_spot.cs f.spots)])) (cs := [(vi f.Form.Period), (vi f.Form.Count), (vl (cL Span.cs) f.Form.Core), (vl Granule.cs f.Form.Odd), (vl size_spot.cs f.spots)]) H (by omega) (by omega) rfl rfl rfl ?_; intro σ H
 refine Ops.assign (v := (vi 0)) rfl rfl ?_
 refine Ops.assign (v := (vb false)) rfl rfl ?_
 apply Ops.nil
 replace H := H.all
 apply Runs.then
 refine Runs.regionH 1 rfl H ?_; intro b2 σ H
 refine Ops.allocH (cs := [(vi 0), (vb false)]) H (by omega) (by omega) rfl rfl ?_; intro σ H
 apply Ops.nil
 replace H := H.all
 apply Runs.then
 refine Runs.regionH 1 rfl H ?_; intro b3 σ H
 refine Ops.assign (v := (vi (-1))) rfl rfl ?_
 apply Ops.nil
 replace H := H.all
 apply Runs.then
 obtain ⟨y1, hj1, h⟩ := bind_some h
 refine Runs.mono (Q := fun x e σ => x = .normal ∧ EnvHas e [(1, (vi t)), (2, (vb up)), (3, (.ptr (b1 + 0) 5 0)), (8, (.ptr (b2 + 0) 2 0)), (9, (vi y1))] ∧ Hs σ [.blk (b2 + 0) 119 [(vi 0), (vb false)], .blk (b1 + 0) 96 [(vi f.Form.Period), (vi f.Form.Count), (vl (cL Span.cs) f.Form.Core), (vl Granule.cs f.Form.Odd), (vl size_spot.cs f.spots)]]) ?_ ?_
 ·replace h := hj1
  apply Runs.then
  refine Runs.regionH 1 rfl H ?_; intro b4 σ H
  refine Ops.move (v := (vb up)) rfl rfl ?_
  apply Ops.nil
  replace H := H.all
  refine Runs.whether (v := up) rfl ?_ ?_ <;> intro hc1
  ·replace h := cond_T hc1 h
   refine Runs.regionH 1 rfl H ?_; intro b5 σ H
   refine Ops.assign (v := (vi 1)) rfl rfl ?_
   apply Ops.nil
   replace H := H.all
   replace h := Option.some.inj h; subst h
   exact ⟨rfl, ⟨rfl, rfl, rfl, rfl, rfl, trivial⟩, H⟩
  ·replace h := cond_F hc1 h
   apply Runs.skip
   replace h := Option.some.inj h; subst h
   exact ⟨rfl, ⟨rfl, rfl, rfl, rfl, rfl, trivial⟩, H⟩
 ·rintro x e σ ⟨rfl, he, H⟩
  obtain ⟨e, rfl⟩ := he.ex
  apply Runs.then
  obtain ⟨y2, hj2, h⟩ := bind_some h
  refine Runs.mono (Q := fun x e σ => x = .normal ∧ EnvHas e [(1, (vi t)), (2, (vb up)), (3, (.ptr (b1 + 0) 5 0)), (8, (.ptr (b2 + 0) 2 0)), (9, (vi y1))] ∧ Hs σ [.blk (b2 + 0) 119 [(vi y2.1), (vb y2.2)], .blk (b1 + 0) 96 [(vi f.Form.Period), (vi f.Form.Count), (vl (cL Span.cs) f.Form.Core), (vl Granule.cs f.Form.Odd), (vl size_spot.cs f.spots)]]) ?_ ?_
  ·replace h := hj2
   apply Runs.then
   refine Runs.regionH 4 rfl H ?_; intro b6 σ H
   refine Ops.fieldAddrH (off := 0) (fo := 0) H 1 rfl rfl rfl rfl rfl nofun rfl ?_
   refine Ops.fieldAddrH (off := 0) (fo := 1) H 1 rfl rfl rfl rfl rfl nofun rfl ?_
   refine Ops.loadH (off := 1) (v := (vi f.Form.Count)) H 1 rfl rfl rfl rfl rfl nofun rfl ?_
   refine Ops.int (m := f.Form.Count) (m' := 0) (r := .bool (decide (f.Form.Count > 0))) rfl rfl rfl rfl rfl ?_
   apply Ops.nil
   replace H := H.all
   refine Runs.whether (v := (decide (f.Form.Count > 0))) rfl ?_ ?_ <;> intro hc2
   ·replace h := cond_T hc2 h
    apply Runs.then
    refine Runs.regionH 5 rfl H ?_; intro b7 σ H
    refine Ops.loadHA (off := 0) (cs := [(vi f.Form.Period), (vi f.Form.Count), (vl (cL Span.cs) f.Form.Core), (vl Granule.cs f.Form.Odd), (vl size_spot.cs f.spots)]) H 1 rfl rfl rfl rfl rfl rfl rfl nofun rfl ?_
    refine Ops.move (v := (vi t)) rfl rfl ?_
    refine Ops.move (v := (vb up)) rfl rfl ?_
    obtain ⟨x1, q1, h⟩ := bind_some h
    refine Ops.call (ys := [(.agg [(vi f.Form.Period), (vi f.Form.Count), (vl (cL Span.cs) f.Form.Core), (vl Granule.cs f.Form.Odd), (vl size_spot.cs f.spots)]), (vi t), (vb up)]) (r := (vi x1)) rfl (size_form_core_fn q1) rfl ?_
    refine Ops.assign (v := (vi x1)) rfl rfl ?_
    apply Ops.nil
    replace H := H.all
    apply Runs.then
    apply Runs.inBlock
    obtain ⟨y3, hj3, h⟩ := bind_some h
    obtain ⟨n1, hj3⟩ := loopO_iff.1 hj3
    refine Runs.mono (Runs.loopO hj3 (fun s1 e σ => EnvHas e [(1, (vi t)), (2, (vb up)), (3, (.ptr (b1 + 0) 5 0)), (8, (.ptr (b2 + 0) 2 0)), (9, (vi y1)), (10, (vi s1))] ∧ Hs σ [.blk (b2 + 0) 119 [(vi 0), (vb false)], .blk (b1 + 0) 96 [(vi f.Form.Period), (vi f.Form.Count), (vl (cL Span.cs) f.Form.Core), (vl Granule.cs f.Form.Odd), (vl size_spot.cs f.spots)]]) (fun y3 x e σ => x = .exit 0 ∧ EnvHas e [(1, (vi t)), (2, (vb up)), (3, (.ptr (b1 + 0) 5 0)), (8, (.ptr (b2 + 0) 2 0)), (9, (vi y1)), (10, (vi y3))] ∧ Hs σ [.blk (b2 + 0) 119 [(vi 0), (vb false)], .blk (b1 + 0) 96 [(vi f.Form.Period), (vi f.Form.Count), (vl (cL Span.cs) f.Form.Core), (vl Granule.cs f.Form.Odd), (vl size_spot.cs f.spots)]]) ⟨⟨rfl, rfl, rfl, rfl, rfl, rfl, trivial⟩, H⟩ ?_) ?_
    ·intro s1 e σ hI z h
     obtain ⟨he, H⟩ := hI
     obtain ⟨e, rfl⟩ := he.ex
     unfold size_form_reach.s0 at h
     apply Runs.then
     apply Runs.then
     refine Runs.regionH 10 rfl H ?_; intro b8 σ H
     refine Ops.loadHA (off := 0) (cs := [(vi f.Form.Period), (vi f.Form.Count), (vl (cL Span.cs) f.Form.Core), (vl Granule.cs f.Form.Odd), (vl size_spot.cs f.spots)]) H 1 rfl rfl rfl rfl rfl rfl rfl nofun rfl ?_
     refine Ops.move (v := (vi s1)) rfl rfl ?_
     obtain ⟨x2, q2, h⟩ := bind_some h
     refine Ops.call (ys := [(.agg [(vi f.Form.Period), (vi f.Form.Count), (vl (cL Span.cs) f.Form.Core), (vl Granule.cs f.Form.Odd), (vl size_spot.cs f.spots)]), (vi s1)]) (r := (vi x2)) rfl (size_form_odd_fn q2) rfl ?_
     refine Ops.int (m := x2) (m' := 0) (r := .bool (decide (x2 ≥ 0))) rfl rfl rfl rfl rfl ?_
     refine Ops.move (v := (vb (decide (x2 ≥ 0)))) rfl rfl ?_
     obtain ⟨y4, hj4, h⟩ := bind_some h
     refine Ops.mid 5 (K1 := fun e σ => EnvHas e [(33, (vb y4)), (1, (vi t)), (2, (vb up)), (3, (.ptr (b1 + 0) 5 0)), (8, (.ptr (b2 + 0) 2 0)), (9, (vi y1)), (10, (vi s1))] ∧ Has σ (b8 + 10) (b8 + 10) [.blk (b2 + 0) 119 [(vi 0), (vb false)], .blk (b1 + 0) 96 [(vi f.Form.Period), (vi f.Form.Count), (vl (cL Span.cs) f.Form.Core), (vl Granule.cs f.Form.Odd), (vl size_spot.cs f.spots)]]) rfl ?_ ?_
     ·refine Ops.split rfl rfl ?_ ?_ <;> intro hc3
      ·replace h := cond_T hc3 hj4
       refine Ops.pass rfl rfl rfl ?_
       refine Ops.pass rfl rfl rfl ?_
       refine Ops.pass rfl rfl rfl ?_
       refine Ops.pass rfl rfl rfl ?_
       refine Ops.pickT (v := (vb true)) rfl rfl rfl ?_
       apply Ops.nil
       replace h := Option.some.inj h; subst h
       exact ⟨⟨rfl, rfl, rfl, rfl, rfl, rfl, rfl, trivial⟩, H.weak (by omega) (Nat.le_refl _)⟩
      ·replace h := cond_F hc3 hj4
       refine Ops.wanted rfl rfl ?_
       refine Ops.loadHA (off := 0) (cs := [(vi f.Form.Period), (vi f.Form.Count), (vl (cL Span.cs) f.Form.Core), (vl Granule.cs f.Form.Odd), (vl size_spot.cs f.spots)]) H 1 rfl rfl rfl rfl rfl rfl rfl nofun rfl ?_
       refine Ops.wanted rfl rfl ?_
       refine Ops.move (v := (vi s1)) rfl rfl ?_
       refine Ops.wanted rfl rfl ?_
       obtain ⟨x3, q3, h⟩ := bind_some h
       refine Ops.call (ys := [(.agg [(vi f.Form.Period), (vi f.Form.Count), (vl (cL Span.cs) f.Form.Core), (vl Granule.cs f.Form.Odd), (vl size_spot.cs f.spots)]), (vi s1)]) (r := (vb x3)) rfl (size_form_has_fn q3) rfl ?_
       refine Ops.wanted rfl rfl ?_
       refine Ops.not (b := x3) rfl rfl ?_
       refine Ops.pickF (v := (vb (!x3))) rfl rfl rfl ?_
       apply Ops.nil
       replace h := Option.some.inj h; subst h
       exact ⟨⟨rfl, rfl, rfl, rfl, rfl, rfl, rfl, trivial⟩, H.weak (by omega) (Nat.le_refl _)⟩
     ·rintro e σ ⟨he, H⟩
      obtain ⟨e, rfl⟩ := he.ex
      apply Ops.nil
      replace H := H.all
      refine Runs.whether (v := y4) rfl ?_ ?_ <;> intro hc4
      ·replace h := cond_T hc4 h
       apply Runs.skip
       apply Runs.inBlock
       refine Runs.regionH 4 rfl H ?_; intro b9 σ H
       refine Ops.move (v := (vi s1)) rfl rfl ?_
       refine Ops.move (v := (vi y1)) rfl rfl ?_
       refine Ops.int (m := s1) (m' := y1) (r := .int .i64 (w64 (s1 + y1))) rfl rfl rfl rfl rfl ?_
       refine Ops.assign (v := (vi (w64 (s1 + y1)))) rfl rfl ?_
       apply Ops.nil
       replace H := H.all
       replace h := Option.some.inj h; subst h
       exact ⟨rfl, ⟨rfl, rfl, rfl, rfl, rfl, rfl, trivial⟩, H⟩
      ·replace h := cond_F hc4 h
       apply Runs.exit
       replace h := Option.some.inj h; subst h
       exact ⟨nofun, ⟨rfl, ⟨rfl, rfl, rfl, rfl, rfl, rfl, trivial⟩, H⟩⟩
    ·rintro x e σ ⟨rfl, he, H⟩
     obtain ⟨e, rfl⟩ := he.ex
     refine Runs.regionH 6 rfl H ?_; intro b10 σ H
     refine Ops.move (v := (vi y1)) rfl rfl ?_
     refine Ops.neg (m := y1) rfl rfl ?_
     refine Ops.move (v := (vi y3)) rfl rfl ?_
     refine Ops.int (m := (w64 (0 - y1))) (m' := y3) (r := .int .i64 (w64 ((w64 (0 - y1)) * y3))) rfl rfl rfl rfl rfl ?_
     refine Ops.buildS (sz := 1) ([(w64 ((w64 (0 - y1)) * y3))].map (cI .i64)) H (by omega) (by omega) rfl rfl rfl rfl rfl rfl rfl rfl rfl ?_; intro σ H
     obtain ⟨y5, hj5, h⟩ := bind_some h
     refine Ops.callI (PostA := fun r A => r = (.tup []) ∧ A = [.sl (.buf (b10 + 4) 1 1) 3 1 (y5.1.map (cI .i64)) true, .blk (b2 + 0) 119 [(vi y5.2.1), (vb y5.2.2)], .blk (b1 + 0) 96 [(vi f.Form.Period), (vi f.Form.Count), (vl (cL Span.cs) f.Form.Core), (vl Granule.cs f.Form.Odd), (vl size_spot.cs f.spots)]]) (cv := (.v (.fn 86))) (ys := [(.ptr (b2 + 0) 2 0), (.buf (b10 + 4) 1 1)]) (L := []) [.sl (.buf (b10 + 4) 1 1) 3 1 ([(w64 ((w64 (0 - y1)) * y3))].map (cI .i64)) true, .blk (b2 + 0) 119 [(vi 0), (vb false)], .blk (b1 + 0) 96 [(vi f.Form.Period), (vi f.Form.Count), (vl (cL Span.cs) f.Form.Core), (vl Granule.cs f.Form.Odd), (vl size_spot.cs f.spots)]] H rfl rfl (fun T1 hT H => callI_of Try.func86 rfl (fun _ => rfl) rfl rfl rfl rfl ?_) nofun rfl ?_
     ·replace h := hj5
      apply Runs.then
      refine Runs.regionH 3 rfl H ?_; intro b11 σ H
      refine Ops.move (v := (.buf (b10 + 4) 1 1)) rfl rfl ?_
      refine Ops.lenSt (c := (cI .i64)) (xs := [(w64 ((w64 (0 - y1)) * y3))]) H 0 rfl rfl rfl nofun rfl ?_
      refine Ops.move (v := (vi 0)) rfl rfl ?_
      apply Ops.nil
      replace H := H.all
      apply Runs.inBlock
      obtain ⟨y6, hj6, h⟩ := bind_some h
      obtain ⟨n2, hj6⟩ := loopO_iff.1 hj6
      refine Runs.mono (Runs.loopO hj6 (fun s2 e σ => EnvHas e [(0, (.ptr (b2 + 0) 2 0)), (6, (.buf (b10 + 4) 1 1)), (7, (vi s2.1)), (8, (vi s2.2.1))] ∧ Hs σ (.sl (.buf (b10 + 4) 1 1) 3 1 (s2.2.2.1.map (cI .i64)) true :: .blk (b2 + 0) 119 [(vi s2.2.2.2.1), (vb s2.2.2.2.2)] :: .blk (b1 + 0) 96 [(vi f.Form.Period), (vi f.Form.Count), (vl (cL Span.cs) f.Form.Core), (vl Granule.cs f.Form.Odd), (vl size_spot.cs f.spots)] :: T1)) (fun y6 x e σ => x = .exit 0 ∧ EnvHas e [] ∧ Hs σ (.sl (.buf (b10 + 4) 1 1) 3 1 (y6.1.map (cI .i64)) true :: .blk (b2 + 0) 119 [(vi y6.2.1), (vb y6.2.2)] :: .blk (b1 + 0) 96 [(vi f.Form.Period), (vi f.Form.Count), (vl (cL Span.cs) f.Form.Core), (vl Granule.cs f.Form.Odd), (vl size_spot.cs f.spots)] :: T1)) ⟨⟨rfl, rfl, rfl, rfl, trivial⟩, H⟩ ?_) ?_
      ·intro s2 e σ hI z h
       obtain ⟨he, H⟩ := hI
       obtain ⟨e, rfl⟩ := he.ex
       unfold size_form_reach.s1 at h
       apply Runs.then
       refine Runs.regionH 1 rfl H ?_; intro b12 σ H
       refine Ops.int (m := s2.2.1) (m' := s2.1) (r := .bool (decide (s2.2.1 < s2.1))) rfl rfl rfl rfl rfl ?_
       apply Ops.nil
       replace H := H.all
       apply Runs.then
       refine Runs.whether (v := (decide (s2.2.1 < s2.1))) rfl ?_ ?_ <;> intro hc5
       ·replace h := cond_T hc5 h
        apply Runs.skip
        apply Runs.then
        obtain ⟨y7, hj7, h⟩ := bind_some h
        refine Runs.mono (Q := fun x e σ => x = .normal ∧ EnvHas e [(0, (.ptr (b2 + 0) 2 0)), (6, (.buf (b10 + 4) 1 1)), (7, (vi s2.1)), (8, (vi s2.2.1))] ∧ Hs σ (.sl (.buf (b10 + 4) 1 1) 3 1 (s2.2.2.1.map (cI .i64)) true :: .blk (b2 + 0) 119 [(vi y7.1), (vb y7.2)] :: .blk (b1 + 0) 96 [(vi f.Form.Period), (vi f.Form.Count), (vl (cL Span.cs) f.Form.Core), (vl Granule.cs f.Form.Odd), (vl size_spot.cs f.spots)] :: T1)) ?_ ?_
        ·replace h := hj7
         apply Runs.inBlock
         obtain ⟨y8, hj8, h⟩ := bind_some h
         refine Runs.mono (Q := fun x e σ => x = .normal ∧ EnvHas e [(0, (.ptr (b2 + 0) 2 0)), (6, (.buf (b10 + 4) 1 1)), (7, (vi s2.1)), (8, (vi s2.2.1))] ∧ Hs σ (.sl (.buf (b10 + 4) 1 1) 3 1 (s2.2.2.1.map (cI .i64)) true :: .blk (b2 + 0) 119 [(vi y8.1), (vb y8.2)] :: .blk (b1 + 0) 96 [(vi f.Form.Period), (vi f.Form.Count), (vl (cL Span.cs) f.Form.Core), (vl Granule.cs f.Form.Odd), (vl size_spot.cs f.spots)] :: T1)) ?_ ?_
         ·replace h := hj8
          apply Runs.then
          refine Runs.regionH 3 rfl H ?_; intro b13 σ H
          obtain ⟨x4, q4, h⟩ := bind_some h
          refine Ops.indexS H 0 rfl rfl rfl (at?_map q4) rfl rfl nofun rfl ?_; intro id1 hv1
          refine Ops.loadS (id := id1) (j := 0) (w := (.int .i64 x4)) H 0 rfl hv1 (by simp) (at?_map q4) rfl (by simp) rfl rfl rfl nofun rfl ?_
          refine Ops.assign (v := (vi x4)) rfl rfl ?_
          apply Ops.nil
          replace H := H.all
          apply Runs.then
          refine Runs.regionH 13 rfl H ?_; intro b14 σ H
          refine Ops.move (v := (.ptr (b2 + 0) 2 0)) rfl rfl ?_
          refine Ops.nilCheckH (off := 0) H 1 rfl rfl rfl nofun rfl ?_
          refine Ops.fieldAddrH (off := 0) (fo := 1) H 1 rfl rfl rfl rfl rfl nofun rfl ?_
          refine Ops.loadH (off := 1) (v := (vb s2.2.2.2.2)) H 1 rfl rfl rfl rfl rfl nofun rfl ?_
          refine Ops.not (b := s2.2.2.2.2) rfl rfl ?_
          refine Ops.move (v := (vb (!s2.2.2.2.2))) rfl rfl ?_
          refine Ops.mid 7 (K1 := fun e σ => EnvHas e [(24, (vb ((!s2.2.2.2.2) || (decide (x4 > s2.2.2.2.1))))), (0, (.ptr (b2 + 0) 2 0)), (5, (vi x4)), (6, (.buf (b10 + 4) 1 1)), (7, (vi s2.1)), (8, (vi s2.2.1))] ∧ Has σ (b14 + 13) (b14 + 13) (.sl (.buf (b10 + 4) 1 1) 3 1 (s2.2.2.1.map (cI .i64)) true :: .blk (b2 + 0) 119 [(vi s2.2.2.2.1), (vb s2.2.2.2.2)] :: .blk (b1 + 0) 96 [(vi f.Form.Period), (vi f.Form.Count), (vl (cL Span.cs) f.Form.Core), (vl Granule.cs f.Form.Odd), (vl size_spot.cs f.spots)] :: T1)) rfl ?_ ?_
          ·refine Ops.split rfl rfl ?_ ?_ <;> intro hc6
           ·skip
            refine Ops.pass rfl rfl rfl ?_
            refine Ops.pass rfl rfl rfl ?_
            refine Ops.pass rfl rfl rfl ?_
            refine Ops.pass rfl rfl rfl ?_
            refine Ops.pass rfl rfl rfl ?_
            refine Ops.pass rfl rfl rfl ?_
            refine Ops.pickT (v := (vb true)) rfl rfl rfl ?_
            apply Ops.nil
            exact ⟨⟨or_T hc6, rfl, rfl, rfl, rfl, rfl, trivial⟩, H.weak (by omega) (Nat.le_refl _)⟩
           ·skip
            refine Ops.wanted rfl rfl ?_
            refine Ops.move (v := (vi x4)) rfl rfl ?_
            refine Ops.wanted rfl rfl ?_
            refine Ops.move (v := (.ptr (b2 + 0) 2 0)) rfl rfl ?_
            refine Ops.wanted rfl rfl ?_
            refine Ops.nilCheckH (off := 0) H 1 rfl rfl rfl nofun rfl ?_
            refine Ops.wanted rfl rfl ?_
            refine Ops.fieldAddrH (off := 0) (fo := 0) H 1 rfl rfl rfl rfl rfl nofun rfl ?_
            refine Ops.wanted rfl rfl ?_
            refine Ops.loadH (off := 0) (v := (vi s2.2.2.2.1)) H 1 rfl rfl rfl rfl rfl nofun rfl ?_
            refine Ops.wanted rfl rfl ?_
            refine Ops.int (m := x4) (m' := s2.2.2.2.1) (r := .bool (decide (x4 > s2.2.2.2.1))) rfl rfl rfl rfl rfl ?_
            refine Ops.pickF (v := (vb (decide (x4 > s2.2.2.2.1)))) rfl rfl rfl ?_
            apply Ops.nil
            exact ⟨⟨or_F hc6, rfl, rfl, rfl, rfl, rfl, trivial⟩, H.weak (by omega) (Nat.le_refl _)⟩
          ·rintro e σ ⟨he, H⟩
           obtain ⟨e, rfl⟩ := he.ex
           apply Ops.nil
           replace H := H.all
           refine Runs.whether (v := ((!s2.2.2.2.2) || (decide (x4 > s2.2.2.2.1)))) rfl ?_ ?_ <;> intro hc7
           ·replace h := cond_T hc7 h
            refine Runs.regionH 9 rfl H ?_; intro b15 σ H
            refine Ops.move (v := (.ptr (b2 + 0) 2 0)) rfl rfl ?_
            refine Ops.move (v := (.ptr (b2 + 0) 2 0)) rfl rfl ?_
            refine Ops.move (v := (vi x4)) rfl rfl ?_
            refine Ops.nilCheckH (off := 0) H 1 rfl rfl rfl nofun rfl ?_
            refine Ops.fieldAddrH (off := 0) (fo := 0) H 1 rfl rfl rfl rfl rfl nofun rfl ?_
            refine Ops.storeH (off := 0) (v := (vi x4)) (ys := [(vi x4)]) (cells' := [(vi x4), (vb s2.2.2.2.2)]) H 1 rfl rfl rfl rfl rfl rfl rfl rfl rfl nofun ?_; intro σ H
            refine Ops.nilCheckH (off := 0) H 1 rfl rfl rfl nofun rfl ?_
            refine Ops.fieldAddrH (off := 0) (fo := 1) H 1 rfl rfl rfl rfl rfl nofun rfl ?_
            refine Ops.storeH (off := 1) (v := (vb true)) (ys := [(vb true)]) (cells' := [(vi x4), (vb true)]) H 1 rfl rfl rfl rfl rfl rfl rfl rfl rfl nofun ?_; intro σ H
            apply Ops.nil
            replace H := H.all
            replace h := Option.some.inj h; subst h
            exact ⟨rfl, ⟨rfl, rfl, rfl, rfl, trivial⟩, H⟩
           ·replace h := cond_F hc7 h
            apply Runs.skip
            replace h := Option.some.inj h; subst h
            exact ⟨rfl, ⟨rfl, rfl, rfl, rfl, trivial⟩, H⟩
         ·rintro x e σ ⟨rfl, he, H⟩
          obtain ⟨e, rfl⟩ := he.ex
          replace h := Option.some.inj h; subst h
          exact ⟨rfl, ⟨rfl, rfl, rfl, rfl, trivial⟩, H⟩
        ·rintro x e σ ⟨rfl, he, H⟩
         obtain ⟨e, rfl⟩ := he.ex
         refine Runs.regionH 2 rfl H ?_; intro b16 σ H
         refine Ops.int (m := s2.2.1) (m' := 1) (r := .int .i64 (w64 (s2.2.1 + 1))) rfl rfl rfl rfl rfl ?_
         refine Ops.move (v := (vi (w64 (s2.2.1 + 1)))) rfl rfl ?_
         apply Ops.nil
         replace H := H.all
         replace h := Option.some.inj h; subst h
         exact ⟨rfl, ⟨rfl, rfl, rfl, rfl, trivial⟩, H⟩
       ·replace h := cond_F hc5 h
        apply Runs.exit
        replace h := Option.some.inj h; subst h
        exact ⟨nofun, ⟨rfl, trivial, H⟩⟩
      ·rintro x e σ ⟨rfl, he, H⟩
       obtain ⟨e, rfl⟩ := he.ex
       replace h := Option.some.inj h; subst h
       exact ⟨.inl rfl, _, resD_ok H .nil, _, ⟨rfl, rfl⟩, H⟩
     ·rintro _ _ σ ⟨rfl, rfl⟩ H
      apply Ops.nil
      replace H := H.all
      replace h := Option.some.inj h; subst h
      exact ⟨rfl, ⟨rfl, rfl, rfl, rfl, rfl, trivial⟩, (H.erase 0)⟩
   ·replace h := cond_F hc2 h
    apply Runs.skip
    replace h := Option.some.inj h; subst h
    exact ⟨rfl, ⟨rfl, rfl, rfl, rfl, rfl, trivial⟩, H⟩
  ·rintro x e σ ⟨rfl, he, H⟩
   obtain ⟨e, rfl⟩ := he.ex
   apply Runs.then
   apply Runs.then
   refine Runs.regionH 5 rfl H ?_; intro b17 σ H
   refine Ops.fieldAddrH (off := 0) (fo := 0) H 1 rfl rfl rfl rfl rfl nofun rfl ?_
   refine Ops.fieldAddrH (off := 0) (fo := 3) H 1 rfl rfl rfl rfl rfl nofun rfl ?_
   refine Ops.loadH (off := 3) (v := (vl Granule.cs f.Form.Odd)) H 1 rfl rfl rfl rfl rfl nofun rfl ?_
   refine Ops.lenPt (c := Granule.cs) (xs := f.Form.Odd) rfl rfl rfl ?_
   refine Ops.move (v := (vi 0)) rfl rfl ?_
   apply Ops.nil
   replace H := H.all
   apply Runs.inBlock
   obtain ⟨y9, hj9, h⟩ := bind_some h
   obtain ⟨n3, hj9⟩ := loopO_iff.1 hj9
   refine Runs.mono (Runs.loopO hj9 (fun s3 e σ => EnvHas e [(1, (vi t)), (2, (vb up)), (8, (.ptr (b2 + 0) 2 0)), (9, (vi y1)), (45, (vl Granule.cs f.Form.Odd)), (46, (vi (f.Form.Odd.length : Int))), (47, (vi s3.1))] ∧ Hs σ [.blk (b2 + 0) 119 [(vi s3.2.1), (vb s3.2.2)]]) (fun y9 x e σ => x = .exit 2 ∧ EnvHas e [(8, (.ptr (b2 + 0) 2 0)), (9, (vi y1))] ∧ Hs σ [.blk (b2 + 0) 119 [(vi y9.1), (vb y9.2)]]) ⟨⟨rfl, rfl, rfl, rfl, rfl, rfl, rfl, trivial⟩, (H.erase 1)⟩ ?_) ?_
   ·intro s3 e σ hI z h
    obtain ⟨he, H⟩ := hI
    obtain ⟨e, rfl⟩ := he.ex
    unfold size_form_reach.s2 at h
    apply Runs.then
    refine Runs.regionH 1 rfl H ?_; intro b18 σ H
    refine Ops.int (m := s3.1) (m' := (f.Form.Odd.length : Int)) (r := .bool (decide (s3.1 < (f.Form.Odd.length : Int)))) rfl rfl rfl rfl rfl ?_
    apply Ops.nil
    replace H := H.all
    apply Runs.then
    refine Runs.whether (v := (decide (s3.1 < (f.Form.Odd.length : Int)))) rfl ?_ ?_ <;> intro hc8
    ·replace h := cond_T hc8 h
     apply Runs.skip
     apply Runs.then
     obtain ⟨y10, hj10, h⟩ := bind_some h
     refine Runs.mono (Q := fun x e σ => x = .normal ∧ EnvHas e [(1, (vi t)), (2, (vb up)), (8, (.ptr (b2 + 0) 2 0)), (9, (vi y1)), (45, (vl Granule.cs f.Form.Odd)), (46, (vi (f.Form.Odd.length : Int))), (47, (vi s3.1))] ∧ Hs σ [.blk (b2 + 0) 119 [(vi y10.1), (vb y10.2)]]) ?_ ?_
     ·replace h := hj10
      apply Runs.inBlock
      obtain ⟨y11, hj11, h⟩ := bind_some h
      refine Runs.mono (Q := fun x e σ => x = .normal ∧ EnvHas e [(1, (vi t)), (2, (vb up)), (8, (.ptr (b2 + 0) 2 0)), (9, (vi y1)), (45, (vl Granule.cs f.Form.Odd)), (46, (vi (f.Form.Odd.length : Int))), (47, (vi s3.1))] ∧ Hs σ [.blk (b2 + 0) 119 [(vi y11.1), (vb y11.2)]]) ?_ ?_
      ·replace h := hj11
       apply Runs.then
       refine Runs.regionH 4 rfl H ?_; intro b19 σ H
       obtain ⟨x5, q5, h⟩ := bind_some h
       refine Ops.indexP (c := Granule.cs) (u := x5) rfl rfl q5 rfl rfl rfl rfl ?_
       refine Ops.loadPA (cs := [(.int .i64 x5.Index), (.sl (x5.Ticks.map Span.cs))]) rfl rfl rfl rfl rfl rfl ?_
       refine Ops.allocH (cs := [(vi 0), .nils]) H (by omega) (by omega) rfl rfl ?_; intro σ H
       refine Ops.storeH (off := 0) (v := (.agg [(vi x5.Index), (vl Span.cs x5.Ticks)])) (ys := [(vi x5.Index), (vl Span.cs x5.Ticks)]) (cells' := [(vi x5.Index), (vl Span.cs x5.Ticks)]) H 0 rfl rfl rfl rfl rfl rfl rfl rfl rfl nofun ?_; intro σ H
       apply Ops.nil
       replace H := H.all
       apply Runs.then
       refine Runs.regionH 9 rfl H ?_; intro b20 σ H
       refine Ops.fieldAddrH (off := 0) (fo := 1) H 0 rfl rfl rfl rfl rfl nofun rfl ?_
       refine Ops.loadH (off := 1) (v := (vl Span.cs x5.Ticks)) H 0 rfl rfl rfl rfl rfl nofun rfl ?_
       obtain ⟨x6, q6, h⟩ := bind_some h
       refine Ops.call (ys := [(vl Span.cs x5.Ticks)]) (r := (.tup [(.agg [(vi x6.1.From), (vi x6.1.To)]), (vb x6.2)])) rfl (spans_Hull_fn q6) rfl ?_
       refine Ops.move (v := (.tup [(.agg [(vi x6.1.From), (vi x6.1.To)]), (vb x6.2)])) rfl rfl ?_
       refine Ops.extract (v := (.agg [(vi x6.1.From), (vi x6.1.To)])) rfl rfl rfl ?_
       refine Ops.extract (v := (vb x6.2)) rfl rfl rfl ?_
       refine Ops.allocH (cs := [(vi 0), (vi 0)]) H (by omega) (by omega) rfl rfl ?_; intro σ H
       refine Ops.storeH (off := 0) (v := (.agg [(vi x6.1.From), (vi x6.1.To)])) (ys := [(vi x6.1.From), (vi x6.1.To)]) (cells' := [(vi x6.1.From), (vi x6.1.To)]) H 0 rfl rfl rfl rfl rfl rfl rfl rfl rfl nofun ?_; intro σ H
       refine Ops.assign (v := (vb x6.2)) rfl rfl ?_
       apply Ops.nil
       replace H := H.all
       apply Runs.then
       refine Runs.regionH 20 rfl H ?_; intro b21 σ H
       refine Ops.move (v := (vb x6.2)) rfl rfl ?_
       refine Ops.move (v := (vb x6.2)) rfl rfl ?_
       refine Ops.mid 18 (K1 := fun e σ => EnvHas e [(76, (vb (x6.2 && ((up && (decide (x6.1.To ≥ t))) || ((!up) && (decide (x6.1.From ≤ t))))))), (1, (vi t)), (2, (vb up)), (8, (.ptr (b2 + 0) 2 0)), (9, (vi y1)), (12, (.ptr (b19 + 2) 2 0)), (45, (vl Granule.cs f.Form.Odd)), (46, (vi (f.Form.Odd.length : Int))), (47, (vi s3.1))] ∧ Has σ (b21 + 20) (b21 + 20) [.blk (b19 + 2) 76 [(vi x5.Index), (vl Span.cs x5.Ticks)], .blk (b2 + 0) 119 [(vi s3.2.1), (vb s3.2.2)]]) rfl ?_ ?_
       ·refine Ops.split rfl rfl ?_ ?_ <;> intro hc9
        ·skip
         refine Ops.wanted rfl rfl ?_
         refine Ops.move (v := (vb up)) rfl rfl ?_
         refine Ops.wanted rfl rfl ?_
         refine Ops.move (v := (vb up)) rfl rfl ?_
         refine Ops.mid 5 (K1 := fun e σ => EnvHas e [(65, (vb (up && (decide (x6.1.To ≥ t))))), (1, (vi t)), (2, (vb up)), (8, (.ptr (b2 + 0) 2 0)), (9, (vi y1)), (12, (.ptr (b19 + 2) 2 0)), (13, (.ptr (b20 + 6) 2 0)), (45, (vl Granule.cs f.Form.Odd)), (46, (vi (f.Form.Odd.length : Int))), (47, (vi s3.1)), (58, (vb true))] ∧ Has σ (b21 + 9) (b21 + 20) [.blk (b20 + 6) 43 [(vi x6.1.From), (vi x6.1.To)], .blk (b19 + 2) 76 [(vi x5.Index), (vl Span.cs x5.Ticks)], .blk (b2 + 0) 119 [(vi s3.2.1), (vb s3.2.2)]]) rfl ?_ ?_
         ·refine Ops.split rfl rfl ?_ ?_ <;> intro hc10
          ·skip
           refine Ops.wanted rfl rfl ?_
           refine Ops.fieldAddrH (off := 0) (fo := 1) H 0 rfl rfl rfl rfl rfl nofun rfl ?_
           refine Ops.wanted rfl rfl ?_
           refine Ops.loadH (off := 1) (v := (vi x6.1.To)) H 0 rfl rfl rfl rfl rfl nofun rfl ?_
           refine Ops.wanted rfl rfl ?_
           refine Ops.move (v := (vi t)) rfl rfl ?_
           refine Ops.wanted rfl rfl ?_
           refine Ops.int (m := x6.1.To) (m' := t) (r := .bool (decide (x6.1.To ≥ t))) rfl rfl rfl rfl rfl ?_
           refine Ops.wanted rfl rfl ?_
           refine Ops.pickT (v := (vb (decide (x6.1.To ≥ t)))) rfl rfl rfl ?_
           apply Ops.nil
           exact ⟨⟨and_T hc10, rfl, rfl, rfl, rfl, rfl, rfl, rfl, rfl, rfl, rfl, trivial⟩, H.weak (by omega) (Nat.le_refl _)⟩
          ·skip
           refine Ops.pass rfl rfl rfl ?_
           refine Ops.pass rfl rfl rfl ?_
           refine Ops.pass rfl rfl rfl ?_
           refine Ops.pass rfl rfl rfl ?_
           refine Ops.wanted rfl rfl ?_
           refine Ops.pickF (v := (vb false)) rfl rfl rfl ?_
           apply Ops.nil
           exact ⟨⟨and_F hc10, rfl, rfl, rfl, rfl, rfl, rfl, rfl, rfl, rfl, rfl, trivial⟩, H.weak (by omega) (Nat.le_refl _)⟩
         ·rintro e σ ⟨he, H⟩
          obtain ⟨e, rfl⟩ := he.ex
          refine Ops.wanted rfl rfl ?_
          refine Ops.move (v := (vb (up && (decide (x6.1.To ≥ t))))) rfl rfl ?_
          refine Ops.mid 9 (K1 := fun e σ => EnvHas e [(75, (vb ((up && (decide (x6.1.To ≥ t))) || ((!up) && (decide (x6.1.From ≤ t)))))), (1, (vi t)), (2, (vb up)), (8, (.ptr (b2 + 0) 2 0)), (9, (vi y1)), (12, (.ptr (b19 + 2) 2 0)), (45, (vl Granule.cs f.Form.Odd)), (46, (vi (f.Form.Odd.length : Int))), (47, (vi s3.1)), (58, (vb true))] ∧ Has σ (b21 + 19) (b21 + 20) [.blk (b19 + 2) 76 [(vi x5.Index), (vl Span.cs x5.Ticks)], .blk (b2 + 0) 119 [(vi s3.2.1), (vb s3.2.2)]]) rfl ?_ ?_
          ·refine Ops.split rfl rfl ?_ ?_ <;> intro hc11
           ·skip
            refine Ops.pass rfl rfl rfl ?_
            refine Ops.pass rfl rfl rfl ?_
            refine Ops.pass rfl rfl rfl ?_
            refine Ops.passU rfl rfl rfl ?_
            refine Ops.passU rfl rfl rfl ?_
            refine Ops.passU rfl rfl rfl ?_
            refine Ops.passU rfl rfl rfl ?_
            refine Ops.pass rfl rfl rfl ?_
            refine Ops.wanted rfl rfl ?_
            refine Ops.pickT (v := (vb true)) rfl rfl rfl ?_
            apply Ops.nil
            exact ⟨⟨or_T hc11, rfl, rfl, rfl, rfl, rfl, rfl, rfl, rfl, rfl, trivial⟩, (H.erase 0).weak (by omega) (Nat.le_refl _)⟩
           ·skip
            refine Ops.wanted rfl rfl ?_
            refine Ops.move (v := (vb up)) rfl rfl ?_
            refine Ops.wanted rfl rfl ?_
            refine Ops.not (b := up) rfl rfl ?_
            refine Ops.wanted rfl rfl ?_
            refine Ops.move (v := (vb (!up))) rfl rfl ?_
            refine Ops.mid 5 (K1 := fun e σ => EnvHas e [(74, (vb ((!up) && (decide (x6.1.From ≤ t))))), (1, (vi t)), (2, (vb up)), (8, (.ptr (b2 + 0) 2 0)), (9, (vi y1)), (12, (.ptr (b19 + 2) 2 0)), (45, (vl Granule.cs f.Form.Odd)), (46, (vi (f.Form.Odd.length : Int))), (47, (vi s3.1)), (58, (vb true)), (66, (vb false))] ∧ Has σ (b21 + 18) (b21 + 20) [.blk (b19 + 2) 76 [(vi x5.Index), (vl Span.cs x5.Ticks)], .blk (b2 + 0) 119 [(vi s3.2.1), (vb s3.2.2)]]) rfl ?_ ?_
            ·refine Ops.split rfl rfl ?_ ?_ <;> intro hc12
             ·skip
              refine Ops.wanted rfl rfl ?_
              refine Ops.fieldAddrH (off := 0) (fo := 0) H 0 rfl rfl rfl rfl rfl nofun rfl ?_
              refine Ops.wanted rfl rfl ?_
              refine Ops.loadH (off := 0) (v := (vi x6.1.From)) H 0 rfl rfl rfl rfl rfl nofun rfl ?_
              refine Ops.wanted rfl rfl ?_
              refine Ops.move (v := (vi t)) rfl rfl ?_
              refine Ops.wanted rfl rfl ?_
              refine Ops.int (m := x6.1.From) (m' := t) (r := .bool (decide (x6.1.From ≤ t))) rfl rfl rfl rfl rfl ?_
              refine Ops.wanted rfl rfl ?_
              refine Ops.pickT (v := (vb (decide (x6.1.From ≤ t)))) rfl rfl rfl ?_
              apply Ops.nil
              exact ⟨⟨and_T hc12, rfl, rfl, rfl, rfl, rfl, rfl, rfl, rfl, rfl, rfl, trivial⟩, (H.erase 0).weak (by omega) (Nat.le_refl _)⟩
             ·skip
              refine Ops.pass rfl rfl rfl ?_
              refine Ops.pass rfl rfl rfl ?_
              refine Ops.pass rfl rfl rfl ?_
              refine Ops.pass rfl rfl rfl ?_
              refine Ops.wanted rfl rfl ?_
              refine Ops.pickF (v := (vb false)) rfl rfl rfl ?_
              apply Ops.nil
              exact ⟨⟨and_F hc12, rfl, rfl, rfl, rfl, rfl, rfl, rfl, rfl, rfl, rfl, trivial⟩, (H.erase 0).weak (by omega) (Nat.le_refl _)⟩
            ·rintro e σ ⟨he, H⟩
             obtain ⟨e, rfl⟩ := he.ex
             refine Ops.wanted rfl rfl ?_
             refine Ops.pickF (v := (vb ((!up) && (decide (x6.1.From ≤ t))))) rfl rfl rfl ?_
             apply Ops.nil
             exact ⟨⟨or_F hc11, rfl, rfl, rfl, rfl, rfl, rfl, rfl, rfl, rfl, trivial⟩, H.weak (by omega) (Nat.le_refl _)⟩
          ·rintro e σ ⟨he, H⟩
           obtain ⟨e, rfl⟩ := he.ex
           refine Ops.pickT (v := (vb ((up && (decide (x6.1.To ≥ t))) || ((!up) && (decide (x6.1.From ≤ t)))))) rfl rfl rfl ?_
           apply Ops.nil
           exact ⟨⟨and_T hc9, rfl, rfl, rfl, rfl, rfl, rfl, rfl, rfl, trivial⟩, H.weak (by omega) (Nat.le_refl _)⟩
        ·skip
         refine Ops.pass rfl rfl rfl ?_
         refine Ops.pass rfl rfl rfl ?_
         refine Ops.passU rfl rfl rfl ?_
         refine Ops.passU rfl rfl rfl ?_
         refine Ops.passU rfl rfl rfl ?_
         refine Ops.passU rfl rfl rfl ?_
         refine Ops.pass rfl rfl rfl ?_
         refine Ops.pass rfl rfl rfl ?_
         refine Ops.passU rfl rfl rfl ?_
         refine Ops.passU rfl rfl rfl ?_
         refine Ops.passU rfl rfl rfl ?_
         refine Ops.passU rfl rfl rfl ?_
         refine Ops.passU rfl rfl rfl ?_
         refine Ops.passU rfl rfl rfl ?_
         refine Ops.passU rfl rfl rfl ?_
         refine Ops.passU rfl rfl rfl ?_
         refine Ops.pass rfl rfl rfl ?_
         refine Ops.pickF (v := (vb false)) rfl rfl rfl ?_
         apply Ops.nil
         exact ⟨⟨and_F hc9, rfl, rfl, rfl, rfl, rfl, rfl, rfl, rfl, trivial⟩, (H.erase 0).weak (by omega) (Nat.le_refl _)⟩
       ·rintro e σ ⟨he, H⟩
        obtain ⟨e, rfl⟩ := he.ex
        apply Ops.nil
        replace H := H.all
        refine Runs.whether (v := (x6.2 && ((up && (decide (x6.1.To ≥ t))) || ((!up) && (decide (x6.1.From ≤ t)))))) rfl ?_ ?_ <;> intro hc13
        ·replace h := cond_T hc13 h
         refine Runs.regionH 7 rfl H ?_; intro b22 σ H
         refine Ops.move (v := (vi y1)) rfl rfl ?_
         refine Ops.neg (m := y1) rfl rfl ?_
         refine Ops.fieldAddrH (off := 0) (fo := 0) H 0 rfl rfl rfl rfl rfl nofun rfl ?_
         refine Ops.loadH (off := 0) (v := (vi x5.Index)) H 0 rfl rfl rfl rfl rfl nofun rfl ?_
         refine Ops.int (m := (w64 (0 - y1))) (m' := x5.Index) (r := .int .i64 (w64 ((w64 (0 - y1)) * x5.Index))) rfl rfl rfl rfl rfl ?_
         refine Ops.buildS (sz := 1) ([(w64 ((w64 (0 - y1)) * x5.Index))].map (cI .i64)) H (by omega) (by omega) rfl rfl rfl rfl rfl rfl rfl rfl rfl ?_; intro σ H
         obtain ⟨y12, hj12, h⟩ := bind_some h
         refine Ops.callI (PostA := fun r A => r = (.tup []) ∧ A = [.sl (.buf (b22 + 5) 1 1) 3 1 (y12.1.map (cI .i64)) true, .blk (b19 + 2) 76 [(vi x5.Index), (vl Span.cs x5.Ticks)], .blk (b2 + 0) 119 [(vi y12.2.1), (vb y12.2.2)]]) (cv := (.v (.fn 86))) (ys := [(.ptr (b2 + 0) 2 0), (.buf (b22 + 5) 1 1)]) (L := []) [.sl (.buf (b22 + 5) 1 1) 3 1 ([(w64 ((w64 (0 - y1)) * x5.Index))].map (cI .i64)) true, .blk (b19 + 2) 76 [(vi x5.Index), (vl Span.cs x5.Ticks)], .blk (b2 + 0) 119 [(vi s3.2.1), (vb s3.2.2)]] H rfl rfl (fun T2 hT H => callI_of Try.func86 rfl (fun _ => rfl) rfl rfl rfl rfl ?_) nofun rfl ?_
         ·replace h := hj12
          apply Runs.then
          refine Runs.regionH 3 rfl H ?_; intro b23 σ H
          refine Ops.move (v := (.buf (b22 + 5) 1 1)) rfl rfl ?_
          refine Ops.lenSt (c := (cI .i64)) (xs := [(w64 ((w64 (0 - y1)) * x5.Index))]) H 0 rfl rfl rfl nofun rfl ?_
          refine Ops.move (v := (vi 0)) rfl rfl ?_
          apply Ops.nil
          replace H := H.all
          apply Runs.inBlock
          obtain ⟨y13, hj13, h⟩ := bind_some h
          obtain ⟨n4, hj13⟩ := loopO_iff.1 hj13
          refine Runs.mono (Runs.loopO hj13 (fun s4 e σ => EnvHas e [(0, (.ptr (b2 + 0) 2 0)), (6, (.buf (b22 + 5) 1 1)), (7, (vi s4.1)), (8, (vi s4.2.1))] ∧ Hs σ (.sl (.buf (b22 + 5) 1 1) 3 1 (s4.2.2.1.map (cI .i64)) true :: .blk (b19 + 2) 76 [(vi x5.Index), (vl Span.cs x5.Ticks)] :: .blk (b2 + 0) 119 [(vi s4.2.2.2.1), (vb s4.2.2.2.2)] :: T2)) (fun y13 x e σ => x = .exit 0 ∧ EnvHas e [] ∧ Hs σ (.sl (.buf (b22 + 5) 1 1) 3 1 (y13.1.map (cI .i64)) true :: .blk (b19 + 2) 76 [(vi x5.Index), (vl Span.cs x5.Ticks)] :: .blk (b2 + 0) 119 [(vi y13.2.1), (vb y13.2.2)] :: T2)) ⟨⟨rfl, rfl, rfl, rfl, trivial⟩, H⟩ ?_) ?_
          ·intro s4 e σ hI z h
           obtain ⟨he, H⟩ := hI
           obtain ⟨e, rfl⟩ := he.ex
           unfold size_form_reach.s3 at h
           apply Runs.then
           refine Runs.regionH 1 rfl H ?_; intro b24 σ H
           refine Ops.int (m := s4.2.1) (m' := s4.1) (r := .bool (decide (s4.2.1 < s4.1))) rfl rfl rfl rfl rfl ?_
           apply Ops.nil
           replace H := H.all
           apply Runs.then
           refine Runs.whether (v := (decide (s4.2.1 < s4.1))) rfl ?_ ?_ <;> intro hc14
           ·replace h := cond_T hc14 h
            apply Runs.skip
            apply Runs.then
            obtain ⟨y14, hj14, h⟩ := bind_some h
            refine Runs.mono (Q := fun x e σ => x = .normal ∧ EnvHas e [(0, (.ptr (b2 + 0) 2 0)), (6, (.buf (b22 + 5) 1 1)), (7, (vi s4.1)), (8, (vi s4.2.1))] ∧ Hs σ (.sl (.buf (b22 + 5) 1 1) 3 1 (s4.2.2.1.map (cI .i64)) true :: .blk (b19 + 2) 76 [(vi x5.Index), (vl Span.cs x5.Ticks)] :: .blk (b2 + 0) 119 [(vi y14.1), (vb y14.2)] :: T2)) ?_ ?_
            ·replace h := hj14
             apply Runs.inBlock
             obtain ⟨y15, hj15, h⟩ := bind_some h
             refine Runs.mono (Q := fun x e σ => x = .normal ∧ EnvHas e [(0, (.ptr (b2 + 0) 2 0)), (6, (.buf (b22 + 5) 1 1)), (7, (vi s4.1)), (8, (vi s4.2.1))] ∧ Hs σ (.sl (.buf (b22 + 5) 1 1) 3 1 (s4.2.2.1.map (cI .i64)) true :: .blk (b19 + 2) 76 [(vi x5.Index), (vl Span.cs x5.Ticks)] :: .blk (b2 + 0) 119 [(vi y15.1), (vb y15.2)] :: T2)) ?_ ?_
             ·replace h := hj15
              apply Runs.then
              refine Runs.regionH 3 rfl H ?_; intro b25 σ H
              obtain ⟨x7, q7, h⟩ := bind_some h
              refine Ops.indexS H 0 rfl rfl rfl (at?_map q7) rfl rfl nofun rfl ?_; intro id2 hv2
              refine Ops.loadS (id := id2) (j := 0) (w := (.int .i64 x7)) H 0 rfl hv2 (by simp) (at?_map q7) rfl (by simp) rfl rfl rfl nofun rfl ?_
              refine Ops.assign (v := (vi x7)) rfl rfl ?_
              apply Ops.nil
              replace H := H.all
              apply Runs.then
              refine Runs.regionH 13 rfl H ?_; intro b26 σ H
              refine Ops.move (v := (.ptr (b2 + 0) 2 0)) rfl rfl ?_
              refine Ops.nilCheckH (off := 0) H 2 rfl rfl rfl nofun rfl ?_
              refine Ops.fieldAddrH (off := 0) (fo := 1) H 2 rfl rfl rfl rfl rfl nofun rfl ?_
              refine Ops.loadH (off := 1) (v := (vb s4.2.2.2.2)) H 2 rfl rfl rfl rfl rfl nofun rfl ?_
              refine Ops.not (b := s4.2.2.2.2) rfl rfl ?_
              refine Ops.move (v := (vb (!s4.2.2.2.2))) rfl rfl ?_
              refine Ops.mid 7 (K1 := fun e σ => EnvHas e [(24, (vb ((!s4.2.2.2.2) || (decide (x7 > s4.2.2.2.1))))), (0, (.ptr (b2 + 0) 2 0)), (5, (vi x7)), (6, (.buf (b22 + 5) 1 1)), (7, (vi s4.1)), (8, (vi s4.2.1))] ∧ Has σ (b26 + 13) (b26 + 13) (.sl (.buf (b22 + 5) 1 1) 3 1 (s4.2.2.1.map (cI .i64)) true :: .blk (b19 + 2) 76 [(vi x5.Index), (vl Span.cs x5.Ticks)] :: .blk (b2 + 0) 119 [(vi s4.2.2.2.1), (vb s4.2.2.2.2)] :: T2)) rfl ?_ ?_
              ·refine Ops.split rfl rfl ?_ ?_ <;> intro hc15
               ·skip
                refine Ops.pass rfl rfl rfl ?_
                refine Ops.pass rfl rfl rfl ?_
                refine Ops.pass rfl rfl rfl ?_
                refine Ops.pass rfl rfl rfl ?_
                refine Ops.pass rfl rfl rfl ?_
                refine Ops.pass rfl rfl rfl ?_
                refine Ops.pickT (v := (vb true)) rfl rfl rfl ?_
                apply Ops.nil
                exact ⟨⟨or_T hc15, rfl, rfl, rfl, rfl, rfl, trivial⟩, H.weak (by omega) (Nat.le_refl _)⟩
               ·skip
                refine Ops.wanted rfl rfl ?_
                refine Ops.move (v := (vi x7)) rfl rfl ?_
                refine Ops.wanted rfl rfl ?_
                refine Ops.move (v := (.ptr (b2 + 0) 2 0)) rfl rfl ?_
                refine Ops.wanted rfl rfl ?_
                refine Ops.nilCheckH (off := 0) H 2 rfl rfl rfl nofun rfl ?_
                refine Ops.wanted rfl rfl ?_
                refine Ops.fieldAddrH (off := 0) (fo := 0) H 2 rfl rfl rfl rfl rfl nofun rfl ?_
                refine Ops.wanted rfl rfl ?_
                refine Ops.loadH (off := 0) (v := (vi s4.2.2.2.1)) H 2 rfl rfl rfl rfl rfl nofun rfl ?_
                refine Ops.wanted rfl rfl ?_
                refine Ops.int (m := x7) (m' := s4.2.2.2.1) (r := .bool (decide (x7 > s4.2.2.2.1))) rfl rfl rfl rfl rfl ?_
                refine Ops.pickF (v := (vb (decide (x7 > s4.2.2.2.1)))) rfl rfl rfl ?_
                apply Ops.nil
                exact ⟨⟨or_F hc15, rfl, rfl, rfl, rfl, rfl, trivial⟩, H.weak (by omega) (Nat.le_refl _)⟩
              ·rintro e σ ⟨he, H⟩
               obtain ⟨e, rfl⟩ := he.ex
               apply Ops.nil
               replace H := H.all
               refine Runs.whether (v := ((!s4.2.2.2.2) || (decide (x7 > s4.2.2.2.1)))) rfl ?_ ?_ <;> intro hc16
               ·replace h := cond_T hc16 h
                refine Runs.regionH 9 rfl H ?_; intro b27 σ H
                refine Ops.move (v := (.ptr (b2 + 0) 2 0)) rfl rfl ?_
                refine Ops.move (v := (.ptr (b2 + 0) 2 0)) rfl rfl ?_
                refine Ops.move (v := (vi x7)) rfl rfl ?_
                refine Ops.nilCheckH (off := 0) H 2 rfl rfl rfl nofun rfl ?_
                refine Ops.fieldAddrH (off := 0) (fo := 0) H 2 rfl rfl rfl rfl rfl nofun rfl ?_
                refine Ops.storeH (off := 0) (v := (vi x7)) (ys := [(vi x7)]) (cells' := [(vi x7), (vb s4.2.2.2.2)]) H 2 rfl rfl rfl rfl rfl rfl rfl rfl rfl nofun ?_; intro σ H
                refine Ops.nilCheckH (off := 0) H 2 rfl rfl rfl nofun rfl ?_
                refine Ops.fieldAddrH (off := 0) (fo := 1) H 2 rfl rfl rfl rfl rfl nofun rfl ?_
                refine Ops.storeH (off := 1) (v := (vb true)) (ys := [(vb true)]) (cells' := [(vi x7), (vb true)]) H 2 rfl rfl rfl rfl rfl rfl rfl rfl rfl nofun ?_; intro σ H
                apply Ops.nil
                replace H := H.all
                replace h := Option.some.inj h; subst h
                exact ⟨rfl, ⟨rfl, rfl, rfl, rfl, trivial⟩, H⟩
               ·replace h := cond_F hc16 h
                apply Runs.skip
                replace h := Option.some.inj h; subst h
                exact ⟨rfl, ⟨rfl, rfl, rfl, rfl, trivial⟩, H⟩
             ·rintro x e σ ⟨rfl, he, H⟩
              obtain ⟨e, rfl⟩ := he.ex
              replace h := Option.some.inj h; subst h
              exact ⟨rfl, ⟨rfl, rfl, rfl, rfl, trivial⟩, H⟩
            ·rintro x e σ ⟨rfl, he, H⟩
             obtain ⟨e, rfl⟩ := he.ex
             refine Runs.regionH 2 rfl H ?_; intro b28 σ H
             refine Ops.int (m := s4.2.1) (m' := 1) (r := .int .i64 (w64 (s4.2.1 + 1))) rfl rfl rfl rfl rfl ?_
             refine Ops.move (v := (vi (w64 (s4.2.1 + 1)))) rfl rfl ?_
             apply Ops.nil
             replace H := H.all
             replace h := Option.some.inj h; subst h
             exact ⟨rfl, ⟨rfl, rfl, rfl, rfl, trivial⟩, H⟩
           ·replace h := cond_F hc14 h
            apply Runs.exit
            replace h := Option.some.inj h; subst h
            exact ⟨nofun, ⟨rfl, trivial, H⟩⟩
          ·rintro x e σ ⟨rfl, he, H⟩
           obtain ⟨e, rfl⟩ := he.ex
           replace h := Option.some.inj h; subst h
           exact ⟨.inl rfl, _, resD_ok H .nil, _, ⟨rfl, rfl⟩, H⟩
         ·rintro _ _ σ ⟨rfl, rfl⟩ H
          apply Ops.nil
          replace H := H.all
          replace h := Option.some.inj h; subst h
          exact ⟨rfl, ⟨rfl, rfl, rfl, rfl, rfl, rfl, rfl, trivial⟩, ((H.erase 1).erase 0)⟩
        ·replace h := cond_F hc13 h
         apply Runs.skip
         replace h := Option.some.inj h; subst h
         exact ⟨rfl, ⟨rfl, rfl, rfl, rfl, rfl, rfl, rfl, trivial⟩, (H.erase 0)⟩
      ·rintro x e σ ⟨rfl, he, H⟩
       obtain ⟨e, rfl⟩ := he.ex
       replace h := Option.some.inj h; subst h
       exact ⟨rfl, ⟨rfl, rfl, rfl, rfl, rfl, rfl, rfl, trivial⟩, H⟩
     ·rintro x e σ ⟨rfl, he, H⟩
      obtain ⟨e, rfl⟩ := he.ex
      refine Runs.regionH 2 rfl H ?_; intro b29 σ H
      refine Ops.int (m := s3.1) (m' := 1) (r := .int .i64 (w64 (s3.1 + 1))) rfl rfl rfl rfl rfl ?_
      refine Ops.move (v := (vi (w64 (s3.1 + 1)))) rfl rfl ?_
      apply Ops.nil
      replace H := H.all
      replace h := Option.some.inj h; subst h
      exact ⟨rfl, ⟨rfl, rfl, rfl, rfl, rfl, rfl, rfl, trivial⟩, H⟩
    ·replace h := cond_F hc8 h
     apply Runs.exit
     replace h := Option.some.inj h; subst h
     exact ⟨nofun, ⟨rfl, ⟨rfl, rfl, trivial⟩, H⟩⟩
   ·rintro x e σ ⟨rfl, he, H⟩
    obtain ⟨e, rfl⟩ := he.ex
    apply Runs.then
    refine Runs.drawnH 9 rfl (by kernel_rfl) H ?_; intro b30 σ H B30
    refine Ops.move (v := (vi y1)) rfl rfl ?_
    refine Ops.neg (m := y1) rfl rfl ?_
    refine Ops.fieldAddrH (off := 0) (fo := 0) H 0 rfl rfl rfl rfl rfl (fun _ => .inl ⟨B30 0 _ rfl _ rfl, nofun⟩) rfl ?_
    refine Ops.loadH (off := 0) (v := (vi y9.1)) H 0 rfl rfl rfl rfl rfl (fun _ => .inl ⟨B30 0 _ rfl _ rfl, nofun⟩) rfl ?_
    refine Ops.int (m := (w64 (0 - y1))) (m' := y9.1) (r := .int .i64 (w64 ((w64 (0 - y1)) * y9.1))) rfl rfl rfl rfl rfl ?_
    refine Ops.fieldAddrH (off := 0) (fo := 1) H 0 rfl rfl rfl rfl rfl (fun _ => .inl ⟨B30 0 _ rfl _ rfl, nofun⟩) rfl ?_
    refine Ops.loadH (off := 1) (v := (vb y9.2)) H 0 rfl rfl rfl rfl rfl (fun _ => .inl ⟨B30 0 _ rfl _ rfl, nofun⟩) rfl ?_
    refine Ops.assign (v := (vi (w64 ((w64 (0 - y1)) * y9.1)))) rfl rfl ?_
    refine Ops.assign (v := (vb y9.2)) rfl rfl ?_
    apply Ops.nil
    replace H := H.all
    apply Runs.ret
    replace h := Option.some.inj h; subst h
    exact (Ends.H (xs := [(vi (w64 ((w64 (0 - y1)) * y9.1))), (vb y9.2)]) (.inr rfl) H (.tmp (v := (vi (w64 ((w64 (0 - y1)) * y9.1)))) rfl (.tmp (v := (vb y9.2)) rfl .nil)) (.two (.cons (.c (.v _)) (.cons (.c (.v _)) .nil))))

end Go.Dn

set_option linter.unusedVariables false
set_option linter.unusedSimpArgs false
namespace Go.Dn
open Go Go.Proofs

set_option maxRecDepth 100000 in
set_option maxHeartbeats 4000000 in
theorem size_far_fn {g : Form} {d : Int} {up : Bool} {r : Int × Bool × Int} (h : size_far g d up = some r) : Fn CX 62 [(.agg (vs (Form.cs g))), (vi d), (vb up)] (.tup [(vi r.1), (vb r.2.1), (vi r.2.2)]) := by
 refine Fn.ends Try.func62 rfl rfl rfl rfl rfl rfl ?_
 have H : Hs (⟨0, fun _ => .none⟩ : Heap) [] := Has.nil (Nat.le_refl _)
 generalize (⟨0, fun _ => .none⟩ : Heap) = σ at H ⊢
 unfold size_far at h
 apply Runs.then
 refine Runs.regionH 4 rfl H ?_; intro b1 σ H
 refine Ops.boxH (v := (.agg [(vi g.Period), (vi g.Count), (vl (cL Span.cs) g.Core), (vl Granule.cs g.Odd)])) (cs := [(vi g.Period), (vi g.Count), (vl (cL Span.cs) g.Core), (vl Granule.cs g.Odd)]) H (by omega) (by omega) rfl rfl rfl ?_; intro σ H
 refine Ops.assign (v := (vi 0)) rfl rfl ?_
 refine Ops.assign (v := (vb false)) rfl rfl ?_
 refine Ops.assign (v := (vi 0)) rfl rfl ?_
 apply Ops.nil
 replace H := H.all
 apply Runs.then
 apply Runs.then
 refine Runs.regionH 3 rfl H ?_; intro b2 σ H
 refine Ops.move (v := (vi d)) rfl rfl ?_
 refine Ops.call (ys := [(vi d)]) (r := (vb (size_inRange d))) rfl (size_inRange_fn rfl) rfl ?_
 refine Ops.not (b := (size_inRange d)) rfl rfl ?_
 apply Ops.nil
 replace H := H.all
 refine Runs.whether (v := (!(size_inRange d))) rfl ?_ ?_ <;> intro hc1
 ·replace h := cond_T hc1 h
  apply Runs.then
  refine Runs.regionH 3 rfl H ?_; intro b3 σ H
  refine Ops.assign (v := (vi 0)) rfl rfl ?_
  refine Ops.assign (v := (vb false)) rfl rfl ?_
  refine Ops.assign (v := (vi 2)) rfl rfl ?_
  apply Ops.nil
  replace H := H.all
  apply Runs.ret
  replace h := Option.some.inj h; subst h
  exact (Ends.H (xs := [(vi 0), (vb false), (vi 2)]) (.inr rfl) H (.tmp (v := (vi 0)) rfl (.tmp (v := (vb false)) rfl (.tmp (v := (vi 2)) rfl .nil))) (.two (.cons (.c (.v _)) (.cons (.c (.v _)) (.cons (.c (.v _)) .nil)))))
 ·replace h := cond_F hc1 h
  apply Runs.skip
  apply Runs.then
  refine Runs.regionH 4 rfl H ?_; intro b4 σ H
  refine Ops.loadHA (off := 0) (cs := [(vi g.Period), (vi g.Count), (vl (cL Span.cs) g.Core), (vl Granule.cs g.Odd)]) H 0 rfl rfl rfl rfl rfl rfl rfl nofun rfl ?_
  obtain ⟨x1, q1, h⟩ := bind_some h
  refine Ops.call (ys := [(.agg [(vi g.Period), (vi g.Count), (vl (cL Span.cs) g.Core), (vl Granule.cs g.Odd)])]) (r := (.agg [(vi x1.Form.Period), (vi x1.Form.Count), (vl (cL Span.cs) x1.Form.Core), (vl Granule.cs x1.Form.Odd), (vl size_spot.cs x1.spots)])) rfl (size_made_fn q1) rfl ?_
  refine Ops.allocH (cs := [(vi 0), (vi 0), .nils, .nils, .nils]) H (by omega) (by omega) rfl rfl ?_; intro σ H
  refine Ops.storeH (off := 0) (v := (.agg [(vi x1.Form.Period), (vi x1.Form.Count), (vl (cL Span.cs) x1.Form.Core), (vl Granule.cs x1.Form.Odd), (vl size_spot.cs x1.spots)])) (ys := [(vi x1.Form.Period), (vi x1.Form.Count), (vl (cL Span.cs) x1.Form.Core), (vl Granule.cs x1.Form.Odd), (vl size_spot.cs x1.spots)]) (cells' := [(vi x1.Form.Period), (vi x1.Form.Count), (vl (cL Span.cs) x1.Form.Core), (vl Granule.cs x1.Form.Odd), (vl size_spot.cs x1.spots)]) H 0 rfl rfl rfl rfl rfl rfl rfl rfl rfl nofun ?_; intro σ H
  apply Ops.nil
  replace H := H.all
  apply Runs.then
  refine Runs.regionH 1 rfl H ?_; intro b5 σ H
  refine Ops.assign (v := (vi 1)) rfl rfl ?_
  apply Ops.nil
  replace H := H.all
  apply Runs.then
  obtain ⟨y1, hj1, h⟩ := bind_some h
  refine Runs.mono (Q := fun x e σ => x = .normal ∧ EnvHas e [(1, (vi d)), (2, (vb up)), (9, (.ptr (b4 + 2) 5 0)), (10, (vi y1))] ∧ Hs σ [.blk (b4 + 2) 96 [(vi x1.Form.Period), (vi x1.Form.Count), (vl (cL Span.cs) x1.Form.Core), (vl Granule.cs x1.Form.Odd), (vl size_spot.cs x1.spots)]]) ?_ ?_
  ·replace h := hj1
   apply Runs.then
   refine Runs.regionH 1 rfl H ?_; intro b6 σ H
   refine Ops.move (v := (vb up)) rfl rfl ?_
   apply Ops.nil
   replace H := H.all
   refine Runs.whether (v := up) rfl ?_ ?_ <;> intro hc2
   ·replace h := cond_T hc2 h
    refine Runs.regionH 1 rfl H ?_; intro b7 σ H
    refine Ops.assign (v := (vi (-1))) rfl rfl ?_
    apply Ops.nil
    replace H := H.all
    replace h := Option.some.inj h; subst h
    exact ⟨rfl, ⟨rfl, rfl, rfl, rfl, trivial⟩, (H.erase 1)⟩
   ·replace h := cond_F hc2 h
    apply Runs.skip
    replace h := Option.some.inj h; subst h
    exact ⟨rfl, ⟨rfl, rfl, rfl, rfl, trivial⟩, (H.erase 1)⟩
  ·rintro x e σ ⟨rfl, he, H⟩
   obtain ⟨e, rfl⟩ := he.ex
   apply Runs.then
   refine Runs.regionH 1 rfl H ?_; intro b8 σ H
   refine Ops.allocH (cs := [(vi 0), (vb false)]) H (by omega) (by omega) rfl rfl ?_; intro σ H
   apply Ops.nil
   replace H := H.all
   apply Runs.then
   apply Runs.then
   refine Runs.regionH 4 rfl H ?_; intro b9 σ H
   refine Ops.fieldAddrH (off := 0) (fo := 4) H 1 rfl rfl rfl rfl rfl nofun rfl ?_
   refine Ops.loadH (off := 4) (v := (vl size_spot.cs x1.spots)) H 1 rfl rfl rfl rfl rfl nofun rfl ?_
   refine Ops.lenPt (c := size_spot.cs) (xs := x1.spots) rfl rfl rfl ?_
   refine Ops.move (v := (vi 0)) rfl rfl ?_
   apply Ops.nil
   replace H := H.all
   apply Runs.inBlock
   obtain ⟨y2, hj2, h⟩ := bind_some h
   obtain ⟨n1, hj2⟩ := loopO_iff.1 hj2
   refine Runs.mono (Runs.loopO hj2 (fun s1 e σ => EnvHas e [(1, (vi d)), (2, (vb up)), (9, (.ptr (b4 + 2) 5 0)), (10, (vi y1)), (11, (.ptr (b8 + 0) 2 0)), (32, (vl size_spot.cs x1.spots)), (33, (vi (x1.spots.length : Int))), (34, (vi s1.1))] ∧ Hs σ [.blk (b8 + 0) 119 [(vi s1.2.1), (vb s1.2.2)], .blk (b4 + 2) 96 [(vi x1.Form.Period), (vi x1.Form.Count), (vl (cL Span.cs) x1.Form.Core), (vl Granule.cs x1.Form.Odd), (vl size_spot.cs x1.spots)]]) (fun y2 x e σ => x = .exit 0 ∧ EnvHas e [(1, (vi d)), (2, (vb up)), (9, (.ptr (b4 + 2) 5 0)), (10, (vi y1)), (11, (.ptr (b8 + 0) 2 0))] ∧ Hs σ [.blk (b8 + 0) 119 [(vi y2.1), (vb y2.2)], .blk (b4 + 2) 96 [(vi x1.Form.Period), (vi x1.Form.Count), (vl (cL Span.cs) x1.Form.Core), (vl Granule.cs x1.Form.Odd), (vl size_spot.cs x1.spots)]]) ⟨⟨rfl, rfl, rfl, rfl, rfl, rfl, rfl, rfl, trivial⟩, H⟩ ?_) ?_
   ·intro s1 e σ hI z h
    obtain ⟨he, H⟩ := hI
    obtain ⟨e, rfl⟩ := he.ex
    unfold size_far.s0 at h
    apply Runs.then
    refine Runs.regionH 1 rfl H ?_; intro b10 σ H
    refine Ops.int (m := s1.1) (m' := (x1.spots.length : Int)) (r := .bool (decide (s1.1 < (x1.spots.length : Int)))) rfl rfl rfl rfl rfl ?_
    apply Ops.nil
    replace H := H.all
    apply Runs.then
    refine Runs.whether (v := (decide (s1.1 < (x1.spots.length : Int)))) rfl ?_ ?_ <;> intro hc3
    ·replace h := cond_T hc3 h
     apply Runs.skip
     apply Runs.then
     obtain ⟨y3, hj3, h⟩ := bind_some h
     refine Runs.mono (Q := fun x e σ => x = .normal ∧ EnvHas e [(1, (vi d)), (2, (vb up)), (9, (.ptr (b4 + 2) 5 0)), (10, (vi y1)), (11, (.ptr (b8 + 0) 2 0)), (32, (vl size_spot.cs x1.spots)), (33, (vi (x1.spots.length : Int))), (34, (vi s1.1))] ∧ Hs σ [.blk (b8 + 0) 119 [(vi y3.1), (vb y3.2)], .blk (b4 + 2) 96 [(vi x1.Form.Period), (vi x1.Form.Count), (vl (cL Span.cs) x1.Form.Core), (vl Granule.cs x1.Form.Odd), (vl size_spot.cs x1.spots)]]) ?_ ?_
     ·replace h := hj3
      apply Runs.inBlock
      obtain ⟨y4, hj4, h⟩ := bind_some h
      refine Runs.mono (Q := fun x e σ => x = .normal ∧ EnvHas e [(1, (vi d)), (2, (vb up)), (9, (.ptr (b4 + 2) 5 0)), (10, (vi y1)), (11, (.ptr (b8 + 0) 2 0)), (32, (vl size_spot.cs x1.spots)), (33, (vi (x1.spots.length : Int))), (34, (vi s1.1))] ∧ Hs σ [.blk (b8 + 0) 119 [(vi y4.1), (vb y4.2)], .blk (b4 + 2) 96 [(vi x1.Form.Period), (vi x1.Form.Count), (vl (cL Span.cs) x1.Form.Core), (vl Granule.cs x1.Form.Odd), (vl size_spot.cs x1.spots)]]) ?_ ?_
      ·replace h := hj4
       apply Runs.then
       refine Runs.regionH 4 rfl H ?_; intro b11 σ H
       obtain ⟨x2, q2, h⟩ := bind_some h
       refine Ops.indexP (c := size_spot.cs) (u := x2) rfl rfl q2 rfl rfl rfl rfl ?_
       refine Ops.loadPA (cs := [(.int .i64 x2.index), (.int .i64 x2.place.first), (.int .i64 x2.place.last)]) rfl rfl rfl rfl rfl rfl ?_
       refine Ops.allocH (cs := [(vi 0), (vi 0), (vi 0)]) H (by omega) (by omega) rfl rfl ?_; intro σ H
       refine Ops.storeH (off := 0) (v := (.agg [(vi x2.index), (vi x2.place.first), (vi x2.place.last)])) (ys := [(vi x2.index), (vi x2.place.first), (vi x2.place.last)]) (cells' := [(vi x2.index), (vi x2.place.first), (vi x2.place.last)]) H 0 rfl rfl rfl rfl rfl rfl rfl rfl rfl nofun ?_; intro σ H
       apply Ops.nil
       replace H := H.all
       apply Runs.then
       refine Runs.regionH 4 rfl H ?_; intro b12 σ H
       refine Ops.fieldAddrH (off := 0) (fo := 1) H 0 rfl rfl rfl rfl rfl nofun rfl ?_
       refine Ops.fieldAddrH (off := 1) (fo := 1) H 0 rfl rfl rfl rfl rfl nofun rfl ?_
       refine Ops.loadH (off := 2) (v := (vi x2.place.last)) H 0 rfl rfl rfl rfl rfl nofun rfl ?_
       refine Ops.assign (v := (vi x2.place.last)) rfl rfl ?_
       apply Ops.nil
       replace H := H.all
       apply Runs.then
       obtain ⟨y5, hj5, h⟩ := bind_some h
       refine Runs.mono (Q := fun x e σ => x = .normal ∧ EnvHas e [(1, (vi d)), (2, (vb up)), (9, (.ptr (b4 + 2) 5 0)), (10, (vi y1)), (11, (.ptr (b8 + 0) 2 0)), (13, (.ptr (b11 + 2) 3 0)), (14, (vi y5)), (32, (vl size_spot.cs x1.spots)), (33, (vi (x1.spots.length : Int))), (34, (vi s1.1))] ∧ Hs σ [.blk (b11 + 2) 116 [(vi x2.index), (vi x2.place.first), (vi x2.place.last)], .blk (b8 + 0) 119 [(vi s1.2.1), (vb s1.2.2)], .blk (b4 + 2) 96 [(vi x1.Form.Period), (vi x1.Form.Count), (vl (cL Span.cs) x1.Form.Core), (vl Granule.cs x1.Form.Odd), (vl size_spot.cs x1.spots)]]) ?_ ?_
       ·replace h := hj5
        apply Runs.then
        refine Runs.regionH 1 rfl H ?_; intro b13 σ H
        refine Ops.move (v := (vb up)) rfl rfl ?_
        apply Ops.nil
        replace H := H.all
        refine Runs.whether (v := up) rfl ?_ ?_ <;> intro hc4
        ·replace h := cond_T hc4 h
         refine Runs.regionH 4 rfl H ?_; intro b14 σ H
         refine Ops.fieldAddrH (off := 0) (fo := 1) H 0 rfl rfl rfl rfl rfl nofun rfl ?_
         refine Ops.fieldAddrH (off := 1) (fo := 0) H 0 rfl rfl rfl rfl rfl nofun rfl ?_
         refine Ops.loadH (off := 1) (v := (vi x2.place.first)) H 0 rfl rfl rfl rfl rfl nofun rfl ?_
         refine Ops.assign (v := (vi x2.place.first)) rfl rfl ?_
         apply Ops.nil
         replace H := H.all
         replace h := Option.some.inj h; subst h
         exact ⟨rfl, ⟨rfl, rfl, rfl, rfl, rfl, rfl, rfl, rfl, rfl, rfl, trivial⟩, H⟩
        ·replace h := cond_F hc4 h
         apply Runs.skip
         replace h := Option.some.inj h; subst h
         exact ⟨rfl, ⟨rfl, rfl, rfl, rfl, rfl, rfl, rfl, rfl, rfl, rfl, trivial⟩, H⟩
       ·rintro x e σ ⟨rfl, he, H⟩
        obtain ⟨e, rfl⟩ := he.ex
        refine Runs.drawnH 13 rfl (by kernel_rfl) H ?_; intro b15 σ H B15
        refine Ops.move (v := (vi y1)) rfl rfl ?_
        refine Ops.loadHA (off := 0) (cs := [(vi x1.Form.Period), (vi x1.Form.Count), (vl (cL Span.cs) x1.Form.Core), (vl Granule.cs x1.Form.Odd), (vl size_spot.cs x1.spots)]) H 2 rfl rfl rfl rfl rfl rfl rfl (fun _ => .inl ⟨B15 2 _ rfl _ rfl, nofun⟩) rfl ?_
        refine Ops.move (v := (vi y5)) rfl rfl ?_
        refine Ops.move (v := (vi d)) rfl rfl ?_
        refine Ops.int (m := y5) (m' := d) (r := .int .i64 (w64 (y5 + d))) rfl rfl rfl rfl rfl ?_
        refine Ops.move (v := (vb up)) rfl rfl ?_
        obtain ⟨x3, q3, h⟩ := bind_some h
        refine Ops.call (ys := [(.agg [(vi x1.Form.Period), (vi x1.Form.Count), (vl (cL Span.cs) x1.Form.Core), (vl Granule.cs x1.Form.Odd), (vl size_spot.cs x1.spots)]), (vi (w64 (y5 + d))), (vb up)]) (r := (vi x3)) rfl (size_form_core_fn q3) rfl ?_
        refine Ops.fieldAddrH (off := 0) (fo := 0) H 0 rfl rfl rfl rfl rfl (fun _ => .inl ⟨B15 0 _ rfl _ rfl, nofun⟩) rfl ?_
        refine Ops.loadH (off := 0) (v := (vi x2.index)) H 0 rfl rfl rfl rfl rfl (fun _ => .inl ⟨B15 0 _ rfl _ rfl, nofun⟩) rfl ?_
        refine Ops.int (m := x3) (m' := x2.index) (r := .int .i64 (w64 (x3 - x2.index))) rfl rfl rfl rfl rfl ?_
        refine Ops.int (m := y1) (m' := (w64 (x3 - x2.index))) (r := .int .i64 (w64 (y1 * (w64 (x3 - x2.index))))) rfl rfl rfl rfl rfl ?_
        refine Ops.buildS (sz := 1) ([(w64 (y1 * (w64 (x3 - x2.index))))].map (cI .i64)) H (by omega) (by omega) rfl rfl rfl rfl rfl rfl rfl rfl rfl ?_; intro σ H
        obtain ⟨y6, hj6, h⟩ := bind_some h
        refine Ops.callI (PostA := fun r A => r = (.tup []) ∧ A = [.sl (.buf (b15 + 11) 1 1) 3 1 (y6.1.map (cI .i64)) true, .blk (b11 + 2) 116 [(vi x2.index), (vi x2.place.first), (vi x2.place.last)], .blk (b8 + 0) 119 [(vi y6.2.1), (vb y6.2.2)], .blk (b4 + 2) 96 [(vi x1.Form.Period), (vi x1.Form.Count), (vl (cL Span.cs) x1.Form.Core), (vl Granule.cs x1.Form.Odd), (vl size_spot.cs x1.spots)]]) (cv := (.v (.fn 86))) (ys := [(.ptr (b8 + 0) 2 0), (.buf (b15 + 11) 1 1)]) (L := []) [.sl (.buf (b15 + 11) 1 1) 3 1 ([(w64 (y1 * (w64 (x3 - x2.index))))].map (cI .i64)) true, .blk (b11 + 2) 116 [(vi x2.index), (vi x2.place.first), (vi x2.place.last)], .blk (b8 + 0) 119 [(vi s1.2.1), (vb s1.2.2)], .blk (b4 + 2) 96 [(vi x1.Form.Period), (vi x1.Form.Count), (vl (cL Span.cs) x1.Form.Core), (vl Granule.cs x1.Form.Odd), (vl size_spot.cs x1.spots)]] H rfl rfl (fun T1 hT H => callI_of Try.func86 rfl (fun _ => rfl) rfl rfl rfl rfl ?_) (fun _ => by kernel_rfl) rfl ?_
        ·replace h := hj6
         apply Runs.then
         refine Runs.regionH 3 rfl H ?_; intro b16 σ H
         refine Ops.move (v := (.buf (b15 + 11) 1 1)) rfl rfl ?_
         refine Ops.lenSt (c := (cI .i64)) (xs := [(w64 (y1 * (w64 (x3 - x2.index))))]) H 0 rfl rfl rfl nofun rfl ?_
         refine Ops.move (v := (vi 0)) rfl rfl ?_
         apply Ops.nil
         replace H := H.all
         apply Runs.inBlock
         obtain ⟨y7, hj7, h⟩ := bind_some h
         obtain ⟨n2, hj7⟩ := loopO_iff.1 hj7
         refine Runs.mono (Runs.loopO hj7 (fun s2 e σ => EnvHas e [(0, (.ptr (b8 + 0) 2 0)), (6, (.buf (b15 + 11) 1 1)), (7, (vi s2.1)), (8, (vi s2.2.1))] ∧ Hs σ (.sl (.buf (b15 + 11) 1 1) 3 1 (s2.2.2.1.map (cI .i64)) true :: .blk (b11 + 2) 116 [(vi x2.index), (vi x2.place.first), (vi x2.place.last)] :: .blk (b8 + 0) 119 [(vi s2.2.2.2.1), (vb s2.2.2.2.2)] :: .blk (b4 + 2) 96 [(vi x1.Form.Period), (vi x1.Form.Count), (vl (cL Span.cs) x1.Form.Core), (vl Granule.cs x1.Form.Odd), (vl size_spot.cs x1.spots)] :: T1)) (fun y7 x e σ => x = .exit 0 ∧ EnvHas e [] ∧ Hs σ (.sl (.buf (b15 + 11) 1 1) 3 1 (y7.1.map (cI .i64)) true :: .blk (b11 + 2) 116 [(vi x2.index), (vi x2.place.first), (vi x2.place.last)] :: .blk (b8 + 0) 119 [(vi y7.2.1), (vb y7.2.2)] :: .blk (b4 + 2) 96 [(vi x1.Form.Period), (vi x1.Form.Count), (vl (cL Span.cs) x1.Form.Core), (vl Granule.cs x1.Form.Odd), (vl size_spot.cs x1.spots)] :: T1)) ⟨⟨rfl, rfl, rfl, rfl, trivial⟩, H⟩ ?_) ?_
         ·intro s2 e σ hI z h
          obtain ⟨he, H⟩ := hI
          obtain ⟨e, rfl⟩ := he.ex
          unfold size_far.s1 at h
          apply Runs.then
          refine Runs.regionH 1 rfl H ?_; intro b17 σ H
          refine Ops.int (m := s2.2.1) (m' := s2.1) (r := .bool (decide (s2.2.1 < s2.1))) rfl rfl rfl rfl rfl ?_
          apply Ops.nil
          replace H := H.all
          apply Runs.then
          refine Runs.whether (v := (decide (s2.2.1 < s2.1))) rfl ?_ ?_ <;> intro hc5
          ·replace h := cond_T hc5 h
           apply Runs.skip
           apply Runs.then
           obtain ⟨y8, hj8, h⟩ := bind_some h
           refine Runs.mono (Q := fun x e σ => x = .normal ∧ EnvHas e [(0, (.ptr (b8 + 0) 2 0)), (6, (.buf (b15 + 11) 1 1)), (7, (vi s2.1)), (8, (vi s2.2.1))] ∧ Hs σ (.sl (.buf (b15 + 11) 1 1) 3 1 (s2.2.2.1.map (cI .i64)) true :: .blk (b11 + 2) 116 [(vi x2.index), (vi x2.place.first), (vi x2.place.last)] :: .blk (b8 + 0) 119 [(vi y8.1), (vb y8.2)] :: .blk (b4 + 2) 96 [(vi x1.Form.Period), (vi x1.Form.Count), (vl (cL Span.cs) x1.Form.Core), (vl Granule.cs x1.Form.Odd), (vl size_spot.cs x1.spots)] :: T1)) ?_ ?_
           ·replace h := hj8
            apply Runs.inBlock
            obtain ⟨y9, hj9, h⟩ := bind_some h
            refine Runs.mono (Q := fun x e σ => x = .normal ∧ EnvHas e [(0, (.ptr (b8 + 0) 2 0)), (6, (.buf (b15 + 11) 1 1)), (7, (vi s2.1)), (8, (vi s2.2.1))] ∧ Hs σ (.sl (.buf (b15 + 11) 1 1) 3 1 (s2.2.2.1.map (cI .i64)) true :: .blk (b11 + 2) 116 [(vi x2.index), (vi x2.place.first), (vi x2.place.last)] :: .blk (b8 + 0) 119 [(vi y9.1), (vb y9.2)] :: .blk (b4 + 2) 96 [(vi x1.Form.Period), (vi x1.Form.Count), (vl (cL Span.cs) x1.Form.Core), (vl Granule.cs x1.Form.Odd), (vl size_spot.cs x1.spots)] :: T1)) ?_ ?_
            ·replace h := hj9
             apply Runs.then
             refine Runs.regionH 3 rfl H ?_; intro b18 σ H
             obtain ⟨x4, q4, h⟩ := bind_some h
             refine Ops.indexS H 0 rfl rfl rfl (at?_map q4) rfl rfl nofun rfl ?_; intro id1 hv1
             refine Ops.loadS (id := id1) (j := 0) (w := (.int .i64 x4)) H 0 rfl hv1 (by simp) (at?_map q4) rfl (by simp) rfl rfl rfl nofun rfl ?_
             refine Ops.assign (v := (vi x4)) rfl rfl ?_
             apply Ops.nil
             replace H := H.all
             apply Runs.then
             refine Runs.regionH 13 rfl H ?_; intro b19 σ H
             refine Ops.move (v := (.ptr (b8 + 0) 2 0)) rfl rfl ?_
             refine Ops.nilCheckH (off := 0) H 2 rfl rfl rfl nofun rfl ?_
             refine Ops.fieldAddrH (off := 0) (fo := 1) H 2 rfl rfl rfl rfl rfl nofun rfl ?_
             refine Ops.loadH (off := 1) (v := (vb s2.2.2.2.2)) H 2 rfl rfl rfl rfl rfl nofun rfl ?_
             refine Ops.not (b := s2.2.2.2.2) rfl rfl ?_
             refine Ops.move (v := (vb (!s2.2.2.2.2))) rfl rfl ?_
             refine Ops.mid 7 (K1 := fun e σ => EnvHas e [(24, (vb ((!s2.2.2.2.2) || (decide (x4 > s2.2.2.2.1))))), (0, (.ptr (b8 + 0) 2 0)), (5, (vi x4)), (6, (.buf (b15 + 11) 1 1)), (7, (vi s2.1)), (8, (vi s2.2.1))] ∧ Has σ (b19 + 13) (b19 + 13) (.sl (.buf (b15 + 11) 1 1) 3 1 (s2.2.2.1.map (cI .i64)) true :: .blk (b11 + 2) 116 [(vi x2.index), (vi x2.place.first), (vi x2.place.last)] :: .blk (b8 + 0) 119 [(vi s2.2.2.2.1), (vb s2.2.2.2.2)] :: .blk (b4 + 2) 96 [(vi x1.Form.Period), (vi x1.Form.Count), (vl (cL Span.cs) x1.Form.Core), (vl Granule.cs x1.Form.Odd), (vl size_spot.cs x1.spots)] :: T1)) rfl ?_ ?_
             ·refine Ops.split rfl rfl ?_ ?_ <;> intro hc6
              ·skip
               refine Ops.pass rfl rfl rfl ?_
               refine Ops.pass rfl rfl rfl ?_
               refine Ops.pass rfl rfl rfl ?_
               refine Ops.pass rfl rfl rfl ?_
               refine Ops.pass rfl rfl rfl ?_
               refine Ops.pass rfl rfl rfl ?_
               refine Ops.pickT (v := (vb true)) rfl rfl rfl ?_
               apply Ops.nil
               exact ⟨⟨or_T hc6, rfl, rfl, rfl, rfl, rfl, trivial⟩, H.weak (by omega) (Nat.le_refl _)⟩
              ·skip
               refine Ops.wanted rfl rfl ?_
               refine Ops.move (v := (vi x4)) rfl rfl ?_
               refine Ops.wanted rfl rfl ?_
               refine Ops.move (v := (.ptr (b8 + 0) 2 0)) rfl rfl ?_
               refine Ops.wanted rfl rfl ?_
               refine Ops.nilCheckH (off := 0) H 2 rfl rfl rfl nofun rfl ?_
               refine Ops.wanted rfl rfl ?_
               refine Ops.fieldAddrH (off := 0) (fo := 0) H 2 rfl rfl rfl rfl rfl nofun rfl ?_
               refine Ops.wanted rfl rfl ?_
               refine Ops.loadH (off := 0) (v := (vi s2.2.2.2.1)) H 2 rfl rfl rfl rfl rfl nofun rfl ?_
               refine Ops.wanted rfl rfl ?_
               refine Ops.int (m := x4) (m' := s2.2.2.2.1) (r := .bool (decide (x4 > s2.2.2.2.1))) rfl rfl rfl rfl rfl ?_
               refine Ops.pickF (v := (vb (decide (x4 > s2.2.2.2.1)))) rfl rfl rfl ?_
               apply Ops.nil
               exact ⟨⟨or_F hc6, rfl, rfl, rfl, rfl, rfl, trivial⟩, H.weak (by omega) (Nat.le_refl _)⟩
             ·rintro e σ ⟨he, H⟩
              obtain ⟨e, rfl⟩ := he.ex
              apply Ops.nil
              replace H := H.all
              refine Runs.whether (v := ((!s2.2.2.2.2) || (decide (x4 > s2.2.2.2.1)))) rfl ?_ ?_ <;> intro hc7
              ·replace h := cond_T hc7 h
               refine Runs.regionH 9 rfl H ?_; intro b20 σ H
               refine Ops.move (v := (.ptr (b8 + 0) 2 0)) rfl rfl ?_
               refine Ops.move (v := (.ptr (b8 + 0) 2 0)) rfl rfl ?_
               refine Ops.move (v := (vi x4)) rfl rfl ?_
               refine Ops.nilCheckH (off := 0) H 2 rfl rfl rfl nofun rfl ?_
               refine Ops.fieldAddrH (off := 0) (fo := 0) H 2 rfl rfl rfl rfl rfl nofun rfl ?_
               refine Ops.storeH (off := 0) (v := (vi x4)) (ys := [(vi x4)]) (cells' := [(vi x4), (vb s2.2.2.2.2)]) H 2 rfl rfl rfl rfl rfl rfl rfl rfl rfl nofun ?_; intro σ H
               refine Ops.nilCheckH (off := 0) H 2 rfl rfl rfl nofun rfl ?_
               refine Ops.fieldAddrH (off := 0) (fo := 1) H 2 rfl rfl rfl rfl rfl nofun rfl ?_
               refine Ops.storeH (off := 1) (v := (vb true)) (ys := [(vb true)]) (cells' := [(vi x4), (vb true)]) H 2 rfl rfl rfl rfl rfl rfl rfl rfl rfl nofun ?_; intro σ H
               apply Ops.nil
               replace H := H.all
               replace h := Option.some.inj h; subst h
               exact ⟨rfl, ⟨rfl, rfl, rfl, rfl, trivial⟩, H⟩
              ·replace h := cond_F hc7 h
               apply Runs.skip
               replace h := Option.some.inj h; subst h
               exact ⟨rfl, ⟨rfl, rfl, rfl, rfl, trivial⟩, H⟩
            ·rintro x e σ ⟨rfl, he, H⟩
             obtain ⟨e, rfl⟩ := he.ex
             replace h := Option.some.inj h; subst h
             exact ⟨rfl, ⟨rfl, rfl, rfl, rfl, trivial⟩, H⟩
           ·rintro x e σ ⟨rfl, he, H⟩
            obtain ⟨e, rfl⟩ := he.ex
            refine Runs.regionH 2 rfl H ?_; intro b21 σ H
            refine Ops.int (m := s2.2.1) (m' := 1) (r := .int .i64 (w64 (s2.2.1 + 1))) rfl rfl rfl rfl rfl ?_
            refine Ops.move (v := (vi (w64 (s2.2.1 + 1)))) rfl rfl ?_
            apply Ops.nil
            replace H := H.all
            replace h := Option.some.inj h; subst h
            exact ⟨rfl, ⟨rfl, rfl, rfl, rfl, trivial⟩, H⟩
          ·replace h := cond_F hc5 h
           apply Runs.exit
           replace h := Option.some.inj h; subst h
           exact ⟨nofun, ⟨rfl, trivial, H⟩⟩
         ·rintro x e σ ⟨rfl, he, H⟩
          obtain ⟨e, rfl⟩ := he.ex
          replace h := Option.some.inj h; subst h
          exact ⟨.inl rfl, _, resD_ok H .nil, _, ⟨rfl, rfl⟩, H⟩
        ·rintro _ _ σ ⟨rfl, rfl⟩ H
         apply Ops.nil
         replace H := H.all
         replace h := Option.some.inj h; subst h
         exact ⟨rfl, ⟨rfl, rfl, rfl, rfl, rfl, rfl, rfl, rfl, trivial⟩, ((H.erase 1).erase 0)⟩
      ·rintro x e σ ⟨rfl, he, H⟩
       obtain ⟨e, rfl⟩ := he.ex
       replace h := Option.some.inj h; subst h
       exact ⟨rfl, ⟨rfl, rfl, rfl, rfl, rfl, rfl, rfl, rfl, trivial⟩, H⟩
     ·rintro x e σ ⟨rfl, he, H⟩
      obtain ⟨e, rfl⟩ := he.ex
      refine Runs.regionH 2 rfl H ?_; intro b22 σ H
      refine Ops.int (m := s1.1) (m' := 1) (r := .int .i64 (w64 (s1.1 + 1))) rfl rfl rfl rfl rfl ?_
      refine Ops.move (v := (vi (w64 (s1.1 + 1)))) rfl rfl ?_
      apply Ops.nil
      replace H := H.all
      replace h := Option.some.inj h; subst h
      exact ⟨rfl, ⟨rfl, rfl, rfl, rfl, rfl, rfl, rfl, rfl, trivial⟩, H⟩
    ·replace h := cond_F hc3 h
     apply Runs.exit
     replace h := Option.some.inj h; subst h
     exact ⟨nofun, ⟨rfl, ⟨rfl, rfl, rfl, rfl, rfl, trivial⟩, H⟩⟩
   ·rintro x e σ ⟨rfl, he, H⟩
    obtain ⟨e, rfl⟩ := he.ex
    apply Runs.then
    apply Runs.then
    refine Runs.regionH 5 rfl H ?_; intro b23 σ H
    refine Ops.fieldAddrH (off := 0) (fo := 0) H 1 rfl rfl rfl rfl rfl nofun rfl ?_
    refine Ops.fieldAddrH (off := 0) (fo := 3) H 1 rfl rfl rfl rfl rfl nofun rfl ?_
    refine Ops.loadH (off := 3) (v := (vl Granule.cs x1.Form.Odd)) H 1 rfl rfl rfl rfl rfl nofun rfl ?_
    refine Ops.lenPt (c := Granule.cs) (xs := x1.Form.Odd) rfl rfl rfl ?_
    refine Ops.move (v := (vi 0)) rfl rfl ?_
    apply Ops.nil
    replace H := H.all
    apply Runs.inBlock
    obtain ⟨y10, hj10, h⟩ := bind_some h
    obtain ⟨n3, hj10⟩ := loopO_iff.1 hj10
    refine Runs.mono (Runs.loopO hj10 (fun s3 e σ => EnvHas e [(1, (vi d)), (2, (vb up)), (9, (.ptr (b4 + 2) 5 0)), (10, (vi y1)), (11, (.ptr (b8 + 0) 2 0)), (61, (vl Granule.cs x1.Form.Odd)), (62, (vi (x1.Form.Odd.length : Int))), (63, (vi s3.1))] ∧ Hs σ [.blk (b8 + 0) 119 [(vi s3.2.1), (vb s3.2.2)], .blk (b4 + 2) 96 [(vi x1.Form.Period), (vi x1.Form.Count), (vl (cL Span.cs) x1.Form.Core), (vl Granule.cs x1.Form.Odd), (vl size_spot.cs x1.spots)]]) (fun y10 x e σ => x = .exit 2 ∧ EnvHas e [(10, (vi y1)), (11, (.ptr (b8 + 0) 2 0))] ∧ Hs σ [.blk (b8 + 0) 119 [(vi y10.1), (vb y10.2)]]) ⟨⟨rfl, rfl, rfl, rfl, rfl, rfl, rfl, rfl, trivial⟩, H⟩ ?_) ?_
    ·intro s3 e σ hI z h
     obtain ⟨he, H⟩ := hI
     obtain ⟨e, rfl⟩ := he.ex
     unfold size_far.s2 at h
     apply Runs.then
     refine Runs.regionH 1 rfl H ?_; intro b24 σ H
     refine Ops.int (m := s3.1) (m' := (x1.Form.Odd.length : Int)) (r := .bool (decide (s3.1 < (x1.Form.Odd.length : Int)))) rfl rfl rfl rfl rfl ?_
     apply Ops.nil
     replace H := H.all
     apply Runs.then
     refine Runs.whether (v := (decide (s3.1 < (x1.Form.Odd.length : Int)))) rfl ?_ ?_ <;> intro hc8
     ·replace h := cond_T hc8 h
      apply Runs.skip
      apply Runs.then
      obtain ⟨y11, hj11, h⟩ := bind_some h
      refine Runs.mono (Q := fun x e σ => x = .normal ∧ EnvHas e [(1, (vi d)), (2, (vb up)), (9, (.ptr (b4 + 2) 5 0)), (10, (vi y1)), (11, (.ptr (b8 + 0) 2 0)), (61, (vl Granule.cs x1.Form.Odd)), (62, (vi (x1.Form.Odd.length : Int))), (63, (vi s3.1))] ∧ Hs σ [.blk (b8 + 0) 119 [(vi y11.1), (vb y11.2)], .blk (b4 + 2) 96 [(vi x1.Form.Period), (vi x1.Form.Count), (vl (cL Span.cs) x1.Form.Core), (vl Granule.cs x1.Form.Odd), (vl size_spot.cs x1.spots)]]) ?_ ?_
      ·replace h := hj11
       apply Runs.inBlock
       obtain ⟨y12, hj12, h⟩ := bind_some h
       refine Runs.mono (Q := fun x e σ => (∃ a1, y12 = (.go a1) ∧ x = .normal ∧ EnvHas e [(1, (vi d)), (2, (vb up)), (9, (.ptr (b4 + 2) 5 0)), (10, (vi y1)), (11, (.ptr (b8 + 0) 2 0)), (61, (vl Granule.cs x1.Form.Odd)), (62, (vi (x1.Form.Odd.length : Int))), (63, (vi s3.1))] ∧ Hs σ [.blk (b8 + 0) 119 [(vi a1.1), (vb a1.2)], .blk (b4 + 2) 96 [(vi x1.Form.Period), (vi x1.Form.Count), (vl (cL Span.cs) x1.Form.Core), (vl Granule.cs x1.Form.Odd), (vl size_spot.cs x1.spots)]]) ∨ (∃ a2, y12 = (.ret a2) ∧ x = .exit 3 ∧ EnvHas e [(1, (vi d)), (2, (vb up)), (9, (.ptr (b4 + 2) 5 0)), (10, (vi y1)), (11, (.ptr (b8 + 0) 2 0)), (61, (vl Granule.cs x1.Form.Odd)), (62, (vi (x1.Form.Odd.length : Int))), (63, (vi s3.1))] ∧ Hs σ [.blk (b8 + 0) 119 [(vi s3.2.1), (vb s3.2.2)], .blk (b4 + 2) 96 [(vi x1.Form.Period), (vi x1.Form.Count), (vl (cL Span.cs) x1.Form.Core), (vl Granule.cs x1.Form.Odd), (vl size_spot.cs x1.spots)]])) ?_ ?_
       ·replace h := hj12
        apply Runs.then
        refine Runs.regionH 4 rfl H ?_; intro b25 σ H
        obtain ⟨x5, q5, h⟩ := bind_some h
        refine Ops.indexP (c := Granule.cs) (u := x5) rfl rfl q5 rfl rfl rfl rfl ?_
        refine Ops.loadPA (cs := [(.int .i64 x5.Index), (.sl (x5.Ticks.map Span.cs))]) rfl rfl rfl rfl rfl rfl ?_
        refine Ops.allocH (cs := [(vi 0), .nils]) H (by omega) (by omega) rfl rfl ?_; intro σ H
        refine Ops.storeH (off := 0) (v := (.agg [(vi x5.Index), (vl Span.cs x5.Ticks)])) (ys := [(vi x5.Index), (vl Span.cs x5.Ticks)]) (cells' := [(vi x5.Index), (vl Span.cs x5.Ticks)]) H 0 rfl rfl rfl rfl rfl rfl rfl rfl rfl nofun ?_; intro σ H
        apply Ops.nil
        replace H := H.all
        apply Runs.then
        refine Runs.regionH 9 rfl H ?_; intro b26 σ H
        refine Ops.fieldAddrH (off := 0) (fo := 1) H 0 rfl rfl rfl rfl rfl nofun rfl ?_
        refine Ops.loadH (off := 1) (v := (vl Span.cs x5.Ticks)) H 0 rfl rfl rfl rfl rfl nofun rfl ?_
        obtain ⟨x6, q6, h⟩ := bind_some h
        refine Ops.call (ys := [(vl Span.cs x5.Ticks)]) (r := (.tup [(.agg [(vi x6.1.From), (vi x6.1.To)]), (vb x6.2)])) rfl (spans_Hull_fn q6) rfl ?_
        refine Ops.move (v := (.tup [(.agg [(vi x6.1.From), (vi x6.1.To)]), (vb x6.2)])) rfl rfl ?_
        refine Ops.extract (v := (.agg [(vi x6.1.From), (vi x6.1.To)])) rfl rfl rfl ?_
        refine Ops.extract (v := (vb x6.2)) rfl rfl rfl ?_
        refine Ops.allocH (cs := [(vi 0), (vi 0)]) H (by omega) (by omega) rfl rfl ?_; intro σ H
        refine Ops.storeH (off := 0) (v := (.agg [(vi x6.1.From), (vi x6.1.To)])) (ys := [(vi x6.1.From), (vi x6.1.To)]) (cells' := [(vi x6.1.From), (vi x6.1.To)]) H 0 rfl rfl rfl rfl rfl rfl rfl rfl rfl nofun ?_; intro σ H
        refine Ops.assign (v := (vb x6.2)) rfl rfl ?_
        apply Ops.nil
        replace H := H.all
        apply Runs.then
        apply Runs.then
        refine Runs.regionH 2 rfl H ?_; intro b27 σ H
        refine Ops.move (v := (vb x6.2)) rfl rfl ?_
        refine Ops.not (b := x6.2) rfl rfl ?_
        apply Ops.nil
        replace H := H.all
        refine Runs.whether (v := (!x6.2)) rfl ?_ ?_ <;> intro hc9
        ·replace h := cond_T hc9 h
         apply Runs.exit
         replace h := Option.some.inj h; subst h
         exact (.inr ⟨_, rfl, rfl, ⟨rfl, rfl, rfl, rfl, rfl, rfl, rfl, rfl, trivial⟩, ((H.erase 1).erase 0)⟩)
        ·replace h := cond_F hc9 h
         apply Runs.skip
         apply Runs.then
         refine Runs.drawnH 6 rfl (by kernel_rfl) H ?_; intro b28 σ H B28
         refine Ops.fieldAddrH (off := 0) (fo := 0) H 0 rfl rfl rfl rfl rfl (fun _ => .inl ⟨B28 0 _ rfl _ rfl, nofun⟩) rfl ?_
         refine Ops.loadH (off := 0) (v := (vi x6.1.From)) H 0 rfl rfl rfl rfl rfl (fun _ => .inl ⟨B28 0 _ rfl _ rfl, nofun⟩) rfl ?_
         refine Ops.fieldAddrH (off := 0) (fo := 1) H 0 rfl rfl rfl rfl rfl (fun _ => .inl ⟨B28 0 _ rfl _ rfl, nofun⟩) rfl ?_
         refine Ops.loadH (off := 1) (v := (vi x6.1.To)) H 0 rfl rfl rfl rfl rfl (fun _ => .inl ⟨B28 0 _ rfl _ rfl, nofun⟩) rfl ?_
         refine Ops.assign (v := (vi x6.1.From)) rfl rfl ?_
         refine Ops.assign (v := (vi x6.1.To)) rfl rfl ?_
         apply Ops.nil
         replace H := H.all
         apply Runs.then
         obtain ⟨y13, hj13, h⟩ := bind_some h
         refine Runs.mono (Q := fun x e σ => x = .normal ∧ EnvHas e [(1, (vi d)), (2, (vb up)), (9, (.ptr (b4 + 2) 5 0)), (10, (vi y1)), (11, (.ptr (b8 + 0) 2 0)), (16, (.ptr (b25 + 2) 2 0)), (19, (vi y13.1)), (20, (vi y13.2)), (61, (vl Granule.cs x1.Form.Odd)), (62, (vi (x1.Form.Odd.length : Int))), (63, (vi s3.1))] ∧ Hs σ [.blk (b25 + 2) 76 [(vi x5.Index), (vl Span.cs x5.Ticks)], .blk (b8 + 0) 119 [(vi s3.2.1), (vb s3.2.2)], .blk (b4 + 2) 96 [(vi x1.Form.Period), (vi x1.Form.Count), (vl (cL Span.cs) x1.Form.Core), (vl Granule.cs x1.Form.Odd), (vl size_spot.cs x1.spots)]]) ?_ ?_
         ·replace h := hj13
          apply Runs.then
          refine Runs.regionH 1 rfl H ?_; intro b29 σ H
          refine Ops.move (v := (vb up)) rfl rfl ?_
          apply Ops.nil
          replace H := H.all
          refine Runs.whether (v := up) rfl ?_ ?_ <;> intro hc10
          ·replace h := cond_T hc10 h
           refine Runs.regionH 4 rfl H ?_; intro b30 σ H
           refine Ops.move (v := (vi x6.1.To)) rfl rfl ?_
           refine Ops.move (v := (vi x6.1.From)) rfl rfl ?_
           refine Ops.assign (v := (vi x6.1.To)) rfl rfl ?_
           refine Ops.assign (v := (vi x6.1.From)) rfl rfl ?_
           apply Ops.nil
           replace H := H.all
           replace h := Option.some.inj h; subst h
           exact ⟨rfl, ⟨rfl, rfl, rfl, rfl, rfl, rfl, rfl, rfl, rfl, rfl, rfl, trivial⟩, (H.erase 0)⟩
          ·replace h := cond_F hc10 h
           apply Runs.skip
           replace h := Option.some.inj h; subst h
           exact ⟨rfl, ⟨rfl, rfl, rfl, rfl, rfl, rfl, rfl, rfl, rfl, rfl, rfl, trivial⟩, (H.erase 0)⟩
         ·rintro x e σ ⟨rfl, he, H⟩
          obtain ⟨e, rfl⟩ := he.ex
          apply Runs.then
          obtain ⟨y14, hj14, h⟩ := bind_some h
          refine Runs.mono (Q := fun x e σ => x = .normal ∧ EnvHas e [(1, (vi d)), (2, (vb up)), (9, (.ptr (b4 + 2) 5 0)), (10, (vi y1)), (11, (.ptr (b8 + 0) 2 0)), (16, (.ptr (b25 + 2) 2 0)), (19, (vi y13.1)), (61, (vl Granule.cs x1.Form.Odd)), (62, (vi (x1.Form.Odd.length : Int))), (63, (vi s3.1))] ∧ Hs σ [.blk (b25 + 2) 76 [(vi x5.Index), (vl Span.cs x5.Ticks)], .blk (b8 + 0) 119 [(vi y14.1), (vb y14.2)], .blk (b4 + 2) 96 [(vi x1.Form.Period), (vi x1.Form.Count), (vl (cL Span.cs) x1.Form.Core), (vl Granule.cs x1.Form.Odd), (vl size_spot.cs x1.spots)]]) ?_ ?_
          ·replace h := hj14
           apply Runs.then
           refine Runs.regionH 11 rfl H ?_; intro b31 σ H
           refine Ops.loadHA (off := 0) (cs := [(vi x1.Form.Period), (vi x1.Form.Count), (vl (cL Span.cs) x1.Form.Core), (vl Granule.cs x1.Form.Odd), (vl size_spot.cs x1.spots)]) H 2 rfl rfl rfl rfl rfl rfl rfl nofun rfl ?_
           refine Ops.move (v := (vi y13.2)) rfl rfl ?_
           refine Ops.move (v := (vi d)) rfl rfl ?_
           refine Ops.int (m := y13.2) (m' := d) (r := .int .i64 (w64 (y13.2 + d))) rfl rfl rfl rfl rfl ?_
           refine Ops.move (v := (vb up)) rfl rfl ?_
           obtain ⟨x7, q7, h⟩ := bind_some h
           refine Ops.call (ys := [(.agg [(vi x1.Form.Period), (vi x1.Form.Count), (vl (cL Span.cs) x1.Form.Core), (vl Granule.cs x1.Form.Odd), (vl size_spot.cs x1.spots)]), (vi (w64 (y13.2 + d))), (vb up)]) (r := (.tup [(vi x7.1), (vb x7.2)])) rfl (size_form_reach_fn q7) rfl ?_
           refine Ops.move (v := (.tup [(vi x7.1), (vb x7.2)])) rfl rfl ?_
           refine Ops.extract (v := (vi x7.1)) rfl rfl rfl ?_
           refine Ops.extract (v := (vb x7.2)) rfl rfl rfl ?_
           refine Ops.assign (v := (vi x7.1)) rfl rfl ?_
           refine Ops.assign (v := (vb x7.2)) rfl rfl ?_
           apply Ops.nil
           replace H := H.all
           apply Runs.then
           refine Runs.regionH 1 rfl H ?_; intro b32 σ H
           refine Ops.move (v := (vb x7.2)) rfl rfl ?_
           apply Ops.nil
           replace H := H.all
           refine Runs.whether (v := x7.2) rfl ?_ ?_ <;> intro hc11
           ·replace h := cond_T hc11 h
            refine Runs.regionH 8 rfl H ?_; intro b33 σ H
            refine Ops.move (v := (vi y1)) rfl rfl ?_
            refine Ops.move (v := (vi x7.1)) rfl rfl ?_
            refine Ops.fieldAddrH (off := 0) (fo := 0) H 0 rfl rfl rfl rfl rfl nofun rfl ?_
            refine Ops.loadH (off := 0) (v := (vi x5.Index)) H 0 rfl rfl rfl rfl rfl nofun rfl ?_
            refine Ops.int (m := x7.1) (m' := x5.Index) (r := .int .i64 (w64 (x7.1 - x5.Index))) rfl rfl rfl rfl rfl ?_
            refine Ops.int (m := y1) (m' := (w64 (x7.1 - x5.Index))) (r := .int .i64 (w64 (y1 * (w64 (x7.1 - x5.Index))))) rfl rfl rfl rfl rfl ?_
            refine Ops.buildS (sz := 1) ([(w64 (y1 * (w64 (x7.1 - x5.Index))))].map (cI .i64)) H (by omega) (by omega) rfl rfl rfl rfl rfl rfl rfl rfl rfl ?_; intro σ H
            obtain ⟨y15, hj15, h⟩ := bind_some h
            refine Ops.callI (PostA := fun r A => r = (.tup []) ∧ A = [.sl (.buf (b33 + 6) 1 1) 3 1 (y15.1.map (cI .i64)) true, .blk (b25 + 2) 76 [(vi x5.Index), (vl Span.cs x5.Ticks)], .blk (b8 + 0) 119 [(vi y15.2.1), (vb y15.2.2)], .blk (b4 + 2) 96 [(vi x1.Form.Period), (vi x1.Form.Count), (vl (cL Span.cs) x1.Form.Core), (vl Granule.cs x1.Form.Odd), (vl size_spot.cs x1.spots)]]) (cv := (.v (.fn 86))) (ys := [(.ptr (b8 + 0) 2 0), (.buf (b33 + 6) 1 1)]) (L := []) [.sl (.buf (b33 + 6) 1 1) 3 1 ([(w64 (y1 * (w64 (x7.1 - x5.Index))))].map (cI .i64)) true, .blk (b25 + 2) 76 [(vi x5.Index), (vl Span.cs x5.Ticks)], .blk (b8 + 0) 119 [(vi s3.2.1), (vb s3.2.2)], .blk (b4 + 2) 96 [(vi x1.Form.Period), (vi x1.Form.Count), (vl (cL Span.cs) x1.Form.Core), (vl Granule.cs x1.Form.Odd), (vl size_spot.cs x1.spots)]] H rfl rfl (fun T2 hT H => callI_of Try.func86 rfl (fun _ => rfl) rfl rfl rfl rfl ?_) nofun rfl ?_
            ·replace h := hj15
             apply Runs.then
             refine Runs.regionH 3 rfl H ?_; intro b34 σ H
             refine Ops.move (v := (.buf (b33 + 6) 1 1)) rfl rfl ?_
             refine Ops.lenSt (c := (cI .i64)) (xs := [(w64 (y1 * (w64 (x7.1 - x5.Index))))]) H 0 rfl rfl rfl nofun rfl ?_
             refine Ops.move (v := (vi 0)) rfl rfl ?_
             apply Ops.nil
             replace H := H.all
             apply Runs.inBlock
             obtain ⟨y16, hj16, h⟩ := bind_some h
             obtain ⟨n4, hj16⟩ := loopO_iff.1 hj16
             refine Runs.mono (Runs.loopO hj16 (fun s4 e σ => EnvHas e [(0, (.ptr (b8 + 0) 2 0)), (6, (.buf (b33 + 6) 1 1)), (7, (vi s4.1)), (8, (vi s4.2.1))] ∧ Hs σ (.sl (.buf (b33 + 6) 1 1) 3 1 (s4.2.2.1.map (cI .i64)) true :: .blk (b25 + 2) 76 [(vi x5.Index), (vl Span.cs x5.Ticks)] :: .blk (b8 + 0) 119 [(vi s4.2.2.2.1), (vb s4.2.2.2.2)] :: .blk (b4 + 2) 96 [(vi x1.Form.Period), (vi x1.Form.Count), (vl (cL Span.cs) x1.Form.Core), (vl Granule.cs x1.Form.Odd), (vl size_spot.cs x1.spots)] :: T2)) (fun y16 x e σ => x = .exit 0 ∧ EnvHas e [] ∧ Hs σ (.sl (.buf (b33 + 6) 1 1) 3 1 (y16.1.map (cI .i64)) true :: .blk (b25 + 2) 76 [(vi x5.Index), (vl Span.cs x5.Ticks)] :: .blk (b8 + 0) 119 [(vi y16.2.1), (vb y16.2.2)] :: .blk (b4 + 2) 96 [(vi x1.Form.Period), (vi x1.Form.Count), (vl (cL Span.cs) x1.Form.Core), (vl Granule.cs x1.Form.Odd), (vl size_spot.cs x1.spots)] :: T2)) ⟨⟨rfl, rfl, rfl, rfl, trivial⟩, H⟩ ?_) ?_
             ·intro s4 e σ hI z h
              obtain ⟨he, H⟩ := hI
              obtain ⟨e, rfl⟩ := he.ex
              unfold size_far.s3 at h
              apply Runs.then
              refine Runs.regionH 1 rfl H ?_; intro b35 σ H
              refine Ops.int (m := s4.2.1) (m' := s4.1) (r := .bool (decide (s4.2.1 < s4.1))) rfl rfl rfl rfl rfl ?_
              apply Ops.nil
              replace H := H.all
              apply Runs.then
              refine Runs.whether (v := (decide (s4.2.1 < s4.1))) rfl ?_ ?_ <;> intro hc12
              ·replace h := cond_T hc12 h
               apply Runs.skip
               apply Runs.then
               obtain ⟨y17, hj17, h⟩ := bind_some h
               refine Runs.mono (Q := fun x e σ => x = .normal ∧ EnvHas e [(0, (.ptr (b8 + 0) 2 0)), (6, (.buf (b33 + 6) 1 1)), (7, (vi s4.1)), (8, (vi s4.2.1))] ∧ Hs σ (.sl (.buf (b33 + 6) 1 1) 3 1 (s4.2.2.1.map (cI .i64)) true :: .blk (b25 + 2) 76 [(vi x5.Index), (vl Span.cs x5.Ticks)] :: .blk (b8 + 0) 119 [(vi y17.1), (vb y17.2)] :: .blk (b4 + 2) 96 [(vi x1.Form.Period), (vi x1.Form.Count), (vl (cL Span.cs) x1.Form.Core), (vl Granule.cs x1.Form.Odd), (vl size_spot.cs x1.spots)] :: T2)) ?_ ?_
               ·replace h := hj17
                apply Runs.inBlock
                obtain ⟨y18, hj18, h⟩ := bind_some h
                refine Runs.mono (Q := fun x e σ => x = .normal ∧ EnvHas e [(0, (.ptr (b8 + 0) 2 0)), (6, (.buf (b33 + 6) 1 1)), (7, (vi s4.1)), (8, (vi s4.2.1))] ∧ Hs σ (.sl (.buf (b33 + 6) 1 1) 3 1 (s4.2.2.1.map (cI .i64)) true :: .blk (b25 + 2) 76 [(vi x5.Index), (vl Span.cs x5.Ticks)] :: .blk (b8 + 0) 119 [(vi y18.1), (vb y18.2)] :: .blk (b4 + 2) 96 [(vi x1.Form.Period), (vi x1.Form.Count), (vl (cL Span.cs) x1.Form.Core), (vl Granule.cs x1.Form.Odd), (vl size_spot.cs x1.spots)] :: T2)) ?_ ?_
                ·replace h := hj18
                 apply Runs.then
                 refine Runs.regionH 3 rfl H ?_; intro b36 σ H
                 obtain ⟨x8, q8, h⟩ := bind_some h
                 refine Ops.indexS H 0 rfl rfl rfl (at?_map q8) rfl rfl nofun rfl ?_; intro id2 hv2
                 refine Ops.loadS (id := id2) (j := 0) (w := (.int .i64 x8)) H 0 rfl hv2 (by simp) (at?_map q8) rfl (by simp) rfl rfl rfl nofun rfl ?_
                 refine Ops.assign (v := (vi x8)) rfl rfl ?_
                 apply Ops.nil
                 replace H := H.all
                 apply Runs.then
                 refine Runs.regionH 13 rfl H ?_; intro b37 σ H
                 refine Ops.move (v := (.ptr (b8 + 0) 2 0)) rfl rfl ?_
                 refine Ops.nilCheckH (off := 0) H 2 rfl rfl rfl nofun rfl ?_
                 refine Ops.fieldAddrH (off := 0) (fo := 1) H 2 rfl rfl rfl rfl rfl nofun rfl ?_
                 refine Ops.loadH (off := 1) (v := (vb s4.2.2.2.2)) H 2 rfl rfl rfl rfl rfl nofun rfl ?_
                 refine Ops.not (b := s4.2.2.2.2) rfl rfl ?_
                 refine Ops.move (v := (vb (!s4.2.2.2.2))) rfl rfl ?_
                 refine Ops.mid 7 (K1 := fun e σ => EnvHas e [(24, (vb ((!s4.2.2.2.2) || (decide (x8 > s4.2.2.2.1))))), (0, (.ptr (b8 + 0) 2 0)), (5, (vi x8)), (6, (.buf (b33 + 6) 1 1)), (7, (vi s4.1)), (8, (vi s4.2.1))] ∧ Has σ (b37 + 13) (b37 + 13) (.sl (.buf (b33 + 6) 1 1) 3 1 (s4.2.2.1.map (cI .i64)) true :: .blk (b25 + 2) 76 [(vi x5.Index), (vl Span.cs x5.Ticks)] :: .blk (b8 + 0) 119 [(vi s4.2.2.2.1), (vb s4.2.2.2.2)] :: .blk (b4 + 2) 96 [(vi x1.Form.Period), (vi x1.Form.Count), (vl (cL Span.cs) x1.Form.Core), (vl Granule.cs x1.Form.Odd), (vl size_spot.cs x1.spots)] :: T2)) rfl ?_ ?_
                 ·refine Ops.split rfl rfl ?_ ?_ <;> intro hc13
                  ·skip
                   refine Ops.pass rfl rfl rfl ?_
                   refine Ops.pass rfl rfl rfl ?_
                   refine Ops.pass rfl rfl rfl ?_
                   refine Ops.pass rfl rfl rfl ?_
                   refine Ops.pass rfl rfl rfl ?_
                   refine Ops.pass rfl rfl rfl ?_
                   refine Ops.pickT (v := (vb true)) rfl rfl rfl ?_
                   apply Ops.nil
                   exact ⟨⟨or_T hc13, rfl, rfl, rfl, rfl, rfl, trivial⟩, H.weak (by omega) (Nat.le_refl _)⟩
                  ·skip
                   refine Ops.wanted rfl rfl ?_
                   refine Ops.move (v := (vi x8)) rfl rfl ?_
                   refine Ops.wanted rfl rfl ?_
                   refine Ops.move (v := (.ptr (b8 + 0) 2 0)) rfl rfl ?_
                   refine Ops.wanted rfl rfl ?_
                   refine Ops.nilCheckH (off := 0) H 2 rfl rfl rfl nofun rfl ?_
                   refine Ops.wanted rfl rfl ?_
                   refine Ops.fieldAddrH (off := 0) (fo := 0) H 2 rfl rfl rfl rfl rfl nofun rfl ?_
                   refine Ops.wanted rfl rfl ?_
                   refine Ops.loadH (off := 0) (v := (vi s4.2.2.2.1)) H 2 rfl rfl rfl rfl rfl nofun rfl ?_
                   refine Ops.wanted rfl rfl ?_
                   refine Ops.int (m := x8) (m' := s4.2.2.2.1) (r := .bool (decide (x8 > s4.2.2.2.1))) rfl rfl rfl rfl rfl ?_
                   refine Ops.pickF (v := (vb (decide (x8 > s4.2.2.2.1)))) rfl rfl rfl ?_
                   apply Ops.nil
                   exact ⟨⟨or_F hc13, rfl, rfl, rfl, rfl, rfl, trivial⟩, H.weak (by omega) (Nat.le_refl _)⟩
                 ·rintro e σ ⟨he, H⟩
                  obtain ⟨e, rfl⟩ := he.ex
                  apply Ops.nil
                  replace H := H.all
                  refine Runs.whether (v := ((!s4.2.2.2.2) || (decide (x8 > s4.2.2.2.1)))) rfl ?_ ?_ <;> intro hc14
                  ·replace h := cond_T hc14 h
                   refine Runs.regionH 9 rfl H ?_; intro b38 σ H
                   refine Ops.move (v := (.ptr (b8 + 0) 2 0)) rfl rfl ?_
                   refine Ops.move (v := (.ptr (b8 + 0) 2 0)) rfl rfl ?_
                   refine Ops.move (v := (vi x8)) rfl rfl ?_
                   refine Ops.nilCheckH (off := 0) H 2 rfl rfl rfl nofun rfl ?_
                   refine Ops.fieldAddrH (off := 0) (fo := 0) H 2 rfl rfl rfl rfl rfl nofun rfl ?_
                   refine Ops.storeH (off := 0) (v := (vi x8)) (ys := [(vi x8)]) (cells' := [(vi x8), (vb s4.2.2.2.2)]) H 2 rfl rfl rfl rfl rfl rfl rfl rfl rfl nofun ?_; intro σ H
                   refine Ops.nilCheckH (off := 0) H 2 rfl rfl rfl nofun rfl ?_
                   refine Ops.fieldAddrH (off := 0) (fo := 1) H 2 rfl rfl rfl rfl rfl nofun rfl ?_
                   refine Ops.storeH (off := 1) (v := (vb true)) (ys := [(vb true)]) (cells' := [(vi x8), (vb true)]) H 2 rfl rfl rfl rfl rfl rfl rfl rfl rfl nofun ?_; intro σ H
                   apply Ops.nil
                   replace H := H.all
                   replace h := Option.some.inj h; subst h
                   exact ⟨rfl, ⟨rfl, rfl, rfl, rfl, trivial⟩, H⟩
                  ·replace h := cond_F hc14 h
                   apply Runs.skip
                   replace h := Option.some.inj h; subst h
                   exact ⟨rfl, ⟨rfl, rfl, rfl, rfl, trivial⟩, H⟩
                ·rintro x e σ ⟨rfl, he, H⟩
                 obtain ⟨e, rfl⟩ := he.ex
                 replace h := Option.some.inj h; subst h
                 exact ⟨rfl, ⟨rfl, rfl, rfl, rfl, trivial⟩, H⟩
               ·rintro x e σ ⟨rfl, he, H⟩
                obtain ⟨e, rfl⟩ := he.ex
                refine Runs.regionH 2 rfl H ?_; intro b39 σ H
                refine Ops.int (m := s4.2.1) (m' := 1) (r := .int .i64 (w64 (s4.2.1 + 1))) rfl rfl rfl rfl rfl ?_
                refine Ops.move (v := (vi (w64 (s4.2.1 + 1)))) rfl rfl ?_
                apply Ops.nil
                replace H := H.all
                replace h := Option.some.inj h; subst h
                exact ⟨rfl, ⟨rfl, rfl, rfl, rfl, trivial⟩, H⟩
              ·replace h := cond_F hc12 h
               apply Runs.exit
               replace h := Option.some.inj h; subst h
               exact ⟨nofun, ⟨rfl, trivial, H⟩⟩
             ·rintro x e σ ⟨rfl, he, H⟩
              obtain ⟨e, rfl⟩ := he.ex
              replace h := Option.some.inj h; subst h
              exact ⟨.inl rfl, _, resD_ok H .nil, _, ⟨rfl, rfl⟩, H⟩
            ·rintro _ _ σ ⟨rfl, rfl⟩ H
             apply Ops.nil
             replace H := H.all
             replace h := Option.some.inj h; subst h
             exact ⟨rfl, ⟨rfl, rfl, rfl, rfl, rfl, rfl, rfl, rfl, rfl, rfl, trivial⟩, (H.erase 0)⟩
           ·replace h := cond_F hc11 h
            apply Runs.skip
            replace h := Option.some.inj h; subst h
            exact ⟨rfl, ⟨rfl, rfl, rfl, rfl, rfl, rfl, rfl, rfl, rfl, rfl, trivial⟩, H⟩
          ·rintro x e σ ⟨rfl, he, H⟩
           obtain ⟨e, rfl⟩ := he.ex
           apply Runs.then
           refine Runs.regionH 12 rfl H ?_; intro b40 σ H
           refine Ops.loadHA (off := 0) (cs := [(vi x1.Form.Period), (vi x1.Form.Count), (vl (cL Span.cs) x1.Form.Core), (vl Granule.cs x1.Form.Odd), (vl size_spot.cs x1.spots)]) H 2 rfl rfl rfl rfl rfl rfl rfl nofun rfl ?_
           refine Ops.move (v := (vi y13.1)) rfl rfl ?_
           refine Ops.move (v := (vi d)) rfl rfl ?_
           refine Ops.int (m := y13.1) (m' := d) (r := .int .i64 (w64 (y13.1 - d))) rfl rfl rfl rfl rfl ?_
           refine Ops.move (v := (vb up)) rfl rfl ?_
           refine Ops.not (b := up) rfl rfl ?_
           obtain ⟨x9, q9, h⟩ := bind_some h
           refine Ops.call (ys := [(.agg [(vi x1.Form.Period), (vi x1.Form.Count), (vl (cL Span.cs) x1.Form.Core), (vl Granule.cs x1.Form.Odd), (vl size_spot.cs x1.spots)]), (vi (w64 (y13.1 - d))), (vb (!up))]) (r := (.tup [(vi x9.1), (vb x9.2)])) rfl (size_form_reach_fn q9) rfl ?_
           refine Ops.move (v := (.tup [(vi x9.1), (vb x9.2)])) rfl rfl ?_
           refine Ops.extract (v := (vi x9.1)) rfl rfl rfl ?_
           refine Ops.extract (v := (vb x9.2)) rfl rfl rfl ?_
           refine Ops.assign (v := (vi x9.1)) rfl rfl ?_
           refine Ops.assign (v := (vb x9.2)) rfl rfl ?_
           apply Ops.nil
           replace H := H.all
           apply Runs.then
           refine Runs.regionH 1 rfl H ?_; intro b41 σ H
           refine Ops.move (v := (vb x9.2)) rfl rfl ?_
           apply Ops.nil
           replace H := H.all
           refine Runs.whether (v := x9.2) rfl ?_ ?_ <;> intro hc15
           ·replace h := cond_T hc15 h
            refine Runs.regionH 8 rfl H ?_; intro b42 σ H
            refine Ops.move (v := (vi y1)) rfl rfl ?_
            refine Ops.fieldAddrH (off := 0) (fo := 0) H 0 rfl rfl rfl rfl rfl nofun rfl ?_
            refine Ops.loadH (off := 0) (v := (vi x5.Index)) H 0 rfl rfl rfl rfl rfl nofun rfl ?_
            refine Ops.move (v := (vi x9.1)) rfl rfl ?_
            refine Ops.int (m := x5.Index) (m' := x9.1) (r := .int .i64 (w64 (x5.Index - x9.1))) rfl rfl rfl rfl rfl ?_
            refine Ops.int (m := y1) (m' := (w64 (x5.Index - x9.1))) (r := .int .i64 (w64 (y1 * (w64 (x5.Index - x9.1))))) rfl rfl rfl rfl rfl ?_
            refine Ops.buildS (sz := 1) ([(w64 (y1 * (w64 (x5.Index - x9.1))))].map (cI .i64)) H (by omega) (by omega) rfl rfl rfl rfl rfl rfl rfl rfl rfl ?_; intro σ H
            obtain ⟨y19, hj19, h⟩ := bind_some h
            refine Ops.callI (PostA := fun r A => r = (.tup []) ∧ A = [.sl (.buf (b42 + 6) 1 1) 3 1 (y19.1.map (cI .i64)) true, .blk (b25 + 2) 76 [(vi x5.Index), (vl Span.cs x5.Ticks)], .blk (b8 + 0) 119 [(vi y19.2.1), (vb y19.2.2)], .blk (b4 + 2) 96 [(vi x1.Form.Period), (vi x1.Form.Count), (vl (cL Span.cs) x1.Form.Core), (vl Granule.cs x1.Form.Odd), (vl size_spot.cs x1.spots)]]) (cv := (.v (.fn 86))) (ys := [(.ptr (b8 + 0) 2 0), (.buf (b42 + 6) 1 1)]) (L := []) [.sl (.buf (b42 + 6) 1 1) 3 1 ([(w64 (y1 * (w64 (x5.Index - x9.1))))].map (cI .i64)) true, .blk (b25 + 2) 76 [(vi x5.Index), (vl Span.cs x5.Ticks)], .blk (b8 + 0) 119 [(vi y14.1), (vb y14.2)], .blk (b4 + 2) 96 [(vi x1.Form.Period), (vi x1.Form.Count), (vl (cL Span.cs) x1.Form.Core), (vl Granule.cs x1.Form.Odd), (vl size_spot.cs x1.spots)]] H rfl rfl (fun T3 hT H => callI_of Try.func86 rfl (fun _ => rfl) rfl rfl rfl rfl ?_) nofun rfl ?_
            ·replace h := hj19
             apply Runs.then
             refine Runs.regionH 3 rfl H ?_; intro b43 σ H
             refine Ops.move (v := (.buf (b42 + 6) 1 1)) rfl rfl ?_
             refine Ops.lenSt (c := (cI .i64)) (xs := [(w64 (y1 * (w64 (x5.Index - x9.1))))]) H 0 rfl rfl rfl nofun rfl ?_
             refine Ops.move (v := (vi 0)) rfl rfl ?_
             apply Ops.nil
             replace H := H.all
             apply Runs.inBlock
             obtain ⟨y20, hj20, h⟩ := bind_some h
             obtain ⟨n5, hj20⟩ := loopO_iff.1 hj20
             refine Runs.mono (Runs.loopO hj20 (fun s5 e σ => EnvHas e [(0, (.ptr (b8 + 0) 2 0)), (6, (.buf (b42 + 6) 1 1)), (7, (vi s5.1)), (8, (vi s5.2.1))] ∧ Hs σ (.sl (.buf (b42 + 6) 1 1) 3 1 (s5.2.2.1.map (cI .i64)) true :: .blk (b25 + 2) 76 [(vi x5.Index), (vl Span.cs x5.Ticks)] :: .blk (b8 + 0) 119 [(vi s5.2.2.2.1), (vb s5.2.2.2.2)] :: .blk (b4 + 2) 96 [(vi x1.Form.Period), (vi x1.Form.Count), (vl (cL Span.cs) x1.Form.Core), (vl Granule.cs x1.Form.Odd), (vl size_spot.cs x1.spots)] :: T3)) (fun y20 x e σ => x = .exit 0 ∧ EnvHas e [] ∧ Hs σ (.sl (.buf (b42 + 6) 1 1) 3 1 (y20.1.map (cI .i64)) true :: .blk (b25 + 2) 76 [(vi x5.Index), (vl Span.cs x5.Ticks)] :: .blk (b8 + 0) 119 [(vi y20.2.1), (vb y20.2.2)] :: .blk (b4 + 2) 96 [(vi x1.Form.Period), (vi x1.Form.Count), (vl (cL Span.cs) x1.Form.Core), (vl Granule.cs x1.Form.Odd), (vl size_spot.cs x1.spots)] :: T3)) ⟨⟨rfl, rfl, rfl, rfl, trivial⟩, H⟩ ?_) ?_
             ·intro s5 e σ hI z h
              obtain ⟨he, H⟩ := hI
              obtain ⟨e, rfl⟩ := he.ex
              unfold size_far.s4 at h
              apply Runs.then
              refine Runs.regionH 1 rfl H ?_; intro b44 σ H
              refine Ops.int (m := s5.2.1) (m' := s5.1) (r := .bool (decide (s5.2.1 < s5.1))) rfl rfl rfl rfl rfl ?_
              apply Ops.nil
              replace H := H.all
              apply Runs.then
              refine Runs.whether (v := (decide (s5.2.1 < s5.1))) rfl ?_ ?_ <;> intro hc16
              ·replace h := cond_T hc16 h
               apply Runs.skip
               apply Runs.then
               obtain ⟨y21, hj21, h⟩ := bind_some h
               refine Runs.mono (Q := fun x e σ => x = .normal ∧ EnvHas e [(0, (.ptr (b8 + 0) 2 0)), (6, (.buf (b42 + 6) 1 1)), (7, (vi s5.1)), (8, (vi s5.2.1))] ∧ Hs σ (.sl (.buf (b42 + 6) 1 1) 3 1 (s5.2.2.1.map (cI .i64)) true :: .blk (b25 + 2) 76 [(vi x5.Index), (vl Span.cs x5.Ticks)] :: .blk (b8 + 0) 119 [(vi y21.1), (vb y21.2)] :: .blk (b4 + 2) 96 [(vi x1.Form.Period), (vi x1.Form.Count), (vl (cL Span.cs) x1.Form.Core), (vl Granule.cs x1.Form.Odd), (vl size_spot.cs x1.spots)] :: T3)) ?_ ?_
               ·replace h := hj21
                apply Runs.inBlock
                obtain ⟨y22, hj22, h⟩ := bind_some h
                refine Runs.mono (Q := fun x e σ => x = .normal ∧ EnvHas e [(0, (.ptr (b8 + 0) 2 0)), (6, (.buf (b42 + 6) 1 1)), (7, (vi s5.1)), (8, (vi s5.2.1))] ∧ Hs σ (.sl (.buf (b42 + 6) 1 1) 3 1 (s5.2.2.1.map (cI .i64)) true :: .blk (b25 + 2) 76 [(vi x5.Index), (vl Span.cs x5.Ticks)] :: .blk (b8 + 0) 119 [(vi y22.1), (vb y22.2)] :: .blk (b4 + 2) 96 [(vi x1.Form.Period), (vi x1.Form.Count), (vl (cL Span.cs) x1.Form.Core), (vl Granule.cs x1.Form.Odd), (vl size_spot.cs x1.spots)] :: T3)) ?_ ?_
                ·replace h := hj22
                 apply Runs.then
                 refine Runs.regionH 3 rfl H ?_; intro b45 σ H
                 obtain ⟨x10, q10, h⟩ := bind_some h
                 refine Ops.indexS H 0 rfl rfl rfl (at?_map q10) rfl rfl nofun rfl ?_; intro id3 hv3
                 refine Ops.loadS (id := id3) (j := 0) (w := (.int .i64 x10)) H 0 rfl hv3 (by simp) (at?_map q10) rfl (by simp) rfl rfl rfl nofun rfl ?_
                 refine Ops.assign (v := (vi x10)) rfl rfl ?_
                 apply Ops.nil
                 replace H := H.all
                 apply Runs.then
                 refine Runs.regionH 13 rfl H ?_; intro b46 σ H
                 refine Ops.move (v := (.ptr (b8 + 0) 2 0)) rfl rfl ?_
                 refine Ops.nilCheckH (off := 0) H 2 rfl rfl rfl nofun rfl ?_
                 refine Ops.fieldAddrH (off := 0) (fo := 1) H 2 rfl rfl rfl rfl rfl nofun rfl ?_
                 refine Ops.loadH (off := 1) (v := (vb s5.2.2.2.2)) H 2 rfl rfl rfl rfl rfl nofun rfl ?_
                 refine Ops.not (b := s5.2.2.2.2) rfl rfl ?_
                 refine Ops.move (v := (vb (!s5.2.2.2.2))) rfl rfl ?_
                 refine Ops.mid 7 (K1 := fun e σ => EnvHas e [(24, (vb ((!s5.2.2.2.2) || (decide (x10 > s5.2.2.2.1))))), (0, (.ptr (b8 + 0) 2 0)), (5, (vi x10)), (6, (.buf (b42 + 6) 1 1)), (7, (vi s5.1)), (8, (vi s5.2.1))] ∧ Has σ (b46 + 13) (b46 + 13) (.sl (.buf (b42 + 6) 1 1) 3 1 (s5.2.2.1.map (cI .i64)) true :: .blk (b25 + 2) 76 [(vi x5.Index), (vl Span.cs x5.Ticks)] :: .blk (b8 + 0) 119 [(vi s5.2.2.2.1), (vb s5.2.2.2.2)] :: .blk (b4 + 2) 96 [(vi x1.Form.Period), (vi x1.Form.Count), (vl (cL Span.cs) x1.Form.Core), (vl Granule.cs x1.Form.Odd), (vl size_spot.cs x1.spots)] :: T3)) rfl ?_ ?_
                 ·refine Ops.split rfl rfl ?_ ?_ <;> intro hc17
                  ·skip
                   refine Ops.pass rfl rfl rfl ?_
                   refine Ops.pass rfl rfl rfl ?_
                   refine Ops.pass rfl rfl rfl ?_
                   refine Ops.pass rfl rfl rfl ?_
                   refine Ops.pass rfl rfl rfl ?_
                   refine Ops.pass rfl rfl rfl ?_
                   refine Ops.pickT (v := (vb true)) rfl rfl rfl ?_
                   apply Ops.nil
                   exact ⟨⟨or_T hc17, rfl, rfl, rfl, rfl, rfl, trivial⟩, H.weak (by omega) (Nat.le_refl _)⟩
                  ·skip
                   refine Ops.wanted rfl rfl ?_
                   refine Ops.move (v := (vi x10)) rfl rfl ?_
                   refine Ops.wanted rfl rfl ?_
                   refine Ops.move (v := (.ptr (b8 + 0) 2 0)) rfl rfl ?_
                   refine Ops.wanted rfl rfl ?_
                   refine Ops.nilCheckH (off := 0) H 2 rfl rfl rfl nofun rfl ?_
                   refine Ops.wanted rfl rfl ?_
                   refine Ops.fieldAddrH (off := 0) (fo := 0) H 2 rfl rfl rfl rfl rfl nofun rfl ?_
                   refine Ops.wanted rfl rfl ?_
                   refine Ops.loadH (off := 0) (v := (vi s5.2.2.2.1)) H 2 rfl rfl rfl rfl rfl nofun rfl ?_
                   refine Ops.wanted rfl rfl ?_
                   refine Ops.int (m := x10) (m' := s5.2.2.2.1) (r := .bool (decide (x10 > s5.2.2.2.1))) rfl rfl rfl rfl rfl ?_
                   refine Ops.pickF (v := (vb (decide (x10 > s5.2.2.2.1)))) rfl rfl rfl ?_
                   apply Ops.nil
                   exact ⟨⟨or_F hc17, rfl, rfl, rfl, rfl, rfl, trivial⟩, H.weak (by omega) (Nat.le_refl _)⟩
                 ·rintro e σ ⟨he, H⟩
                  obtain ⟨e, rfl⟩ := he.ex
                  apply Ops.nil
                  replace H := H.all
                  refine Runs.whether (v := ((!s5.2.2.2.2) || (decide (x10 > s5.2.2.2.1)))) rfl ?_ ?_ <;> intro hc18
                  ·replace h := cond_T hc18 h
                   refine Runs.regionH 9 rfl H ?_; intro b47 σ H
                   refine Ops.move (v := (.ptr (b8 + 0) 2 0)) rfl rfl ?_
                   refine Ops.move (v := (.ptr (b8 + 0) 2 0)) rfl rfl ?_
                   refine Ops.move (v := (vi x10)) rfl rfl ?_
                   refine Ops.nilCheckH (off := 0) H 2 rfl rfl rfl nofun rfl ?_
                   refine Ops.fieldAddrH (off := 0) (fo := 0) H 2 rfl rfl rfl rfl rfl nofun rfl ?_
                   refine Ops.storeH (off := 0) (v := (vi x10)) (ys := [(vi x10)]) (cells' := [(vi x10), (vb s5.2.2.2.2)]) H 2 rfl rfl rfl rfl rfl rfl rfl rfl rfl nofun ?_; intro σ H
                   refine Ops.nilCheckH (off := 0) H 2 rfl rfl rfl nofun rfl ?_
                   refine Ops.fieldAddrH (off := 0) (fo := 1) H 2 rfl rfl rfl rfl rfl nofun rfl ?_
                   refine Ops.storeH (off := 1) (v := (vb true)) (ys := [(vb true)]) (cells' := [(vi x10), (vb true)]) H 2 rfl rfl rfl rfl rfl rfl rfl rfl rfl nofun ?_; intro σ H
                   apply Ops.nil
                   replace H := H.all
                   replace h := Option.some.inj h; subst h
                   exact ⟨rfl, ⟨rfl, rfl, rfl, rfl, trivial⟩, H⟩
                  ·replace h := cond_F hc18 h
                   apply Runs.skip
                   replace h := Option.some.inj h; subst h
                   exact ⟨rfl, ⟨rfl, rfl, rfl, rfl, trivial⟩, H⟩
                ·rintro x e σ ⟨rfl, he, H⟩
                 obtain ⟨e, rfl⟩ := he.ex
                 replace h := Option.some.inj h; subst h
                 exact ⟨rfl, ⟨rfl, rfl, rfl, rfl, trivial⟩, H⟩
               ·rintro x e σ ⟨rfl, he, H⟩
                obtain ⟨e, rfl⟩ := he.ex
                refine Runs.regionH 2 rfl H ?_; intro b48 σ H
                refine Ops.int (m := s5.2.1) (m' := 1) (r := .int .i64 (w64 (s5.2.1 + 1))) rfl rfl rfl rfl rfl ?_
                refine Ops.move (v := (vi (w64 (s5.2.1 + 1)))) rfl rfl ?_
                apply Ops.nil
                replace H := H.all
                replace h := Option.some.inj h; subst h
                exact ⟨rfl, ⟨rfl, rfl, rfl, rfl, trivial⟩, H⟩
              ·replace h := cond_F hc16 h
               apply Runs.exit
               replace h := Option.some.inj h; subst h
               exact ⟨nofun, ⟨rfl, trivial, H⟩⟩
             ·rintro x e σ ⟨rfl, he, H⟩
              obtain ⟨e, rfl⟩ := he.ex
              replace h := Option.some.inj h; subst h
              exact ⟨.inl rfl, _, resD_ok H .nil, _, ⟨rfl, rfl⟩, H⟩
            ·rintro _ _ σ ⟨rfl, rfl⟩ H
             apply Ops.nil
             replace H := H.all
             replace h := Option.some.inj h; subst h
             exact (.inl ⟨_, rfl, rfl, ⟨rfl, rfl, rfl, rfl, rfl, rfl, rfl, rfl, trivial⟩, ((H.erase 1).erase 0)⟩)
           ·replace h := cond_F hc15 h
            apply Runs.skip
            replace h := Option.some.inj h; subst h
            exact (.inl ⟨_, rfl, rfl, ⟨rfl, rfl, rfl, rfl, rfl, rfl, rfl, rfl, trivial⟩, (H.erase 0)⟩)
       ·rintro x e σ (⟨a3, rfl, rfl, he, H⟩ | ⟨a4, rfl, rfl, he, H⟩)
        ·skip
         replace h := jgo h
         obtain ⟨e, rfl⟩ := he.ex
         replace h := Option.some.inj h; subst h
         exact ⟨rfl, ⟨rfl, rfl, rfl, rfl, rfl, rfl, rfl, rfl, trivial⟩, H⟩
        ·skip
         replace h := jret h
         obtain ⟨e, rfl⟩ := he.ex
         replace h := Option.some.inj h; subst h
         exact ⟨rfl, ⟨rfl, rfl, rfl, rfl, rfl, rfl, rfl, rfl, trivial⟩, H⟩
      ·rintro x e σ ⟨rfl, he, H⟩
       obtain ⟨e, rfl⟩ := he.ex
       refine Runs.regionH 2 rfl H ?_; intro b49 σ H
       refine Ops.int (m := s3.1) (m' := 1) (r := .int .i64 (w64 (s3.1 + 1))) rfl rfl rfl rfl rfl ?_
       refine Ops.move (v := (vi (w64 (s3.1 + 1)))) rfl rfl ?_
       apply Ops.nil
       replace H := H.all
       replace h := Option.some.inj h; subst h
       exact ⟨rfl, ⟨rfl, rfl, rfl, rfl, rfl, rfl, rfl, rfl, trivial⟩, H⟩
     ·replace h := cond_F hc8 h
      apply Runs.exit
      replace h := Option.some.inj h; subst h
      exact ⟨nofun, ⟨rfl, ⟨rfl, rfl, trivial⟩, (H.erase 1)⟩⟩
    ·rintro x e σ ⟨rfl, he, H⟩
     obtain ⟨e, rfl⟩ := he.ex
     apply Runs.then
     refine Runs.drawnH 9 rfl (by kernel_rfl) H ?_; intro b50 σ H B50
     refine Ops.move (v := (vi y1)) rfl rfl ?_
     refine Ops.fieldAddrH (off := 0) (fo := 0) H 0 rfl rfl rfl rfl rfl (fun _ => .inl ⟨B50 0 _ rfl _ rfl, nofun⟩) rfl ?_
     refine Ops.loadH (off := 0) (v := (vi y10.1)) H 0 rfl rfl rfl rfl rfl (fun _ => .inl ⟨B50 0 _ rfl _ rfl, nofun⟩) rfl ?_
     refine Ops.int (m := y1) (m' := y10.1) (r := .int .i64 (w64 (y1 * y10.1))) rfl rfl rfl rfl rfl ?_
     refine Ops.fieldAddrH (off := 0) (fo := 1) H 0 rfl rfl rfl rfl rfl (fun _ => .inl ⟨B50 0 _ rfl _ rfl, nofun⟩) rfl ?_
     refine Ops.loadH (off := 1) (v := (vb y10.2)) H 0 rfl rfl rfl rfl rfl (fun _ => .inl ⟨B50 0 _ rfl _ rfl, nofun⟩) rfl ?_
     refine Ops.assign (v := (vi (w64 (y1 * y10.1)))) rfl rfl ?_
     refine Ops.assign (v := (vb y10.2)) rfl rfl ?_
     refine Ops.assign (v := (vi 0)) rfl rfl ?_
     apply Ops.nil
     replace H := H.all
     apply Runs.ret
     replace h := Option.some.inj h; subst h
     exact (Ends.H (xs := [(vi (w64 (y1 * y10.1))), (vb y10.2), (vi 0)]) (.inr rfl) H (.tmp (v := (vi (w64 (y1 * y10.1)))) rfl (.tmp (v := (vb y10.2)) rfl (.tmp (v := (vi 0)) rfl .nil))) (.two (.cons (.c (.v _)) (.cons (.c (.v _)) (.cons (.c (.v _)) .nil)))))

set_option maxRecDepth 100000 in
set_option maxHeartbeats 4000000 in
theorem size_Down_fn {f : Form} {d : Int} {r : Int × Bool × Int} (h : size_Down f d = some r) : Fn CX 34 [(.agg (vs (Form.cs f))), (vi d)] (.tup [(vi r.1), (vb r.2.1), (vi r.2.2)]) := by
 refine Fn.ends Try.func34 rfl rfl rfl rfl rfl rfl ?_
 have H : Hs (⟨0, fun _ => .none⟩ : Heap) [] := Has.nil (Nat.le_refl _)
 generalize (⟨0, fun _ => .none⟩ : Heap) = σ at H ⊢
 unfold size_Down at h
 apply Runs.then
 refine Runs.regionH 4 rfl H ?_; intro b1 σ H
 refine Ops.boxH (v := (.agg [(vi f.Period), (vi f.Count), (vl (cL Span.cs) f.Core), (vl Granule.cs f.Odd)])) (cs := [(vi f.Period), (vi f.Count), (vl (cL Span.cs) f.Core), (vl Granule.cs f.Odd)]) H (by omega) (by omega) rfl rfl rfl ?_; intro σ H
 refine Ops.assign (v := (vi 0)) rfl rfl ?_
 refine Ops.assign (v := (vb false)) rfl rfl ?_
 refine Ops.assign (v := (vi 0)) rfl rfl ?_
 apply Ops.nil
 replace H := H.all
 apply Runs.then
 refine Runs.regionH 9 rfl H ?_; intro b2 σ H
 refine Ops.loadHA (off := 0) (cs := [(vi f.Period), (vi f.Count), (vl (cL Span.cs) f.Core), (vl Granule.cs f.Odd)]) H 0 rfl rfl rfl rfl rfl rfl rfl nofun rfl ?_
 refine Ops.move (v := (vi d)) rfl rfl ?_
 obtain ⟨x1, q1, h⟩ := bind_some h
 refine Ops.call (ys := [(.agg [(vi f.Period), (vi f.Count), (vl (cL Span.cs) f.Core), (vl Granule.cs f.Odd)]), (vi d), (vb false)]) (r := (.tup [(vi x1.1), (vb x1.2.1), (vi x1.2.2)])) rfl (size_far_fn q1) rfl ?_
 refine Ops.extract (v := (vi x1.1)) rfl rfl rfl ?_
 refine Ops.extract (v := (vb x1.2.1)) rfl rfl rfl ?_
 refine Ops.extract (v := (vi x1.2.2)) rfl rfl rfl ?_
 refine Ops.assign (v := (vi x1.1)) rfl rfl ?_
 refine Ops.assign (v := (vb x1.2.1)) rfl rfl ?_
 refine Ops.assign (v := (vi x1.2.2)) rfl rfl ?_
 apply Ops.nil
 replace H := H.all
 apply Runs.ret
 replace h := Option.some.inj h; subst h
 exact (Ends.H (xs := [(vi x1.1), (vb x1.2.1), (vi x1.2.2)]) (.inr rfl) H (.tmp (v := (vi x1.1)) rfl (.tmp (v := (vb x1.2.1)) rfl (.tmp (v := (vi x1.2.2)) rfl .nil))) (.two (.cons (.c (.v _)) (.cons (.c (.v _)) (.cons (.c (.v _)) .nil)))))

set_option maxRecDepth 100000 in
set_option maxHeartbeats 4000000 in
theorem carry_asked_reached_fn {a : carry_asked} {gap : Int} {r : Bool} (h : carry_asked_reached a gap = some r) : Fn CX 46 [(.agg (vs (carry_asked.cs a))), (vi gap)] (vb r) := by
 refine Fn.ends Try.func46 rfl rfl rfl rfl rfl rfl ?_
 have H : Hs (⟨0, fun _ => .none⟩ : Heap) [] := Has.nil (Nat.le_refl _)
 generalize (⟨0, fun _ => .none⟩ : Heap) = σ at H ⊢
 unfold carry_asked_reached at h
 apply Runs.then
 refine Runs.regionH 2 rfl H ?_; intro b1 σ H
 refine Ops.boxH (v := (.agg [(vi a.f.Period), (vi a.f.Count), (vl (cL Span.cs) a.f.Core), (vl Granule.cs a.f.Odd), (vi a.m)])) (cs := [(vi a.f.Period), (vi a.f.Count), (vl (cL Span.cs) a.f.Core), (vl Granule.cs a.f.Odd), (vi a.m)]) H (by omega) (by omega) rfl rfl rfl ?_; intro σ H
 refine Ops.assign (v := (vb false)) rfl rfl ?_
 apply Ops.nil
 replace H := H.all
 apply Runs.then
 refine Runs.regionH 12 rfl H ?_; intro b2 σ H
 refine Ops.fieldAddrH (off := 0) (fo := 0) H 0 rfl rfl rfl rfl rfl nofun rfl ?_
 refine Ops.loadHA (off := 0) (cs := [(vi a.f.Period), (vi a.f.Count), (vl (cL Span.cs) a.f.Core), (vl Granule.cs a.f.Odd)]) H 0 rfl rfl rfl rfl rfl rfl rfl nofun rfl ?_
 refine Ops.move (v := (vi gap)) rfl rfl ?_
 refine Ops.int (m := gap) (m' := 1099511627776) (r := .int .i64 (w64 (gap - 1099511627776))) rfl rfl rfl rfl rfl ?_
 obtain ⟨x1, q1, h⟩ := bind_some h
 refine Ops.call (ys := [(.agg [(vi a.f.Period), (vi a.f.Count), (vl (cL Span.cs) a.f.Core), (vl Granule.cs a.f.Odd)]), (vi (w64 (gap - 1099511627776)))]) (r := (.tup [(vi x1.1), (vb x1.2.1), (vi x1.2.2)])) rfl (size_Down_fn q1) rfl ?_
 refine Ops.move (v := (.tup [(vi x1.1), (vb x1.2.1), (vi x1.2.2)])) rfl rfl ?_
 refine Ops.extract (v := (vi x1.1)) rfl rfl rfl ?_
 refine Ops.extract (v := (vb x1.2.1)) rfl rfl rfl ?_
 refine Ops.extract (v := (vi x1.2.2)) rfl rfl rfl ?_
 refine Ops.assign (v := (vi x1.1)) rfl rfl ?_
 refine Ops.assign (v := (vb x1.2.1)) rfl rfl ?_
 refine Ops.assign (v := (vi x1.2.2)) rfl rfl ?_
 apply Ops.nil
 replace H := H.all
 apply Runs.then
 refine Runs.regionH 12 rfl H ?_; intro b3 σ H
 refine Ops.move (v := (vb x1.2.1)) rfl rfl ?_
 refine Ops.move (v := (vb x1.2.1)) rfl rfl ?_
 refine Ops.mid 3 (K1 := fun e σ => EnvHas e [(21, (vb (x1.2.1 && (x1.2.2 == 0)))), (2, (.ptr (b1 + 0) 5 0)), (5, (vi x1.1))] ∧ Has σ (b3 + 5) (b3 + 12) [.blk (b1 + 0) 82 [(vi a.f.Period), (vi a.f.Count), (vl (cL Span.cs) a.f.Core), (vl Granule.cs a.f.Odd), (vi a.m)]]) rfl ?_ ?_
 ·refine Ops.split rfl rfl ?_ ?_ <;> intro hc1
  ·skip
   refine Ops.wanted rfl rfl ?_
   refine Ops.move (v := (vi x1.2.2)) rfl rfl ?_
   refine Ops.wanted rfl rfl ?_
   refine Ops.int (m := x1.2.2) (m' := 0) (r := .bool (x1.2.2 == 0)) rfl rfl rfl rfl rfl ?_
   refine Ops.pickT (v := (vb (x1.2.2 == 0))) rfl rfl rfl ?_
   apply Ops.nil
   exact ⟨⟨and_T hc1, rfl, rfl, trivial⟩, H.weak (by omega) (Nat.le_refl _)⟩
  ·skip
   refine Ops.pass rfl rfl rfl ?_
   refine Ops.pass rfl rfl rfl ?_
   refine Ops.pickF (v := (vb false)) rfl rfl rfl ?_
   apply Ops.nil
   exact ⟨⟨and_F hc1, rfl, rfl, trivial⟩, H.weak (by omega) (Nat.le_refl _)⟩
 ·rintro e σ ⟨he, H⟩
  obtain ⟨e, rfl⟩ := he.ex
  refine Ops.move (v := (vb (x1.2.1 && (x1.2.2 == 0)))) rfl rfl ?_
  refine Ops.mid 5 (K1 := fun e σ => EnvHas e [(27, (vb ((x1.2.1 && (x1.2.2 == 0)) && (decide (x1.1 ≥ a.m)))))] ∧ Has σ (b3 + 11) (b3 + 12) []) rfl ?_ ?_
  ·refine Ops.split rfl rfl ?_ ?_ <;> intro hc2
   ·skip
    refine Ops.wanted rfl rfl ?_
    refine Ops.move (v := (vi x1.1)) rfl rfl ?_
    refine Ops.wanted rfl rfl ?_
    refine Ops.fieldAddrH (off := 0) (fo := 4) H 0 rfl rfl rfl rfl rfl nofun rfl ?_
    refine Ops.wanted rfl rfl ?_
    refine Ops.loadH (off := 4) (v := (vi a.m)) H 0 rfl rfl rfl rfl rfl nofun rfl ?_
    refine Ops.wanted rfl rfl ?_
    refine Ops.int (m := x1.1) (m' := a.m) (r := .bool (decide (x1.1 ≥ a.m))) rfl rfl rfl rfl rfl ?_
    refine Ops.pickT (v := (vb (decide (x1.1 ≥ a.m)))) rfl rfl rfl ?_
    apply Ops.nil
    exact ⟨⟨and_T hc2, trivial⟩, (H.erase 0).weak (by omega) (Nat.le_refl _)⟩
   ·skip
    refine Ops.pass rfl rfl rfl ?_
    refine Ops.pass rfl rfl rfl ?_
    refine Ops.pass rfl rfl rfl ?_
    refine Ops.pass rfl rfl rfl ?_
    refine Ops.pickF (v := (vb false)) rfl rfl rfl ?_
    apply Ops.nil
    exact ⟨⟨and_F hc2, trivial⟩, (H.erase 0).weak (by omega) (Nat.le_refl _)⟩
  ·rintro e σ ⟨he, H⟩
   obtain ⟨e, rfl⟩ := he.ex
   refine Ops.assign (v := (vb ((x1.2.1 && (x1.2.2 == 0)) && (decide (x1.1 ≥ a.m))))) rfl rfl ?_
   apply Ops.nil
   replace H := H.all
   apply Runs.ret
   replace h := Option.some.inj h; subst h
   exact (Ends.H (xs := [(vb ((x1.2.1 && (x1.2.2 == 0)) && (decide (x1.1 ≥ a.m))))]) (.inr rfl) H (.tmp (v := (vb ((x1.2.1 && (x1.2.2 == 0)) && (decide (x1.1 ≥ a.m))))) rfl .nil) (.one (.c (.v _))))

set_option maxRecDepth 100000 in
set_option maxHeartbeats 4000000 in
theorem carry_Low_fn {f : Form} {m : Int} {r : Bound} (h : carry_Low f m = some r) : Fn CX 17 [(.agg (vs (Form.cs f))), (vi m)] (.agg (vs (Bound.cs r))) := by
 refine Fn.ends Try.func17 rfl rfl rfl rfl rfl rfl ?_
 have H : Hs (⟨0, fun _ => .none⟩ : Heap) [] := Has.nil (Nat.le_refl _)
 generalize (⟨0, fun _ => .none⟩ : Heap) = σ at H ⊢
 unfold carry_Low at h
 apply Runs.then
 refine Runs.regionH 2 rfl H ?_; intro b1 σ H
 refine Ops.boxH (v := (.agg [(vi f.Period), (vi f.Count), (vl (cL Span.cs) f.Core), (vl Granule.cs f.Odd)])) (cs := [(vi f.Period), (vi f.Count), (vl (cL Span.cs) f.Core), (vl Granule.cs f.Odd)]) H (by omega) (by omega) rfl rfl rfl ?_; intro σ H
 refine Ops.allocH (cs := [(.v (.int .i8 0)), (vi 0)]) H (by omega) (by omega) rfl rfl ?_; intro σ H
 apply Ops.nil
 replace H := H.all
 apply Runs.then
 refine Runs.regionH 7 rfl H ?_; intro b2 σ H
 refine Ops.loadHA (off := 0) (cs := [(vi f.Period), (vi f.Count), (vl (cL Span.cs) f.Core), (vl Granule.cs f.Odd)]) H 1 rfl rfl rfl rfl rfl rfl rfl nofun rfl ?_
 refine Ops.move (v := (vi m)) rfl rfl ?_
 refine Ops.max2 rfl rfl rfl ?_
 refine Ops.min2 rfl rfl rfl ?_
 refine Ops.buildA (cs := [(vi f.Period), (vi f.Count), (vl (cL Span.cs) f.Core), (vl Granule.cs f.Odd), (vi (iMin (iMax m (-4611686018427387904)) 4611686018427387904))]) rfl rfl ?_
 refine Ops.allocH (cs := [(vi 0), (vi 0), .nils, .nils, (vi 0)]) H (by omega) (by omega) rfl rfl ?_; intro σ H
 refine Ops.storeH (off := 0) (v := (.agg [(vi f.Period), (vi f.Count), (vl (cL Span.cs) f.Core), (vl Granule.cs f.Odd), (vi (iMin (iMax m (-4611686018427387904)) 4611686018427387904))])) (ys := [(vi f.Period), (vi f.Count), (vl (cL Span.cs) f.Core), (vl Granule.cs f.Odd), (vi (iMin (iMax m (-4611686018427387904)) 4611686018427387904))]) (cells' := [(vi f.Period), (vi f.Count), (vl (cL Span.cs) f.Core), (vl Granule.cs f.Odd), (vi (iMin (iMax m (-4611686018427387904)) 4611686018427387904))]) H 0 rfl rfl rfl rfl rfl rfl rfl rfl rfl nofun ?_; intro σ H
 apply Ops.nil
 replace H := H.all
 apply Runs.then
 refine Runs.regionH 6 rfl H ?_; intro b3 σ H
 refine Ops.loadHA (off := 0) (cs := [(vi f.Period), (vi f.Count), (vl (cL Span.cs) f.Core), (vl Granule.cs f.Odd), (vi (iMin (iMax m (-4611686018427387904)) 4611686018427387904))]) H 0 rfl rfl rfl rfl rfl rfl rfl nofun rfl ?_
 refine Ops.makeClo (fs := [(.agg [(vi f.Period), (vi f.Count), (vl (cL Span.cs) f.Core), (vl Granule.cs f.Odd), (vi (iMin (iMax m (-4611686018427387904)) 4611686018427387904))])]) (cs := []) rfl rfl rfl rfl ?_
 obtain ⟨x1, q1, h⟩ := bind_some h
 refine Ops.callH (ys := [(vi 2199023255553), (.clo 46 [(.agg [(vi f.Period), (vi f.Count), (vl (cL Span.cs) f.Core), (vl Granule.cs f.Odd), (vi (iMin (iMax m (-4611686018427387904)) 4611686018427387904))])] [])]) (r := (vi x1)) H rfl (sort_Search_fn (C := []) rfl (fun _ => rfl) (fun z0 y hz => (CloH.clo (Fn.toH (carry_asked_reached_fn hz) _))) q1) .nil nofun rfl ?_; intro σ H
 refine Ops.min2 rfl rfl rfl ?_
 refine Ops.int (m := (iMin x1 2199023255552)) (m' := 1099511627776) (r := .int .i64 (w64 ((iMin x1 2199023255552) - 1099511627776))) rfl rfl rfl rfl rfl ?_
 refine Ops.assign (v := (vi (w64 ((iMin x1 2199023255552) - 1099511627776)))) rfl rfl ?_
 apply Ops.nil
 replace H := H.all
 apply Runs.then
 apply Runs.then
 refine Runs.regionH 2 rfl H ?_; intro b4 σ H
 refine Ops.move (v := (vi (w64 ((iMin x1 2199023255552) - 1099511627776)))) rfl rfl ?_
 refine Ops.int (m := (w64 ((iMin x1 2199023255552) - 1099511627776))) (m' := (-1099511627776)) (r := .bool ((w64 ((iMin x1 2199023255552) - 1099511627776)) == (-1099511627776))) rfl rfl rfl rfl rfl ?_
 apply Ops.nil
 replace H := H.all
 refine Runs.whether (v := ((w64 ((iMin x1 2199023255552) - 1099511627776)) == (-1099511627776))) rfl ?_ ?_ <;> intro hc1
 ·replace h := cond_T hc1 h
  apply Runs.then
  refine Runs.regionH 2 rfl H ?_; intro b5 σ H
  refine Ops.buildA (cs := [(.v (.int .i8 (-1))), (vi 0)]) rfl rfl ?_
  refine Ops.storeH (off := 0) (v := (.agg [(.v (.int .i8 (-1))), (vi 0)])) (ys := [(.v (.int .i8 (-1))), (vi 0)]) (cells' := [(.v (.int .i8 (-1))), (vi 0)]) H 1 rfl rfl rfl rfl rfl rfl rfl rfl rfl nofun ?_; intro σ H
  apply Ops.nil
  replace H := H.all
  apply Runs.ret
  replace h := Option.some.inj h; subst h
  exact (Ends.H (xs := [(.agg [(.v (.int .i8 (-1))), (vi 0)])]) (.inr rfl) H (.agg (cs := [(.v (.int .i8 (-1))), (vi 0)]) (off := 0) 1 rfl rfl rfl rfl rfl rfl rfl .nil) (.one (.p rfl)))
 ·replace h := cond_F hc1 h
  apply Runs.skip
  apply Runs.then
  refine Runs.regionH 3 rfl H ?_; intro b6 σ H
  refine Ops.move (v := (vi (w64 ((iMin x1 2199023255552) - 1099511627776)))) rfl rfl ?_
  refine Ops.buildA (cs := [(.v (.int .i8 0)), (vi (w64 ((iMin x1 2199023255552) - 1099511627776)))]) rfl rfl ?_
  refine Ops.storeH (off := 0) (v := (.agg [(.v (.int .i8 0)), (vi (w64 ((iMin x1 2199023255552) - 1099511627776)))])) (ys := [(.v (.int .i8 0)), (vi (w64 ((iMin x1 2199023255552) - 1099511627776)))]) (cells' := [(.v (.int .i8 0)), (vi (w64 ((iMin x1 2199023255552) - 1099511627776)))]) H 1 rfl rfl rfl rfl rfl rfl rfl rfl rfl nofun ?_; intro σ H
  apply Ops.nil
  replace H := H.all
  apply Runs.ret
  replace h := Option.some.inj h; subst h
  exact (Ends.H (xs := [(.agg [(.v (.int .i8 0)), (vi (w64 ((iMin x1 2199023255552) - 1099511627776)))])]) (.inr rfl) H (.agg (cs := [(.v (.int .i8 0)), (vi (w64 ((iMin x1 2199023255552) - 1099511627776)))]) (off := 0) 1 rfl rfl rfl rfl rfl rfl rfl .nil) (.one (.p rfl)))

set_option maxRecDepth 100000 in
set_option maxHeartbeats 4000000 in
theorem safe_Right_fn {a : Bound} {r : Bool} (h : safe_Right a = r) : Fn CX 23 [(.agg (vs (Bound.cs a)))] (vb r) := by
 refine Fn.ends Try.func23 rfl rfl rfl rfl rfl rfl ?_
 have H : Hs (⟨0, fun _ => .none⟩ : Heap) [] := Has.nil (Nat.le_refl _)
 generalize (⟨0, fun _ => .none⟩ : Heap) = σ at H ⊢
 unfold safe_Right at h
 apply Runs.then
 refine Runs.regionH 2 rfl H ?_; intro b1 σ H
 refine Ops.boxH (v := (.agg [(.v (.int .i8 a.Inf)), (vi a.N)])) (cs := [(.v (.int .i8 a.Inf)), (vi a.N)]) H (by omega) (by omega) rfl rfl rfl ?_; intro σ H
 refine Ops.assign (v := (vb false)) rfl rfl ?_
 apply Ops.nil
 replace H := H.all
 apply Runs.then
 refine Runs.regionH 19 rfl H ?_; intro b2 σ H
 refine Ops.fieldAddrH (off := 0) (fo := 0) H 0 rfl rfl rfl rfl rfl nofun rfl ?_
 refine Ops.loadH (off := 0) (v := (.v (.int .i8 a.Inf))) H 0 rfl rfl rfl rfl rfl nofun rfl ?_
 refine Ops.int (m := a.Inf) (m' := 0) (r := .bool (a.Inf == 0)) rfl rfl rfl rfl rfl ?_
 refine Ops.move (v := (vb (a.Inf == 0))) rfl rfl ?_
 refine Ops.mid 14 (K1 := fun e σ => EnvHas e [(20, (vb ((a.Inf == 0) || (((a.Inf == 1) || (a.Inf == (-1))) && (a.N == 0)))))] ∧ Has σ (b2 + 18) (b2 + 19) []) rfl ?_ ?_
 ·refine Ops.split rfl rfl ?_ ?_ <;> intro hc1
  ·skip
   refine Ops.pass rfl rfl rfl ?_
   refine Ops.pass rfl rfl rfl ?_
   refine Ops.pass rfl rfl rfl ?_
   refine Ops.pass rfl rfl rfl ?_
   refine Ops.passU rfl rfl rfl ?_
   refine Ops.passU rfl rfl rfl ?_
   refine Ops.passU rfl rfl rfl ?_
   refine Ops.pass rfl rfl rfl ?_
   refine Ops.pass rfl rfl rfl ?_
   refine Ops.passU rfl rfl rfl ?_
   refine Ops.passU rfl rfl rfl ?_
   refine Ops.passU rfl rfl rfl ?_
   refine Ops.pass rfl rfl rfl ?_
   refine Ops.pickT (v := (vb true)) rfl rfl rfl ?_
   apply Ops.nil
   exact ⟨⟨or_T hc1, trivial⟩, (H.erase 0).weak (by omega) (Nat.le_refl _)⟩
  ·skip
   refine Ops.wanted rfl rfl ?_
   refine Ops.fieldAddrH (off := 0) (fo := 0) H 0 rfl rfl rfl rfl rfl nofun rfl ?_
   refine Ops.wanted rfl rfl ?_
   refine Ops.loadH (off := 0) (v := (.v (.int .i8 a.Inf))) H 0 rfl rfl rfl rfl rfl nofun rfl ?_
   refine Ops.wanted rfl rfl ?_
   refine Ops.int (m := a.Inf) (m' := 1) (r := .bool (a.Inf == 1)) rfl rfl rfl rfl rfl ?_
   refine Ops.wanted rfl rfl ?_
   refine Ops.move (v := (vb (a.Inf == 1))) rfl rfl ?_
   refine Ops.mid 4 (K1 := fun e σ => EnvHas e [(14, (vb ((a.Inf == 1) || (a.Inf == (-1))))), (1, (.ptr (b1 + 0) 2 0)), (6, (vb false))] ∧ Has σ (b2 + 12) (b2 + 19) [.blk (b1 + 0) 32 [(.v (.int .i8 a.Inf)), (vi a.N)]]) rfl ?_ ?_
   ·refine Ops.split rfl rfl ?_ ?_ <;> intro hc2
    ·skip
     refine Ops.pass rfl rfl rfl ?_
     refine Ops.pass rfl rfl rfl ?_
     refine Ops.pass rfl rfl rfl ?_
     refine Ops.wanted rfl rfl ?_
     refine Ops.pickT (v := (vb true)) rfl rfl rfl ?_
     apply Ops.nil
     exact ⟨⟨or_T hc2, rfl, rfl, trivial⟩, H.weak (by omega) (Nat.le_refl _)⟩
    ·skip
     refine Ops.wanted rfl rfl ?_
     refine Ops.fieldAddrH (off := 0) (fo := 0) H 0 rfl rfl rfl rfl rfl nofun rfl ?_
     refine Ops.wanted rfl rfl ?_
     refine Ops.loadH (off := 0) (v := (.v (.int .i8 a.Inf))) H 0 rfl rfl rfl rfl rfl nofun rfl ?_
     refine Ops.wanted rfl rfl ?_
     refine Ops.int (m := a.Inf) (m' := (-1)) (r := .bool (a.Inf == (-1))) rfl rfl rfl rfl rfl ?_
     refine Ops.wanted rfl rfl ?_
     refine Ops.pickF (v := (vb (a.Inf == (-1)))) rfl rfl rfl ?_
     apply Ops.nil
     exact ⟨⟨or_F hc2, rfl, rfl, trivial⟩, H.weak (by omega) (Nat.le_refl _)⟩
   ·rintro e σ ⟨he, H⟩
    obtain ⟨e, rfl⟩ := he.ex
    refine Ops.wanted rfl rfl ?_
    refine Ops.move (v := (vb ((a.Inf == 1) || (a.Inf == (-1))))) rfl rfl ?_
    refine Ops.mid 4 (K1 := fun e σ => EnvHas e [(19, (vb (((a.Inf == 1) || (a.Inf == (-1))) && (a.N == 0)))), (6, (vb false))] ∧ Has σ (b2 + 17) (b2 + 19) []) rfl ?_ ?_
    ·refine Ops.split rfl rfl ?_ ?_ <;> intro hc3
     ·skip
      refine Ops.wanted rfl rfl ?_
      refine Ops.fieldAddrH (off := 0) (fo := 1) H 0 rfl rfl rfl rfl rfl nofun rfl ?_
      refine Ops.wanted rfl rfl ?_
      refine Ops.loadH (off := 1) (v := (vi a.N)) H 0 rfl rfl rfl rfl rfl nofun rfl ?_
      refine Ops.wanted rfl rfl ?_
      refine Ops.int (m := a.N) (m' := 0) (r := .bool (a.N == 0)) rfl rfl rfl rfl rfl ?_
      refine Ops.wanted rfl rfl ?_
      refine Ops.pickT (v := (vb (a.N == 0))) rfl rfl rfl ?_
      apply Ops.nil
      exact ⟨⟨and_T hc3, rfl, trivial⟩, (H.erase 0).weak (by omega) (Nat.le_refl _)⟩
     ·skip
      refine Ops.pass rfl rfl rfl ?_
      refine Ops.pass rfl rfl rfl ?_
      refine Ops.pass rfl rfl rfl ?_
      refine Ops.wanted rfl rfl ?_
      refine Ops.pickF (v := (vb false)) rfl rfl rfl ?_
      apply Ops.nil
      exact ⟨⟨and_F hc3, rfl, trivial⟩, (H.erase 0).weak (by omega) (Nat.le_refl _)⟩
    ·rintro e σ ⟨he, H⟩
     obtain ⟨e, rfl⟩ := he.ex
     refine Ops.pickF (v := (vb (((a.Inf == 1) || (a.Inf == (-1))) && (a.N == 0)))) rfl rfl rfl ?_
     apply Ops.nil
     exact ⟨⟨or_F hc1, trivial⟩, H.weak (by omega) (Nat.le_refl _)⟩
 ·rintro e σ ⟨he, H⟩
  obtain ⟨e, rfl⟩ := he.ex
  refine Ops.assign (v := (vb ((a.Inf == 0) || (((a.Inf == 1) || (a.Inf == (-1))) && (a.N == 0))))) rfl rfl ?_
  apply Ops.nil
  replace H := H.all
  apply Runs.ret
  subst h
  exact (Ends.H (xs := [(vb ((a.Inf == 0) || (((a.Inf == 1) || (a.Inf == (-1))) && (a.N == 0))))]) (.inr rfl) H (.tmp (v := (vb ((a.Inf == 0) || (((a.Inf == 1) || (a.Inf == (-1))) && (a.N == 0))))) rfl .nil) (.one (.c (.v _))))

set_option maxRecDepth 100000 in
set_option maxHeartbeats 4000000 in
theorem safe_Sub_fn {a : Int} {b : Int} {r : Int × Int} (h : safe_Sub a b = r) : Fn CX 47 [(vi a), (vi b)] (.tup [(vi r.1), (vi r.2)]) := by
 refine Fn.ends Try.func47 rfl rfl rfl rfl rfl rfl ?_
 have H : Hs (⟨0, fun _ => .none⟩ : Heap) [] := Has.nil (Nat.le_refl _)
 generalize (⟨0, fun _ => .none⟩ : Heap) = σ at H ⊢
 unfold safe_Sub at h
 apply Runs.then
 refine Runs.regionH 2 rfl H ?_; intro b1 σ H
 refine Ops.assign (v := (vi 0)) rfl rfl ?_
 refine Ops.assign (v := (vi 0)) rfl rfl ?_
 apply Ops.nil
 replace H := H.all
 apply Runs.then
 refine Runs.regionH 4 rfl H ?_; intro b2 σ H
 refine Ops.move (v := (vi a)) rfl rfl ?_
 refine Ops.move (v := (vi b)) rfl rfl ?_
 refine Ops.int (m := a) (m' := b) (r := .int .i64 (w64 (a - b))) rfl rfl rfl rfl rfl ?_
 refine Ops.assign (v := (vi (w64 (a - b)))) rfl rfl ?_
 apply Ops.nil
 replace H := H.all
 apply Runs.then
 apply Runs.then
 refine Runs.regionH 10 rfl H ?_; intro b3 σ H
 refine Ops.move (v := (vi (w64 (a - b)))) rfl rfl ?_
 refine Ops.move (v := (vi a)) rfl rfl ?_
 refine Ops.int (m := (w64 (a - b))) (m' := a) (r := .bool (decide ((w64 (a - b)) < a))) rfl rfl rfl rfl rfl ?_
 refine Ops.move (v := (vi b)) rfl rfl ?_
 refine Ops.int (m := b) (m' := 0) (r := .bool (decide (b > 0))) rfl rfl rfl rfl rfl ?_
 refine Ops.neB (b := (decide ((w64 (a - b)) < a))) (b' := (decide (b > 0))) rfl rfl rfl rfl ?_
 refine Ops.move (v := (vb ((decide ((w64 (a - b)) < a)) != (decide (b > 0))))) rfl rfl ?_
 refine Ops.mid 3 (K1 := fun e σ => EnvHas e [(19, (vb (((decide ((w64 (a - b)) < a)) != (decide (b > 0))) && (b != 0)))), (6, (vi (w64 (a - b))))] ∧ Has σ (b3 + 10) (b3 + 10) []) rfl ?_ ?_
 ·refine Ops.split rfl rfl ?_ ?_ <;> intro hc1
  ·skip
   refine Ops.wanted rfl rfl ?_
   refine Ops.move (v := (vi b)) rfl rfl ?_
   refine Ops.wanted rfl rfl ?_
   refine Ops.int (m := b) (m' := 0) (r := .bool (b != 0)) rfl rfl rfl rfl rfl ?_
   refine Ops.pickT (v := (vb (b != 0))) rfl rfl rfl ?_
   apply Ops.nil
   exact ⟨⟨and_T hc1, rfl, trivial⟩, H.weak (by omega) (Nat.le_refl _)⟩
  ·skip
   refine Ops.pass rfl rfl rfl ?_
   refine Ops.pass rfl rfl rfl ?_
   refine Ops.pickF (v := (vb false)) rfl rfl rfl ?_
   apply Ops.nil
   exact ⟨⟨and_F hc1, rfl, trivial⟩, H.weak (by omega) (Nat.le_refl _)⟩
 ·rintro e σ ⟨he, H⟩
  obtain ⟨e, rfl⟩ := he.ex
  apply Ops.nil
  replace H := H.all
  refine Runs.whether (v := (((decide ((w64 (a - b)) < a)) != (decide (b > 0))) && (b != 0))) rfl ?_ ?_ <;> intro hc2
  ·replace h := cond_T hc2 h
   apply Runs.then
   refine Runs.regionH 2 rfl H ?_; intro b4 σ H
   refine Ops.assign (v := (vi 0)) rfl rfl ?_
   refine Ops.assign (v := (vi 10)) rfl rfl ?_
   apply Ops.nil
   replace H := H.all
   apply Runs.ret
   subst h
   exact (Ends.H (xs := [(vi 0), (vi 10)]) (.inr rfl) H (.tmp (v := (vi 0)) rfl (.tmp (v := (vi 10)) rfl .nil)) (.two (.cons (.c (.v _)) (.cons (.c (.v _)) .nil))))
  ·replace h := cond_F hc2 h
   apply Runs.skip
   apply Runs.then
   refine Runs.regionH 3 rfl H ?_; intro b5 σ H
   refine Ops.move (v := (vi (w64 (a - b)))) rfl rfl ?_
   refine Ops.assign (v := (vi (w64 (a - b)))) rfl rfl ?_
   refine Ops.assign (v := (vi 0)) rfl rfl ?_
   apply Ops.nil
   replace H := H.all
   apply Runs.ret
   subst h
   exact (Ends.H (xs := [(vi (w64 (a - b))), (vi 0)]) (.inr rfl) H (.tmp (v := (vi (w64 (a - b)))) rfl (.tmp (v := (vi 0)) rfl .nil)) (.two (.cons (.c (.v _)) (.cons (.c (.v _)) .nil))))

set_option maxRecDepth 100000 in
set_option maxHeartbeats 4000000 in
theorem safe_Minus_fn {a : Bound} {r : Bound × Int} (h : safe_Minus a = r) : Fn CX 20 [(.agg (vs (Bound.cs a)))] (.tup [(.agg (vs (Bound.cs r.1))), (vi r.2)]) := by
 refine Fn.ends Try.func20 rfl rfl rfl rfl rfl rfl ?_
 have H : Hs (⟨0, fun _ => .none⟩ : Heap) [] := Has.nil (Nat.le_refl _)
 generalize (⟨0, fun _ => .none⟩ : Heap) = σ at H ⊢
 unfold safe_Minus at h
 apply Runs.then
 refine Runs.regionH 3 rfl H ?_; intro b1 σ H
 refine Ops.boxH (v := (.agg [(.v (.int .i8 a.Inf)), (vi a.N)])) (cs := [(.v (.int .i8 a.Inf)), (vi a.N)]) H (by omega) (by omega) rfl rfl rfl ?_; intro σ H
 refine Ops.allocH (cs := [(.v (.int .i8 0)), (vi 0)]) H (by omega) (by omega) rfl rfl ?_; intro σ H
 refine Ops.assign (v := (vi 0)) rfl rfl ?_
 apply Ops.nil
 replace H := H.all
 apply Runs.then
 apply Runs.then
 refine Runs.regionH 3 rfl H ?_; intro b2 σ H
 refine Ops.loadHA (off := 0) (cs := [(.v (.int .i8 a.Inf)), (vi a.N)]) H 1 rfl rfl rfl rfl rfl rfl rfl nofun rfl ?_
 refine Ops.call (ys := [(.agg [(.v (.int .i8 a.Inf)), (vi a.N)])]) (r := (vb (safe_Right a))) rfl (safe_Right_fn rfl) rfl ?_
 refine Ops.not (b := (safe_Right a)) rfl rfl ?_
 apply Ops.nil
 replace H := H.all
 refine Runs.whether (v := (!(safe_Right a))) rfl ?_ ?_ <;> intro hc1
 ·replace h := cond_T hc1 h
  apply Runs.then
  refine Runs.regionH 3 rfl H ?_; intro b3 σ H
  refine Ops.buildA (cs := [(.v (.int .i8 0)), (vi 0)]) rfl rfl ?_
  refine Ops.storeH (off := 0) (v := (.agg [(.v (.int .i8 0)), (vi 0)])) (ys := [(.v (.int .i8 0)), (vi 0)]) (cells' := [(.v (.int .i8 0)), (vi 0)]) H 0 rfl rfl rfl rfl rfl rfl rfl rfl rfl nofun ?_; intro σ H
  refine Ops.assign (v := (vi 2)) rfl rfl ?_
  apply Ops.nil
  replace H := H.all
  apply Runs.ret
  subst h
  exact (Ends.H (xs := [(.agg [(.v (.int .i8 0)), (vi 0)]), (vi 2)]) (.inr rfl) H (.agg (cs := [(.v (.int .i8 0)), (vi 0)]) (off := 0) 0 rfl rfl rfl rfl rfl rfl rfl (.tmp (v := (vi 2)) rfl .nil)) (.two (.cons (.p rfl) (.cons (.c (.v _)) .nil))))
 ·replace h := cond_F hc1 h
  apply Runs.skip
  apply Runs.then
  refine Runs.regionH 8 rfl H ?_; intro b4 σ H
  refine Ops.fieldAddrH (off := 0) (fo := 1) H 1 rfl rfl rfl rfl rfl nofun rfl ?_
  refine Ops.loadH (off := 1) (v := (vi a.N)) H 1 rfl rfl rfl rfl rfl nofun rfl ?_
  refine Ops.call (ys := [(vi 0), (vi a.N)]) (r := (.tup [(vi (safe_Sub 0 a.N).1), (vi (safe_Sub 0 a.N).2)])) rfl (safe_Sub_fn rfl) rfl ?_
  refine Ops.move (v := (.tup [(vi (safe_Sub 0 a.N).1), (vi (safe_Sub 0 a.N).2)])) rfl rfl ?_
  refine Ops.extract (v := (vi (safe_Sub 0 a.N).1)) rfl rfl rfl ?_
  refine Ops.extract (v := (vi (safe_Sub 0 a.N).2)) rfl rfl rfl ?_
  refine Ops.assign (v := (vi (safe_Sub 0 a.N).1)) rfl rfl ?_
  refine Ops.assign (v := (vi (safe_Sub 0 a.N).2)) rfl rfl ?_
  apply Ops.nil
  replace H := H.all
  apply Runs.then
  apply Runs.then
  refine Runs.regionH 2 rfl H ?_; intro b5 σ H
  refine Ops.move (v := (vi (safe_Sub 0 a.N).2)) rfl rfl ?_
  refine Ops.int (m := (safe_Sub 0 a.N).2) (m' := 0) (r := .bool (((safe_Sub 0 a.N).2) != 0)) rfl rfl rfl rfl rfl ?_
  apply Ops.nil
  replace H := H.all
  refine Runs.whether (v := (((safe_Sub 0 a.N).2) != 0)) rfl ?_ ?_ <;> intro hc2
  ·replace h := cond_T hc2 h
   apply Runs.then
   refine Runs.regionH 4 rfl H ?_; intro b6 σ H
   refine Ops.buildA (cs := [(.v (.int .i8 0)), (vi 0)]) rfl rfl ?_
   refine Ops.move (v := (vi (safe_Sub 0 a.N).2)) rfl rfl ?_
   refine Ops.storeH (off := 0) (v := (.agg [(.v (.int .i8 0)), (vi 0)])) (ys := [(.v (.int .i8 0)), (vi 0)]) (cells' := [(.v (.int .i8 0)), (vi 0)]) H 0 rfl rfl rfl rfl rfl rfl rfl rfl rfl nofun ?_; intro σ H
   refine Ops.assign (v := (vi (safe_Sub 0 a.N).2)) rfl rfl ?_
   apply Ops.nil
   replace H := H.all
   apply Runs.ret
   subst h
   exact (Ends.H (xs := [(.agg [(.v (.int .i8 0)), (vi 0)]), (vi (safe_Sub 0 a.N).2)]) (.inr rfl) H (.agg (cs := [(.v (.int .i8 0)), (vi 0)]) (off := 0) 0 rfl rfl rfl rfl rfl rfl rfl (.tmp (v := (vi (safe_Sub 0 a.N).2)) rfl .nil)) (.two (.cons (.p rfl) (.cons (.c (.v _)) .nil))))
  ·replace h := cond_F hc2 h
   apply Runs.skip
   apply Runs.then
   refine Runs.regionH 7 rfl H ?_; intro b7 σ H
   refine Ops.fieldAddrH (off := 0) (fo := 0) H 1 rfl rfl rfl rfl rfl nofun rfl ?_
   refine Ops.loadH (off := 0) (v := (.v (.int .i8 a.Inf))) H 1 rfl rfl rfl rfl rfl nofun rfl ?_
   refine Ops.neg (m := a.Inf) rfl rfl ?_
   refine Ops.move (v := (vi (safe_Sub 0 a.N).1)) rfl rfl ?_
   refine Ops.buildA (cs := [(.v (.int .i8 (IntKind.i8.wrap (0 - a.Inf)))), (vi (safe_Sub 0 a.N).1)]) rfl rfl ?_
   refine Ops.storeH (off := 0) (v := (.agg [(.v (.int .i8 (IntKind.i8.wrap (0 - a.Inf)))), (vi (safe_Sub 0 a.N).1)])) (ys := [(.v (.int .i8 (IntKind.i8.wrap (0 - a.Inf)))), (vi (safe_Sub 0 a.N).1)]) (cells' := [(.v (.int .i8 (IntKind.i8.wrap (0 - a.Inf)))), (vi (safe_Sub 0 a.N).1)]) H 0 rfl rfl rfl rfl rfl rfl rfl rfl rfl nofun ?_; intro σ H
   refine Ops.assign (v := (vi 0)) rfl rfl ?_
   apply Ops.nil
   replace H := H.all
   apply Runs.ret
   subst h
   exact (Ends.H (xs := [(.agg [(.v (.int .i8 (IntKind.i8.wrap (0 - a.Inf)))), (vi (safe_Sub 0 a.N).1)]), (vi 0)]) (.inr rfl) H (.agg (cs := [(.v (.int .i8 (IntKind.i8.wrap (0 - a.Inf)))), (vi (safe_Sub 0 a.N).1)]) (off := 0) 0 rfl rfl rfl rfl rfl rfl rfl (.tmp (v := (vi 0)) rfl .nil)) (.two (.cons (.p rfl) (.cons (.c (.v _)) .nil))))

set_option maxRecDepth 100000 in
set_option maxHeartbeats 4000000 in
theorem carry_High_fn {f : Form} {n : Int} {r : Bound} (h : carry_High f n = some r) : Fn CX 18 [(.agg (vs (Form.cs f))), (vi n)] (.agg (vs (Bound.cs r))) := by
 refine Fn.ends Try.func18 rfl rfl rfl rfl rfl rfl ?_
 have H : Hs (⟨0, fun _ => .none⟩ : Heap) [] := Has.nil (Nat.le_refl _)
 generalize (⟨0, fun _ => .none⟩ : Heap) = σ at H ⊢
 unfold carry_High at h
 apply Runs.then
 refine Runs.regionH 2 rfl H ?_; intro b1 σ H
 refine Ops.boxH (v := (.agg [(vi f.Period), (vi f.Count), (vl (cL Span.cs) f.Core), (vl Granule.cs f.Odd)])) (cs := [(vi f.Period), (vi f.Count), (vl (cL Span.cs) f.Core), (vl Granule.cs f.Odd)]) H (by omega) (by omega) rfl rfl rfl ?_; intro σ H
 refine Ops.allocH (cs := [(.v (.int .i8 0)), (vi 0)]) H (by omega) (by omega) rfl rfl ?_; intro σ H
 apply Ops.nil
 replace H := H.all
 apply Runs.then
 refine Runs.regionH 12 rfl H ?_; intro b2 σ H
 refine Ops.loadHA (off := 0) (cs := [(vi f.Period), (vi f.Count), (vl (cL Span.cs) f.Core), (vl Granule.cs f.Odd)]) H 1 rfl rfl rfl rfl rfl rfl rfl nofun rfl ?_
 refine Ops.move (v := (vi n)) rfl rfl ?_
 refine Ops.max2 rfl rfl rfl ?_
 refine Ops.neg (m := (iMax n (-4611686018427387904))) rfl rfl ?_
 obtain ⟨x1, q1, h⟩ := bind_some h
 refine Ops.call (ys := [(.agg [(vi f.Period), (vi f.Count), (vl (cL Span.cs) f.Core), (vl Granule.cs f.Odd)]), (vi (w64 (0 - (iMax n (-4611686018427387904)))))]) (r := (.agg [(.v (.int .i8 x1.Inf)), (vi x1.N)])) rfl (carry_Low_fn q1) rfl ?_
 refine Ops.call (ys := [(.agg [(.v (.int .i8 x1.Inf)), (vi x1.N)])]) (r := (.tup [(.agg [(.v (.int .i8 (safe_Minus x1).1.Inf)), (vi (safe_Minus x1).1.N)]), (vi (safe_Minus x1).2)])) rfl (safe_Minus_fn rfl) rfl ?_
 refine Ops.move (v := (.tup [(.agg [(.v (.int .i8 (safe_Minus x1).1.Inf)), (vi (safe_Minus x1).1.N)]), (vi (safe_Minus x1).2)])) rfl rfl ?_
 refine Ops.extract (v := (.agg [(.v (.int .i8 (safe_Minus x1).1.Inf)), (vi (safe_Minus x1).1.N)])) rfl rfl rfl ?_
 refine Ops.extract (v := (vi (safe_Minus x1).2)) rfl rfl rfl ?_
 refine Ops.allocH (cs := [(.v (.int .i8 0)), (vi 0)]) H (by omega) (by omega) rfl rfl ?_; intro σ H
 refine Ops.storeH (off := 0) (v := (.agg [(.v (.int .i8 (safe_Minus x1).1.Inf)), (vi (safe_Minus x1).1.N)])) (ys := [(.v (.int .i8 (safe_Minus x1).1.Inf)), (vi (safe_Minus x1).1.N)]) (cells' := [(.v (.int .i8 (safe_Minus x1).1.Inf)), (vi (safe_Minus x1).1.N)]) H 0 rfl rfl rfl rfl rfl rfl rfl rfl rfl nofun ?_; intro σ H
 refine Ops.assign (v := (vi (safe_Minus x1).2)) rfl rfl ?_
 apply Ops.nil
 replace H := H.all
 apply Runs.then
 refine Runs.regionH 2 rfl H ?_; intro b3 σ H
 refine Ops.loadHA (off := 0) (cs := [(.v (.int .i8 (safe_Minus x1).1.Inf)), (vi (safe_Minus x1).1.N)]) H 0 rfl rfl rfl rfl rfl rfl rfl nofun rfl ?_
 refine Ops.storeH (off := 0) (v := (.agg [(.v (.int .i8 (safe_Minus x1).1.Inf)), (vi (safe_Minus x1).1.N)])) (ys := [(.v (.int .i8 (safe_Minus x1).1.Inf)), (vi (safe_Minus x1).1.N)]) (cells' := [(.v (.int .i8 (safe_Minus x1).1.Inf)), (vi (safe_Minus x1).1.N)]) H 1 rfl rfl rfl rfl rfl rfl rfl rfl rfl nofun ?_; intro σ H
 apply Ops.nil
 replace H := H.all
 apply Runs.ret
 replace h := Option.some.inj h; subst h
 exact (Ends.H (xs := [(.agg [(.v (.int .i8 (safe_Minus x1).1.Inf)), (vi (safe_Minus x1).1.N)])]) (.inr rfl) H (.agg (cs := [(.v (.int .i8 (safe_Minus x1).1.Inf)), (vi (safe_Minus x1).1.N)]) (off := 0) 1 rfl rfl rfl rfl rfl rfl rfl .nil) (.one (.p rfl)))

set_option maxRecDepth 100000 in
set_option maxHeartbeats 4000000 in
theorem carry_Ticks_fn {f : Form} {r' : Range} {r : Bound × Bound} (h : carry_Ticks f r' = some r) : Fn CX 16 [(.agg (vs (Form.cs f))), (.agg (vs (Range.cs r')))] (.tup [(.agg (vs (Bound.cs r.1))), (.agg (vs (Bound.cs r.2)))]) := by
 refine Fn.ends Try.func16 rfl rfl rfl rfl rfl rfl ?_
 have H : Hs (⟨0, fun _ => .none⟩ : Heap) [] := Has.nil (Nat.le_refl _)
 generalize (⟨0, fun _ => .none⟩ : Heap) = σ at H ⊢
 unfold carry_Ticks at h
 apply Runs.then
 refine Runs.regionH 4 rfl H ?_; intro b1 σ H
 refine Ops.boxH (v := (.agg [(vi f.Period), (vi f.Count), (vl (cL Span.cs) f.Core), (vl Granule.cs f.Odd)])) (cs := [(vi f.Period), (vi f.Count), (vl (cL Span.cs) f.Core), (vl Granule.cs f.Odd)]) H (by omega) (by omega) rfl rfl rfl ?_; intro σ H
 refine Ops.boxH (v := (.agg [(vi r'.Low), (vi r'.High), (vb r'.HasLow), (vb r'.HasHigh)])) (cs := [(vi r'.Low), (vi r'.High), (vb r'.HasLow), (vb r'.HasHigh)]) H (by omega) (by omega) rfl rfl rfl ?_; intro σ H
 refine Ops.allocH (cs := [(.v (.int .i8 0)), (vi 0)]) H (by omega) (by omega) rfl rfl ?_; intro σ H
 refine Ops.allocH (cs := [(.v (.int .i8 0)), (vi 0)]) H (by omega) (by omega) rfl rfl ?_; intro σ H
 apply Ops.nil
 replace H := H.all
 apply Runs.then
 refine Runs.regionH 6 rfl H ?_; intro b2 σ H
 refine Ops.buildA (cs := [(.v (.int .i8 (-1))), (vi 0)]) rfl rfl ?_
 refine Ops.buildA (cs := [(.v (.int .i8 1)), (vi 0)]) rfl rfl ?_
 refine Ops.allocH (cs := [(.v (.int .i8 0)), (vi 0)]) H (by omega) (by omega) rfl rfl ?_; intro σ H
 refine Ops.allocH (cs := [(.v (.int .i8 0)), (vi 0)]) H (by omega) (by omega) rfl rfl ?_; intro σ H
 refine Ops.storeH (off := 0) (v := (.agg [(.v (.int .i8 (-1))), (vi 0)])) (ys := [(.v (.int .i8 (-1))), (vi 0)]) (cells' := [(.v (.int .i8 (-1))), (vi 0)]) H 1 rfl rfl rfl rfl rfl rfl rfl rfl rfl nofun ?_; intro σ H
 refine Ops.storeH (off := 0) (v := (.agg [(.v (.int .i8 1)), (vi 0)])) (ys := [(.v (.int .i8 1)), (vi 0)]) (cells' := [(.v (.int .i8 1)), (vi 0)]) H 0 rfl rfl rfl rfl rfl rfl rfl rfl rfl nofun ?_; intro σ H
 apply Ops.nil
 replace H := H.all
 apply Runs.then
 obtain ⟨y1, hj1, h⟩ := bind_some h
 refine Runs.mono (Q := fun x e σ => x = .normal ∧ EnvHas e [(2, (.ptr (b1 + 0) 4 0)), (3, (.ptr (b1 + 1) 4 0)), (4, (.ptr (b1 + 2) 2 0)), (5, (.ptr (b1 + 3) 2 0)), (6, (.ptr (b2 + 2) 2 0)), (7, (.ptr (b2 + 3) 2 0))] ∧ Hs σ [.blk (b2 + 3) 32 [(.v (.int .i8 1)), (vi 0)], .blk (b2 + 2) 32 [(.v (.int .i8 y1.1)), (vi y1.2)], .blk (b1 + 3) 32 [(.v (.int .i8 0)), (vi 0)], .blk (b1 + 2) 32 [(.v (.int .i8 0)), (vi 0)], .blk (b1 + 1) 27 [(vi r'.Low), (vi r'.High), (vb r'.HasLow), (vb r'.HasHigh)], .blk (b1 + 0) 25 [(vi f.Period), (vi f.Count), (vl (cL Span.cs) f.Core), (vl Granule.cs f.Odd)]]) ?_ ?_
 ·replace h := hj1
  apply Runs.then
  refine Runs.regionH 2 rfl H ?_; intro b3 σ H
  refine Ops.fieldAddrH (off := 0) (fo := 2) H 4 rfl rfl rfl rfl rfl nofun rfl ?_
  refine Ops.loadH (off := 2) (v := (vb r'.HasLow)) H 4 rfl rfl rfl rfl rfl nofun rfl ?_
  apply Ops.nil
  replace H := H.all
  refine Runs.whether (v := r'.HasLow) rfl ?_ ?_ <;> intro hc1
  ·replace h := cond_T hc1 h
   refine Runs.regionH 5 rfl H ?_; intro b4 σ H
   refine Ops.loadHA (off := 0) (cs := [(vi f.Period), (vi f.Count), (vl (cL Span.cs) f.Core), (vl Granule.cs f.Odd)]) H 5 rfl rfl rfl rfl rfl rfl rfl nofun rfl ?_
   refine Ops.fieldAddrH (off := 0) (fo := 0) H 4 rfl rfl rfl rfl rfl nofun rfl ?_
   refine Ops.loadH (off := 0) (v := (vi r'.Low)) H 4 rfl rfl rfl rfl rfl nofun rfl ?_
   obtain ⟨x1, q1, h⟩ := bind_some h
   refine Ops.call (ys := [(.agg [(vi f.Period), (vi f.Count), (vl (cL Span.cs) f.Core), (vl Granule.cs f.Odd)]), (vi r'.Low)]) (r := (.agg [(.v (.int .i8 x1.Inf)), (vi x1.N)])) rfl (carry_Low_fn q1) rfl ?_
   refine Ops.storeH (off := 0) (v := (.agg [(.v (.int .i8 x1.Inf)), (vi x1.N)])) (ys := [(.v (.int .i8 x1.Inf)), (vi x1.N)]) (cells' := [(.v (.int .i8 x1.Inf)), (vi x1.N)]) H 1 rfl rfl rfl rfl rfl rfl rfl rfl rfl nofun ?_; intro σ H
   apply Ops.nil
   replace H := H.all
   replace h := Option.some.inj h; subst h
   exact ⟨rfl, ⟨rfl, rfl, rfl, rfl, rfl, rfl, trivial⟩, H⟩
  ·replace h := cond_F hc1 h
   apply Runs.skip
   replace h := Option.some.inj h; subst h
   exact ⟨rfl, ⟨rfl, rfl, rfl, rfl, rfl, rfl, trivial⟩, H⟩
 ·rintro x e σ ⟨rfl, he, H⟩
  obtain ⟨e, rfl⟩ := he.ex
  apply Runs.then
  obtain ⟨y2, hj2, h⟩ := bind_some h
  refine Runs.mono (Q := fun x e σ => x = .normal ∧ EnvHas e [(4, (.ptr (b1 + 2) 2 0)), (5, (.ptr (b1 + 3) 2 0)), (6, (.ptr (b2 + 2) 2 0)), (7, (.ptr (b2 + 3) 2 0))] ∧ Hs σ [.blk (b2 + 3) 32 [(.v (.int .i8 y2.1)), (vi y2.2)], .blk (b2 + 2) 32 [(.v (.int .i8 y1.1)), (vi y1.2)], .blk (b1 + 3) 32 [(.v (.int .i8 0)), (vi 0)], .blk (b1 + 2) 32 [(.v (.int .i8 0)), (vi 0)]]) ?_ ?_
  ·replace h := hj2
   apply Runs.then
   refine Runs.regionH 2 rfl H ?_; intro b5 σ H
   refine Ops.fieldAddrH (off := 0) (fo := 3) H 4 rfl rfl rfl rfl rfl nofun rfl ?_
   refine Ops.loadH (off := 3) (v := (vb r'.HasHigh)) H 4 rfl rfl rfl rfl rfl nofun rfl ?_
   apply Ops.nil
   replace H := H.all
   refine Runs.whether (v := r'.HasHigh) rfl ?_ ?_ <;> intro hc2
   ·replace h := cond_T hc2 h
    refine Runs.regionH 5 rfl H ?_; intro b6 σ H
    refine Ops.loadHA (off := 0) (cs := [(vi f.Period), (vi f.Count), (vl (cL Span.cs) f.Core), (vl Granule.cs f.Odd)]) H 5 rfl rfl rfl rfl rfl rfl rfl nofun rfl ?_
    refine Ops.fieldAddrH (off := 0) (fo := 1) H 4 rfl rfl rfl rfl rfl nofun rfl ?_
    refine Ops.loadH (off := 1) (v := (vi r'.High)) H 4 rfl rfl rfl rfl rfl nofun rfl ?_
    obtain ⟨x2, q2, h⟩ := bind_some h
    refine Ops.call (ys := [(.agg [(vi f.Period), (vi f.Count), (vl (cL Span.cs) f.Core), (vl Granule.cs f.Odd)]), (vi r'.High)]) (r := (.agg [(.v (.int .i8 x2.Inf)), (vi x2.N)])) rfl (carry_High_fn q2) rfl ?_
    refine Ops.storeH (off := 0) (v := (.agg [(.v (.int .i8 x2.Inf)), (vi x2.N)])) (ys := [(.v (.int .i8 x2.Inf)), (vi x2.N)]) (cells' := [(.v (.int .i8 x2.Inf)), (vi x2.N)]) H 0 rfl rfl rfl rfl rfl rfl rfl rfl rfl nofun ?_; intro σ H
    apply Ops.nil
    replace H := H.all
    replace h := Option.some.inj h; subst h
    exact ⟨rfl, ⟨rfl, rfl, rfl, rfl, trivial⟩, ((H.erase 5).erase 4)⟩
   ·replace h := cond_F hc2 h
    apply Runs.skip
    replace h := Option.some.inj h; subst h
    exact ⟨rfl, ⟨rfl, rfl, rfl, rfl, trivial⟩, ((H.erase 5).erase 4)⟩
  ·rintro x e σ ⟨rfl, he, H⟩
   obtain ⟨e, rfl⟩ := he.ex
   apply Runs.then
   refine Runs.drawnH 4 rfl (by kernel_rfl) H ?_; intro b7 σ H B7
   refine Ops.loadHA (off := 0) (cs := [(.v (.int .i8 y1.1)), (vi y1.2)]) H 1 rfl rfl rfl rfl rfl rfl rfl (fun _ => .inl ⟨B7 1 _ rfl _ rfl, nofun⟩) rfl ?_
   refine Ops.loadHA (off := 0) (cs := [(.v (.int .i8 y2.1)), (vi y2.2)]) H 0 rfl rfl rfl rfl rfl rfl rfl (fun _ => .inl ⟨B7 0 _ rfl _ rfl, nofun⟩) rfl ?_
   refine Ops.storeH (off := 0) (v := (.agg [(.v (.int .i8 y1.1)), (vi y1.2)])) (ys := [(.v (.int .i8 y1.1)), (vi y1.2)]) (cells' := [(.v (.int .i8 y1.1)), (vi y1.2)]) H 3 rfl rfl rfl rfl rfl rfl rfl rfl rfl (fun _ => .inl ⟨B7 3 _ rfl _ rfl, (fresh_else [1] (by kernel_rfl) (.cons rfl rfl (ne_one (H.ne (j := 3) (k := 0) rfl rfl rfl rfl rfl)) .nil))⟩) ?_; intro σ H
   refine Ops.storeH (off := 0) (v := (.agg [(.v (.int .i8 y2.1)), (vi y2.2)])) (ys := [(.v (.int .i8 y2.1)), (vi y2.2)]) (cells' := [(.v (.int .i8 y2.1)), (vi y2.2)]) H 2 rfl rfl rfl rfl rfl rfl rfl rfl rfl (fun _ => .inl ⟨B7 2 _ rfl _ rfl, (fresh_static (by kernel_rfl))⟩) ?_; intro σ H
   apply Ops.nil
   replace H := H.all
   apply Runs.ret
   replace h := Option.some.inj h; subst h
   exact (Ends.H (xs := [(.agg [(.v (.int .i8 y1.1)), (vi y1.2)]), (.agg [(.v (.int .i8 y2.1)), (vi y2.2)])]) (.inr rfl) H (.agg (cs := [(.v (.int .i8 y1.1)), (vi y1.2)]) (off := 0) 3 rfl rfl rfl rfl rfl rfl rfl (.agg (cs := [(.v (.int .i8 y2.1)), (vi y2.2)]) (off := 0) 2 rfl rfl rfl rfl rfl rfl rfl .nil)) (.two (.cons (.p rfl) (.cons (.p rfl) .nil))))

set_option maxRecDepth 100000 in
set_option maxHeartbeats 4000000 in
theorem epactlaw25_number_fn {n : Int} {r : Bound} (h : epactlaw25_number n = r) : Fn CX 42 [(vi n)] (.agg (vs (Bound.cs r))) := by
 refine Fn.ends Try.func42 rfl rfl rfl rfl rfl rfl ?_
 have H : Hs (⟨0, fun _ => .none⟩ : Heap) [] := Has.nil (Nat.le_refl _)
 generalize (⟨0, fun _ => .none⟩ : Heap) = σ at H ⊢
 unfold epactlaw25_number at h
 apply Runs.then
 refine Runs.regionH 1 rfl H ?_; intro b1 σ H
 refine Ops.allocH (cs := [(.v (.int .i8 0)), (vi 0)]) H (by omega) (by omega) rfl rfl ?_; intro σ H
 apply Ops.nil
 replace H := H.all
 apply Runs.then
 refine Runs.regionH 3 rfl H ?_; intro b2 σ H
 refine Ops.move (v := (vi n)) rfl rfl ?_
 refine Ops.buildA (cs := [(.v (.int .i8 0)), (vi n)]) rfl rfl ?_
 refine Ops.storeH (off := 0) (v := (.agg [(.v (.int .i8 0)), (vi n)])) (ys := [(.v (.int .i8 0)), (vi n)]) (cells' := [(.v (.int .i8 0)), (vi n)]) H 0 rfl rfl rfl rfl rfl rfl rfl rfl rfl nofun ?_; intro σ H
 apply Ops.nil
 replace H := H.all
 apply Runs.ret
 subst h
 exact (Ends.H (xs := [(.agg [(.v (.int .i8 0)), (vi n)])]) (.inr rfl) H (.agg (cs := [(.v (.int .i8 0)), (vi n)]) (off := 0) 0 rfl rfl rfl rfl rfl rfl rfl .nil) (.one (.p rfl)))

set_option maxRecDepth 100000 in
set_option maxHeartbeats 4000000 in
theorem epactlaw25_scope_fn {low : Int} {high : Int} {r : Range} (h : epactlaw25_scope low high = r) : Fn CX 28 [(vi low), (vi high)] (.agg (vs (Range.cs r))) := by
 refine Fn.ends Try.func28 rfl rfl rfl rfl rfl rfl ?_
 have H : Hs (⟨0, fun _ => .none⟩ : Heap) [] := Has.nil (Nat.le_refl _)
 generalize (⟨0, fun _ => .none⟩ : Heap) = σ at H ⊢
 unfold epactlaw25_scope at h
 apply Runs.then
 refine Runs.regionH 1 rfl H ?_; intro b1 σ H
 refine Ops.allocH (cs := [(vi 0), (vi 0), (vb false), (vb false)]) H (by omega) (by omega) rfl rfl ?_; intro σ H
 apply Ops.nil
 replace H := H.all
 apply Runs.then
 refine Runs.regionH 4 rfl H ?_; intro b2 σ H
 refine Ops.move (v := (vi low)) rfl rfl ?_
 refine Ops.move (v := (vi high)) rfl rfl ?_
 refine Ops.buildA (cs := [(vi low), (vi high), (vb true), (vb true)]) rfl rfl ?_
 refine Ops.storeH (off := 0) (v := (.agg [(vi low), (vi high), (vb true), (vb true)])) (ys := [(vi low), (vi high), (vb true), (vb true)]) (cells' := [(vi low), (vi high), (vb true), (vb true)]) H 0 rfl rfl rfl rfl rfl rfl rfl rfl rfl nofun ?_; intro σ H
 apply Ops.nil
 replace H := H.all
 apply Runs.ret
 subst h
 exact (Ends.H (xs := [(.agg [(vi low), (vi high), (vb true), (vb true)])]) (.inr rfl) H (.agg (cs := [(vi low), (vi high), (vb true), (vb true)]) (off := 0) 0 rfl rfl rfl rfl rfl rfl rfl .nil) (.one (.p rfl)))

set_option maxRecDepth 100000 in
set_option maxHeartbeats 4000000 in
theorem size_Up_fn {f : Form} {d : Int} {r : Int × Bool × Int} (h : size_Up f d = some r) : Fn CX 36 [(.agg (vs (Form.cs f))), (vi d)] (.tup [(vi r.1), (vb r.2.1), (vi r.2.2)]) := by
 refine Fn.ends Try.func36 rfl rfl rfl rfl rfl rfl ?_
 have H : Hs (⟨0, fun _ => .none⟩ : Heap) [] := Has.nil (Nat.le_refl _)
 generalize (⟨0, fun _ => .none⟩ : Heap) = σ at H ⊢
 unfold size_Up at h
 apply Runs.then
 refine Runs.regionH 4 rfl H ?_; intro b1 σ H
 refine Ops.boxH (v := (.agg [(vi f.Period), (vi f.Count), (vl (cL Span.cs) f.Core), (vl Granule.cs f.Odd)])) (cs := [(vi f.Period), (vi f.Count), (vl (cL Span.cs) f.Core), (vl Granule.cs f.Odd)]) H (by omega) (by omega) rfl rfl rfl ?_; intro σ H
 refine Ops.assign (v := (vi 0)) rfl rfl ?_
 refine Ops.assign (v := (vb false)) rfl rfl ?_
 refine Ops.assign (v := (vi 0)) rfl rfl ?_
 apply Ops.nil
 replace H := H.all
 apply Runs.then
 refine Runs.regionH 9 rfl H ?_; intro b2 σ H
 refine Ops.loadHA (off := 0) (cs := [(vi f.Period), (vi f.Count), (vl (cL Span.cs) f.Core), (vl Granule.cs f.Odd)]) H 0 rfl rfl rfl rfl rfl rfl rfl nofun rfl ?_
 refine Ops.move (v := (vi d)) rfl rfl ?_
 obtain ⟨x1, q1, h⟩ := bind_some h
 refine Ops.call (ys := [(.agg [(vi f.Period), (vi f.Count), (vl (cL Span.cs) f.Core), (vl Granule.cs f.Odd)]), (vi d), (vb true)]) (r := (.tup [(vi x1.1), (vb x1.2.1), (vi x1.2.2)])) rfl (size_far_fn q1) rfl ?_
 refine Ops.extract (v := (vi x1.1)) rfl rfl rfl ?_
 refine Ops.extract (v := (vb x1.2.1)) rfl rfl rfl ?_
 refine Ops.extract (v := (vi x1.2.2)) rfl rfl rfl ?_
 refine Ops.assign (v := (vi x1.1)) rfl rfl ?_
 refine Ops.assign (v := (vb x1.2.1)) rfl rfl ?_
 refine Ops.assign (v := (vi x1.2.2)) rfl rfl ?_
 apply Ops.nil
 replace H := H.all
 apply Runs.ret
 replace h := Option.some.inj h; subst h
 exact (Ends.H (xs := [(vi x1.1), (vb x1.2.1), (vi x1.2.2)]) (.inr rfl) H (.tmp (v := (vi x1.1)) rfl (.tmp (v := (vb x1.2.1)) rfl (.tmp (v := (vi x1.2.2)) rfl .nil))) (.two (.cons (.c (.v _)) (.cons (.c (.v _)) (.cons (.c (.v _)) .nil)))))

end Go.Dn
