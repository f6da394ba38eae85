/- Part 4 of what the row stands on. -/
import Derived.Test.YtliohipholncpaaM3
set_option linter.unusedVariables false
set_option linter.unusedSimpArgs false
namespace Go.Dn
open Go Go.Proofs
set_option maxRecDepth 100000
set_option maxHeartbeats 4000000

theorem Z2U {l : List Span} {r : List Span} (h : clone? 16 l = some r) : Fn CX 67 [(vl Span.cs l)] (vl Span.cs r) := by
 obtain ⟨h1, rfl⟩ := clone_some h
 refine Fn.intr ?_ rfl rfl rfl
 rw [cx_intr67]
 unfold cloneV
 dsimp only
 rw [if_pos ⟨by simp [Span.cs], by simpa using h1⟩]

theorem canon_core_fn {f : Form} {r : Form} (h : Zp f = some r) : Fn CX 65 [(.agg (vs (Form.cs f)))] (.agg (vs (Form.cs r))) := by
 refine Fn.ends Try.func65 rfl rfl rfl rfl rfl rfl ?_
 have H : Hs (⟨0, fun _ => .none⟩ : Heap) [] := Has.nil (Nat.le_refl _)
 generalize (⟨0, fun _ => .none⟩ : Heap) = σ at H ⊢
 unfold Zp at h
 refine .then (.Z0 2 rfl H fun b1 σ H => (.boxH (cs := (vF f)) H (by omega) (by omega) rfl rfl rfl fun σ H => (.Zs (cs := [(vi 0), (vi 0), .nils, .nils]) H (by omega) (by omega) rfl rfl fun σ H => (.nila H fun H => (.scope ?_)))))
 refine .then (.Z0 3 rfl H fun b2 σ H => (.Z0d (cs := [(vi 0), (vi 0), .nils, .nils]) rfl rfl (.Zs (cs := [(vi 0), (vi 0), .nils, .nils]) H (by omega) (by omega) rfl rfl fun σ H => (.ZV (off := 0) (cells' := [(vi 0), (vi 0), .nils, .nils]) H 0 rfl rfl rfl rfl rfl rfl rfl rfl rfl nofun fun σ H => (.nila H fun H => ?_)))))
 refine .then (.then (.Z0 2 rfl H fun b3 σ H => (.ZR (off := 0) (cs := (vF f)) H 2 rfl rfl rfl rfl rfl rfl rfl nofun rfl ?_)))
 obtain ⟨x1, q1, h⟩ := bind_some h
 refine .call (ys := [(.agg (vF f))]) (r := (vb x1)) rfl (canon_bare_fn q1) rfl (.nila H fun H => ?_)
 refine .whether (v := x1) rfl ?_ ?_ <;> intro hc1
 ·replace h := Z8 hc1 h
  refine .then (.Z0 2 rfl H fun b4 σ H => (.ZR (off := 0) (cs := [(vi 0), (vi 0), .nils, .nils]) H 0 rfl rfl rfl rfl rfl rfl rfl nofun rfl (.ZV (off := 0) (cells' := [(vi 0), (vi 0), .nils, .nils]) H 1 rfl rfl rfl rfl rfl rfl rfl rfl rfl nofun fun σ H => (.nila H fun H => (.ret ?_)))))
  replace h := sj h; subst h
  exact (Ends.H (xs := [(.agg [(vi 0), (vi 0), .nils, .nils])]) (.inr rfl) H (.agg (cs := [(vi 0), (vi 0), .nils, .nils]) (off := 0) 1 rfl rfl rfl rfl rfl rfl rfl .nil) (.one (.a (.cons (.v _) (.cons (.v _) (.cons .n (.cons .n .nil)))))))
 ·replace h := Z7 hc1 h
  refine .skip (.then (.label (.then ?_)))
  obtain ⟨y1, hj1, h⟩ := bind_some h
  refine .mono (Q := fun x e σ => ∃ (w1 : PV), x = .normal ∧ Z4 e [(2, (.ptr (b1 + 1) 4 0)), (3, (.ptr (b2 + 1) 4 0))] ∧ Hs σ [.sl w1 41 1 (y1.1.map (cL Span.cs)) true, .blk (b2 + 1) 25 [(vi y1.2.1), (vi y1.2.2), w1, .nils], .blk (b1 + 1) 25 [(vi 0), (vi 0), .nils, .nils]]) ?_ ?_
  ·replace h := hj1
   refine .then (.Z0 3 rfl H fun b5 σ H => (.Z2 (off := 0) (fo := 1) H 2 rfl rfl rfl rfl rfl nofun rfl (.ZA (off := 1) (v := (vi f.Count)) H 2 rfl rfl rfl rfl rfl nofun rfl ?_)))
   refine .callO (ys := [(vi f.Count)]) rfl (Z7o H) nofun rfl ?_; rintro _ σ ⟨id1, rfl, H⟩
   refine .nila H fun H => (.inBlock ?_)
   replace H := H.pushNil 41 1 true
   obtain ⟨y2, hj2, h⟩ := bind_some h
   refine .rangeH H rfl (fun s2 M => ∃ (w4 : PV), M = [.sl w4 41 1 (s2.1.map (cL Span.cs)) true, .blk id1 3 [(vi f.Count)], .blk (b2 + 1) 25 [(vi s2.2.1), (vi s2.2.2), w4, .nils], .blk (b1 + 1) 25 [(vi 0), (vi 0), .nils, .nils], .blk (b1 + 0) 25 (vF f)]) (fun z2 => [(vi z2)]) (Zp.b0 f) (fun p => if p = 0 then none else some (.exit 0)) rfl (fun p => by (repeat' split) <;> exact ⟨_, rfl⟩) (r := y2) ⟨.nils, rfl⟩ (fun _ => rfl) (fun _ => rfl) ?_ (fun id hy => Z6W hy (fun s L hL => by obtain ⟨M, hM, rfl⟩ := hL; obtain ⟨_, rfl⟩ := hM; exact (.cons 2 rfl .nil)) hj2) ?_
   ·intro R0 R1 s2 z2 s' p h σ M O hM H
    obtain ⟨w4, rfl⟩ := hM
    unfold Zp.b0 at h
    refine .env [(17, (vi z2)), (1, (.ptr (b1 + 0) 4 0)), (2, (.ptr (b1 + 1) 4 0)), (3, (.ptr (b2 + 1) 4 0)), (16, (.clo 118 [] [(.ptr id1 1 0)]))] ⟨rfl, rfl, rfl, rfl, rfl, trivial⟩ fun e => (.Z0 1 rfl H fun b6 σ H => (.assign (v := (vi z2)) rfl rfl (.nila H fun H => ?_)))
    refine ⟨rfl, [.sl w4 41 1 (s2.1.map (cL Span.cs)) true, .blk id1 3 [(vi f.Count)], .blk (b2 + 1) 25 [(vi s2.2.1), (vi s2.2.2), w4, .nils], .blk (b1 + 1) 25 [(vi 0), (vi 0), .nils, .nils], .blk (b1 + 0) 25 (vF f)], H, ?_⟩; intro σ H
    refine .inBlock (.then (.Z0u 14 rfl (by kernel_rfl) H fun b7 σ H B7 => (.Z2 (off := 0) (fo := 0) H 5 rfl rfl rfl rfl rfl (fun _ => .inl ⟨B7 5 _ rfl _ rfl, nofun, (fun _ => by kernel_rfl)⟩) rfl (.ZA (off := 0) (v := (vi f.Period)) H 5 rfl rfl rfl rfl rfl (fun _ => .inl ⟨B7 5 _ rfl _ rfl, nofun, (fun _ => by kernel_rfl)⟩) rfl (.Z2 (off := 0) (fo := 1) H 5 rfl rfl rfl rfl rfl (fun _ => .inl ⟨B7 5 _ rfl _ rfl, nofun, (fun _ => by kernel_rfl)⟩) rfl ?_)))))
    refine .ZA (off := 1) (v := (vi f.Count)) H 5 rfl rfl rfl rfl rfl (fun _ => .inl ⟨B7 5 _ rfl _ rfl, nofun, (fun _ => by kernel_rfl)⟩) rfl (.move (v := (vi z2)) rfl rfl ?_)
    obtain ⟨u1, q2, h⟩ := bind_some h
    refine .quo (m := f.Count) (m' := z2) rfl rfl (nz_ne q2) rfl ?_
    obtain ⟨x2, q3, h⟩ := bind_some h
    refine .call (ys := [(vi f.Period), (vi (w64 (f.Count.tdiv z2)))]) (r := (.tup [(vi x2.1), (vi x2.2.1), (vi x2.2.2)])) rfl (Z2k q3) rfl (.move (v := (.tup [(vi x2.1), (vi x2.2.1), (vi x2.2.2)])) rfl rfl (.extract (v := (vi x2.1)) rfl rfl rfl (.extract (v := (vi x2.2.1)) rfl rfl rfl (.extract (v := (vi x2.2.2)) rfl rfl rfl (.assign (v := (vi x2.1)) rfl rfl ?_)))))
    refine .assign (v := (vi x2.2.1)) rfl rfl (.assign (v := (vi x2.2.2)) rfl rfl (.nila H fun H => (.then (.then (.Z0 9 rfl H fun b8 σ H => ?_)))))
    refine .move (v := (vi x2.2.1)) rfl rfl (.int (m := x2.2.1) (m' := 0) (r := .bool (x2.2.1 != 0)) rfl rfl rfl rfl rfl (.move (v := (vb (x2.2.1 != 0))) rfl rfl ?_))
    obtain ⟨y3, hj3, h⟩ := bind_some h
    refine .mid 6 (K1 := fun e σ => Z4 e [(37, (vb y3)), (1, (.ptr (b1 + 0) 4 0)), (2, (.ptr (b1 + 1) 4 0)), (3, (.ptr (b2 + 1) 4 0)), (4, (vi z2)), (5, (vi x2.1))] ∧ Has σ (b8 + 9) (b8 + 9) (R1 :: .sl w4 41 1 (s2.1.map (cL Span.cs)) true :: .blk id1 3 [(vi f.Count)] :: .blk (b2 + 1) 25 [(vi s2.2.1), (vi s2.2.2), w4, .nils] :: .blk (b1 + 1) 25 [(vi 0), (vi 0), .nils, .nils] :: .blk (b1 + 0) 25 (vF f) :: O)) rfl ?_ ?_
    ·refine .split rfl rfl ?_ ?_ <;> intro hc2
     ·replace h := Z8 hc2 hj3
      refine .pass rfl rfl rfl (.pass rfl rfl rfl (.pass rfl rfl rfl (.pass rfl rfl rfl (.pass rfl rfl rfl (.Zd (v := (vb true)) rfl rfl rfl ?_)))))
      refine .nil ?_
      replace h := sj h; subst h
      exact ⟨⟨rfl, rfl, rfl, rfl, rfl, rfl, trivial⟩, H.weak (by omega) (Nat.le_refl _)⟩
     ·replace h := Z7 hc2 hj3
      refine .wanted rfl rfl (.ZR (off := 0) (cs := (vF f)) H 5 rfl rfl rfl rfl rfl rfl rfl nofun rfl (.wanted rfl rfl (.move (v := (vi z2)) rfl rfl (.wanted rfl rfl (.move (v := (vi x2.1)) rfl rfl ?_)))))
      refine .wanted rfl rfl ?_
      obtain ⟨x3, q4, h⟩ := bind_some h
      refine .call (ys := [(.agg (vF f)), (vi z2), (vi x2.1)]) (r := (vb x3)) rfl (canon_turn_fn q4) rfl (.wanted rfl rfl (.not (b := x3) rfl rfl (.Zf (v := (vb (!x3))) rfl rfl rfl (.nil ?_))))
      replace h := sj h; subst h
      exact ⟨⟨rfl, rfl, rfl, rfl, rfl, rfl, trivial⟩, H.weak (by omega) (Nat.le_refl _)⟩
    ·rintro e σ ⟨he, H⟩
     obtain ⟨e, rfl⟩ := he.ex
     refine .nila H fun H => ?_
     refine .whether (v := y3) rfl ?_ ?_ <;> intro hc3
     ·replace h := Z8 hc3 h
      refine .exit ?_
      obtain ⟨rfl, rfl⟩ := Prod.mk.inj (Option.some.inj h)
      exact ⟨⟨rfl, (iff_of_true rfl rfl)⟩, _, ⟨w4, rfl⟩, H⟩
     ·replace h := Z7 hc3 h
      refine .skip (.then (.Z0 6 rfl H fun b9 σ H => (.move (v := (vi x2.1)) rfl rfl (.move (v := (vi z2)) rfl rfl (.Z2 (off := 0) (fo := 0) H 3 rfl rfl rfl rfl rfl nofun rfl ?_)))))
      refine .ZV (off := 0) (cells' := [(vi x2.1), (vi s2.2.2), w4, .nils]) H 3 rfl rfl rfl rfl rfl rfl rfl rfl rfl nofun fun σ H => (.Z2 (off := 0) (fo := 1) H 3 rfl rfl rfl rfl rfl nofun rfl (.ZV (off := 1) (cells' := [(vi x2.1), (vi z2), w4, .nils]) H 3 rfl rfl rfl rfl rfl rfl rfl rfl rfl nofun fun σ H => (.nila H fun H => (.then (.then ?_)))))
      refine .Z0 6 rfl H fun b10 σ H => (.Z2 (off := 0) (fo := 2) H 5 rfl rfl rfl rfl rfl nofun rfl (.ZA (off := 2) (v := (vl (cL Span.cs) f.Core)) H 5 rfl rfl rfl rfl rfl nofun rfl (.move (v := (vi z2)) rfl rfl ?_)))
      obtain ⟨x4, q5, h⟩ := bind_some h
      refine .sliceP01 (c := (cL Span.cs)) q5 rfl rfl rfl rfl (fun _ => rfl) rfl (.Z0K (c := (cL Span.cs)) (xs := x4) rfl rfl rfl (.move (v := (vi 0)) rfl rfl (.nila H fun H => (.inBlock ?_))))
      obtain ⟨y4, hj4, h⟩ := bind_some h
      obtain ⟨n1, hj4⟩ := Zb.1 hj4
      refine .mono (Runs.ZN hj4 (fun s3 e σ => ∃ (w7 : PV), Z4 e [(2, (.ptr (b1 + 1) 4 0)), (3, (.ptr (b2 + 1) 4 0)), (45, (vl (cL Span.cs) x4)), (46, (vi (x4.length : Int))), (47, (vi s3.1))] ∧ Hs σ (R1 :: .sl w7 41 1 (s3.2.map (cL Span.cs)) true :: .blk id1 3 [(vi f.Count)] :: .blk (b2 + 1) 25 [(vi x2.1), (vi z2), w7, .nils] :: .blk (b1 + 1) 25 [(vi 0), (vi 0), .nils, .nils] :: .blk (b1 + 0) 25 (vF f) :: O)) (fun y4 x e σ => ∃ (w8 : PV), x = .exit 2 ∧ Z4 e [(2, (.ptr (b1 + 1) 4 0)), (3, (.ptr (b2 + 1) 4 0))] ∧ Hs σ (R1 :: .sl w8 41 1 (y4.map (cL Span.cs)) true :: .blk id1 3 [(vi f.Count)] :: .blk (b2 + 1) 25 [(vi x2.1), (vi z2), w8, .nils] :: .blk (b1 + 1) 25 [(vi 0), (vi 0), .nils, .nils] :: .blk (b1 + 0) 25 (vF f) :: O)) ⟨w4, ⟨rfl, rfl, rfl, rfl, rfl, trivial⟩, H⟩ ?_) ?_
      ·intro s3 e σ hI z h
       obtain ⟨w7, he, H⟩ := hI
       obtain ⟨e, rfl⟩ := he.ex
       unfold Zp.s1 at h
       refine .then (.Z0 1 rfl H fun b11 σ H => (.int (m := s3.1) (m' := (x4.length : Int)) (r := .bool (decide (s3.1 < (x4.length : Int)))) rfl rfl rfl rfl rfl (.nila H fun H => (.then ?_))))
       refine .whether (v := (decide (s3.1 < (x4.length : Int)))) rfl ?_ ?_ <;> intro hc4
       ·replace h := Z8 hc4 h
        refine .skip (.then (.inBlock (.then (.Z0 3 rfl H fun b12 σ H => ?_))))
        obtain ⟨x5, q6, h⟩ := bind_some h
        refine .Z03 (c := (cL Span.cs)) (u := x5) rfl rfl q6 rfl rfl rfl rfl (.Z1m (u := (.sl (x5.map Span.cs))) rfl rfl rfl rfl (.assign (v := (vl Span.cs x5)) rfl rfl (.nila H fun H => (.Z0u 8 rfl (by kernel_rfl) H fun b13 σ H B13 => (.Z2 (off := 0) (fo := 2) H 3 rfl rfl rfl rfl rfl (fun _ => .inl ⟨B13 3 _ rfl _ rfl, nofun, (fun _ => by kernel_rfl)⟩) rfl ?_)))))
        refine .ZA (off := 2) (v := w7) H 3 rfl rfl rfl rfl rfl (fun _ => .inl ⟨B13 3 _ rfl _ rfl, nofun, (fun _ => by kernel_rfl)⟩) rfl (.move (v := (vl Span.cs x5)) rfl rfl ?_)
        obtain ⟨x6, q7, h⟩ := bind_some h
        refine .call (ys := [(vl Span.cs x5)]) (r := (vl Span.cs x6)) rfl (Z2U q7) rfl (.Z2i (sz := 1) ([x6].map (cL Span.cs)) H (by omega) (by omega) rfl rfl rfl rfl rfl rfl rfl rfl rfl fun σ H => ?_)
        obtain ⟨x7, q8, h⟩ := bind_some h
        refine .Z44 (c := (cL Span.cs)) (v := w7) (w := (.buf (b13 + 4) 1 1)) (xs := s3.2) (ys := [x6]) H (by omega) (by omega) 2 rfl rfl rfl (.s 0 rfl) q8 rfl rfl rfl rfl rfl (fun h => ⟨(fun id ho => .inl ⟨B13 1 _ rfl id ho, (fun _ => by kernel_rfl), nofun⟩), (fun id ho => .inr ⟨4, (by cases ho; rfl), (fun h => nomatch h), by kernel_rfl, by decide⟩)⟩) rfl fun w9 σ H => (.Z2 (off := 0) (fo := 2) H 4 rfl rfl rfl rfl rfl (fun _ => .inl ⟨B13 3 _ rfl _ rfl, nofun, (fun _ => by kernel_rfl)⟩) rfl (.ZV (off := 2) (v := w9) (ys := [w9]) (cells' := [(vi x2.1), (vi z2), w9, .nils]) H 4 rfl rfl rfl rfl (H.slCells (k := 2) rfl) rfl rfl rfl rfl (fun _ => .inl ⟨B13 3 _ rfl _ rfl, (Z3m (by kernel_rfl))⟩) fun σ H => (.nila H fun H => (.Z0 2 rfl H fun b14 σ H => (.int (m := s3.1) (m' := 1) (r := .int .i64 (w64 (s3.1 + 1))) rfl rfl rfl rfl rfl ?_)))))
        refine .move (v := (vi (w64 (s3.1 + 1)))) rfl rfl (.nila H fun H => ?_)
        replace h := sj h; subst h
        exact ⟨rfl, w9, ⟨rfl, rfl, rfl, rfl, rfl, trivial⟩, (H.erase 0)⟩
       ·replace h := Z7 hc4 h
        refine .exit ?_
        replace h := sj h; subst h
        exact ⟨nofun, ⟨w7, rfl, ⟨rfl, rfl, trivial⟩, H⟩⟩
      ·rintro x e σ ⟨w10, rfl, he, H⟩
       obtain ⟨e, rfl⟩ := he.ex
       refine .exit ?_
       obtain ⟨rfl, rfl⟩ := Prod.mk.inj (Option.some.inj h)
       exact ⟨⟨rfl, (iff_of_false nofun nofun)⟩, _, ⟨w10, rfl⟩, H⟩
   ·intro x σ M hx hM H
    obtain ⟨w11, rfl⟩ := hM
    cases hc0_ : (y2.2 == 0)
    ·replace h := Z7 hc0_ h
     have hx : x = .exit 0 := by simpa [ne_of_beq_false hc0_, Z5l] using hx.symm
     subst hx
     replace h := sj h; subst h
     exact ⟨w11, rfl, ⟨rfl, rfl, trivial⟩, ((H.erase 4).erase 1)⟩
    ·replace h := Z8 hc0_ h
     have hx : x = .normal := by rw [eq_of_beq hc0_] at hx; exact (Option.some.inj hx).symm
     subst hx
     replace h := sj h; subst h
     exact ⟨w11, rfl, ⟨rfl, rfl, trivial⟩, ((H.erase 4).erase 1)⟩
  ·rintro x e σ ⟨w12, rfl, he, H⟩
   obtain ⟨e, rfl⟩ := he.ex
   refine .then (.Z0 2 rfl H fun b15 σ H => (.ZR (off := 0) (cs := [(vi y1.2.1), (vi y1.2.2), w12, .nils]) H 1 rfl rfl rfl rfl rfl rfl rfl nofun rfl (.ZV (off := 0) (cells' := [(vi y1.2.1), (vi y1.2.2), w12, .nils]) H 2 rfl rfl rfl rfl rfl rfl rfl rfl rfl nofun fun σ H => (.nila H fun H => (.ret ?_)))))
   replace h := sj h; subst h
   exact (Ends.H (xs := [(.agg [(vi y1.2.1), (vi y1.2.2), w12, .nils])]) (.inr rfl) H (.agg (cs := [(vi y1.2.1), (vi y1.2.2), w12, .nils]) (off := 0) 2 rfl rfl rfl rfl rfl rfl rfl .nil) (.one (.a (.cons (.v _) (.cons (.v _) (.cons (.s 0 rfl) (.cons .n .nil)))))))

theorem Z4L {s1' : (List Span)} {s2' : (List Span)} {r : Bool} (h : ZX s1' s2' = some r) : Fn CX 120 [(vl Span.cs s1'), (vl Span.cs s2')] (vb r) := by
 refine Fn.ends Try.func120 rfl rfl rfl rfl rfl rfl ?_
 have H : Hs (⟨0, fun _ => .none⟩ : Heap) [] := Has.nil (Nat.le_refl _)
 generalize (⟨0, fun _ => .none⟩ : Heap) = σ at H ⊢
 unfold ZX at h
 refine .then (.Z0 1 rfl H fun b1 σ H => (.assign (v := (vb false)) rfl rfl (.nila H fun H => (.then (.then ?_)))))
 refine .Z0 5 rfl H fun b2 σ H => (.move (v := (vl Span.cs s1')) rfl rfl (.Z0K (c := Span.cs) (xs := s1') rfl rfl rfl (.move (v := (vl Span.cs s2')) rfl rfl (.Z0K (c := Span.cs) (xs := s2') rfl rfl rfl (.int (m := (s1'.length : Int)) (m' := (s2'.length : Int)) (r := .bool ((s1'.length : Int) != (s2'.length : Int))) rfl rfl rfl rfl rfl ?_)))))
 refine .nila H fun H => ?_
 refine .whether (v := ((s1'.length : Int) != (s2'.length : Int))) rfl ?_ ?_ <;> intro hc1
 ·replace h := Z8 hc1 h
  refine .then (.Z0 1 rfl H fun b3 σ H => (.assign (v := (vb false)) rfl rfl (.nila H fun H => (.ret ?_))))
  replace h := sj h; subst h
  exact (Ends.H (xs := [(vb false)]) (.inr rfl) H (.tmp (v := (vb false)) rfl .nil) (.one (.c (.v _))))
 ·replace h := Z7 hc1 h
  refine .skip (.then (.then (.Z0 3 rfl H fun b4 σ H => (.move (v := (vl Span.cs s1')) rfl rfl (.Z0K (c := Span.cs) (xs := s1') rfl rfl rfl ?_)))))
  refine .move (v := (vi 0)) rfl rfl (.nila H fun H => (.inBlock ?_))
  obtain ⟨y1, hj1, h⟩ := bind_some h
  obtain ⟨n1, hj1⟩ := Zb.1 hj1
  refine .mono (Runs.ZN hj1 (fun s1 e σ => Z4 e [(0, (vl Span.cs s1')), (1, (vl Span.cs s2')), (12, (vi (s1'.length : Int))), (13, (vi s1))] ∧ Hs σ []) (fun y1 x e σ => (∃ a1, y1 = (.go a1) ∧ x = .exit 0 ∧ Z4 e [] ∧ Hs σ []) ∨ (∃ r', y1 = (.ret r') ∧ x = .ret ∧ Ends CX Try.f120.results.toList (vb r') x e σ)) ⟨⟨rfl, rfl, rfl, rfl, trivial⟩, H⟩ ?_) ?_
  ·intro s1 e σ hI z h
   obtain ⟨he, H⟩ := hI
   obtain ⟨e, rfl⟩ := he.ex
   unfold ZX.s0 at h
   refine .then (.Z0 1 rfl H fun b5 σ H => (.int (m := s1) (m' := (s1'.length : Int)) (r := .bool (decide (s1 < (s1'.length : Int)))) rfl rfl rfl rfl rfl (.nila H fun H => (.then ?_))))
   refine .whether (v := (decide (s1 < (s1'.length : Int)))) rfl ?_ ?_ <;> intro hc2
   ·replace h := Z8 hc2 h
    refine .skip (.then (.inBlock (.then (.Z0 2 rfl H fun b6 σ H => (.move (v := (vi s1)) rfl rfl ?_)))))
    refine .assign (v := (vi s1)) rfl rfl (.nila H fun H => (.then (.Z0u 9 rfl (by kernel_rfl) H fun b7 σ H B7 => (.move (v := (vl Span.cs s1')) rfl rfl (.move (v := (vi s1)) rfl rfl ?_)))))
    obtain ⟨x1, q1, h⟩ := bind_some h
    refine .Z03 (c := Span.cs) (u := x1) rfl rfl q1 rfl rfl rfl rfl (.Z2g (cs := [(.int .i64 x1.From), (.int .i64 x1.To)]) rfl rfl rfl rfl rfl rfl (.move (v := (vl Span.cs s2')) rfl rfl (.move (v := (vi s1)) rfl rfl ?_)))
    obtain ⟨x2, q2, h⟩ := bind_some h
    refine .Z03 (c := Span.cs) (u := x2) rfl rfl q2 rfl rfl rfl rfl (.Z2g (cs := [(.int .i64 x2.From), (.int .i64 x2.To)]) rfl rfl rfl rfl rfl rfl (.binA (u := (.agg [(vi x1.From), (vi x1.To)])) (w := (.agg [(vi x2.From), (vi x2.To)])) (r := .bool (!((x1.From == x2.From) && ((x1.To == x2.To) && true)))) rfl rfl (by kernel_rfl) (fun _ => Z2C rfl rfl rfl rfl) rfl (.nila H fun H => ?_)))
    refine .whether (v := (!((x1.From == x2.From) && ((x1.To == x2.To) && true)))) rfl ?_ ?_ <;> intro hc3
    ·replace h := Z8 hc3 h
     refine .then (.Z0 1 rfl H fun b8 σ H => (.assign (v := (vb false)) rfl rfl (.nila H fun H => (.ret ?_))))
     replace h := sj h; subst h
     exact ⟨nofun, (.inr ⟨_, rfl, rfl, (Ends.H (xs := [(vb false)]) (.inr rfl) H (.tmp (v := (vb false)) rfl .nil) (.one (.c (.v _))))⟩)⟩
    ·replace h := Z7 hc3 h
     refine .skip (.Z0 2 rfl H fun b9 σ H => (.int (m := s1) (m' := 1) (r := .int .i64 (w64 (s1 + 1))) rfl rfl rfl rfl rfl (.move (v := (vi (w64 (s1 + 1)))) rfl rfl (.nila H fun H => ?_))))
     replace h := sj h; subst h
     exact ⟨rfl, ⟨rfl, rfl, rfl, rfl, trivial⟩, H⟩
   ·replace h := Z7 hc2 h
    refine .exit ?_
    replace h := sj h; subst h
    exact ⟨nofun, (.inl ⟨_, rfl, rfl, trivial, H⟩)⟩
  ·rintro x e σ (⟨a2, rfl, rfl, he, H⟩ | ⟨r', rfl, rfl, hE⟩)
   ·skip
    replace h := jgo h
    obtain ⟨e, rfl⟩ := he.ex
    refine .then (.Z0 1 rfl H fun b10 σ H => (.assign (v := (vb true)) rfl rfl (.nila H fun H => (.ret ?_))))
    replace h := sj h; subst h
    exact (Ends.H (xs := [(vb true)]) (.inr rfl) H (.tmp (v := (vb true)) rfl .nil) (.one (.c (.v _))))
   ·skip
    replace h := jret h
    replace h := sj h; subst h
    exact hE

theorem spans_Same_fn {a : (List Span)} {b : (List Span)} {r : Bool} (h : Z0w a b = some r) : Fn CX 94 [(vl Span.cs a), (vl Span.cs b)] (vb r) := by
 refine Fn.ends Try.func94 rfl rfl rfl rfl rfl rfl ?_
 have H : Hs (⟨0, fun _ => .none⟩ : Heap) [] := Has.nil (Nat.le_refl _)
 generalize (⟨0, fun _ => .none⟩ : Heap) = σ at H ⊢
 unfold Z0w at h
 refine .then (.Z0 1 rfl H fun b1 σ H => (.assign (v := (vb false)) rfl rfl (.nila H fun H => (.then (.Z0 4 rfl H fun b2 σ H => ?_)))))
 refine .move (v := (vl Span.cs a)) rfl rfl (.move (v := (vl Span.cs b)) rfl rfl ?_)
 obtain ⟨x1, q1, h⟩ := bind_some h
 refine .call (ys := [(vl Span.cs a), (vl Span.cs b)]) (r := (vb x1)) rfl (Z4L q1) rfl (.assign (v := (vb x1)) rfl rfl (.nila H fun H => (.ret ?_)))
 replace h := sj h; subst h
 exact (Ends.H (xs := [(vb x1)]) (.inr rfl) H (.tmp (v := (vb x1)) rfl .nil) (.one (.c (.v _))))

theorem Z9d {f : Form} {g : Granule} {r : Bool} (h : Z2V f g = some r) : Fn CX 66 [(.agg (vs (Form.cs f))), (.agg (vs (Granule.cs g)))] (vb r) := by
 refine Fn.ends Try.func66 rfl rfl rfl rfl rfl rfl ?_
 have H : Hs (⟨0, fun _ => .none⟩ : Heap) [] := Has.nil (Nat.le_refl _)
 generalize (⟨0, fun _ => .none⟩ : Heap) = σ at H ⊢
 unfold Z2V at h
 refine .then (.Z0 3 rfl H fun b1 σ H => (.boxH (cs := (vF f)) H (by omega) (by omega) rfl rfl rfl fun σ H => (.boxH (cs := [(vi g.Index), (vl Span.cs g.Ticks)]) H (by omega) (by omega) rfl rfl rfl fun σ H => (.assign (v := (vb false)) rfl rfl (.nila H fun H => ?_)))))
 refine .then (.Z0 9 rfl H fun b2 σ H => (.ZR (off := 0) (cs := (vF f)) H 1 rfl rfl rfl rfl rfl rfl rfl nofun rfl (.Z2 (off := 0) (fo := 0) H 0 rfl rfl rfl rfl rfl nofun rfl (.ZA (off := 0) (v := (vi g.Index)) H 0 rfl rfl rfl rfl rfl nofun rfl ?_))))
 obtain ⟨x1, q1, h⟩ := bind_some h
 refine .call (ys := [(.agg (vF f)), (vi g.Index)]) (r := (.tup [(vl Span.cs x1.1), (vi x1.2)])) rfl (Z4O q1) rfl (.move (v := (.tup [(vl Span.cs x1.1), (vi x1.2)])) rfl rfl (.extract (v := (vl Span.cs x1.1)) rfl rfl rfl (.extract (v := (vi x1.2)) rfl rfl rfl (.assign (v := (vl Span.cs x1.1)) rfl rfl (.assign (v := (vi x1.2)) rfl rfl ?_)))))
 refine .nila H fun H => (.then (.Z0 9 rfl H fun b3 σ H => (.move (v := (vi x1.2)) rfl rfl (.int (m := x1.2) (m' := 0) (r := .bool (x1.2 == 0)) rfl rfl rfl rfl rfl (.move (v := (vb (x1.2 == 0))) rfl rfl ?_)))))
 obtain ⟨y1, hj1, h⟩ := bind_some h
 refine .mid 5 (K1 := fun e σ => Z4 e [(21, (vb y1))] ∧ Has σ (b3 + 8) (b3 + 9) []) rfl ?_ ?_
 ·refine .split rfl rfl ?_ ?_ <;> intro hc1
  ·replace h := Z8 hc1 hj1
   refine .wanted rfl rfl (.move (v := (vl Span.cs x1.1)) rfl rfl (.wanted rfl rfl (.Z2 (off := 0) (fo := 1) H 0 rfl rfl rfl rfl rfl nofun rfl (.wanted rfl rfl (.ZA (off := 1) (v := (vl Span.cs g.Ticks)) H 0 rfl rfl rfl rfl rfl nofun rfl ?_)))))
   refine .wanted rfl rfl ?_
   obtain ⟨x2, q2, h⟩ := bind_some h
   refine .call (ys := [(vl Span.cs x1.1), (vl Span.cs g.Ticks)]) (r := (vb x2)) rfl (spans_Same_fn q2) rfl (.Zd (v := (vb x2)) rfl rfl rfl (.nil ?_))
   replace h := sj h; subst h
   exact ⟨⟨rfl, trivial⟩, ((H.erase 1).erase 0).weak (by omega) (Nat.le_refl _)⟩
  ·replace h := Z7 hc1 hj1
   refine .pass rfl rfl rfl (.pass rfl rfl rfl (.pass rfl rfl rfl (.pass rfl rfl rfl (.Zf (v := (vb false)) rfl rfl rfl (.nil ?_)))))
   replace h := sj h; subst h
   exact ⟨⟨rfl, trivial⟩, ((H.erase 1).erase 0).weak (by omega) (Nat.le_refl _)⟩
 ·rintro e σ ⟨he, H⟩
  obtain ⟨e, rfl⟩ := he.ex
  refine .assign (v := (vb y1)) rfl rfl (.nila H fun H => (.ret ?_))
  replace h := sj h; subst h
  exact (Ends.H (xs := [(vb y1)]) (.inr rfl) H (.tmp (v := (vb y1)) rfl .nil) (.one (.c (.v _))))

theorem canon_Form_fn {f : Form} {r : Form} (h : Zl f = some r) : Fn CX 38 [(.agg (vs (Form.cs f)))] (.agg (vs (Form.cs r))) := by
 refine Fn.ends Try.func38 rfl rfl rfl rfl rfl rfl ?_
 have H : Hs (⟨0, fun _ => .none⟩ : Heap) [] := Has.nil (Nat.le_refl _)
 generalize (⟨0, fun _ => .none⟩ : Heap) = σ at H ⊢
 unfold Zl at h
 refine .then (.Z0 2 rfl H fun b1 σ H => (.boxH (cs := (vF f)) H (by omega) (by omega) rfl rfl rfl fun σ H => (.Zs (cs := [(vi 0), (vi 0), .nils, .nils]) H (by omega) (by omega) rfl rfl fun σ H => (.nila H fun H => (.then ?_)))))
 refine .Z0 4 rfl H fun b2 σ H => (.ZR (off := 0) (cs := (vF f)) H 1 rfl rfl rfl rfl rfl rfl rfl nofun rfl ?_)
 obtain ⟨x1, q1, h⟩ := bind_some h
 refine .call (ys := [(.agg (vF f))]) (r := (.agg (vF x1))) rfl (canon_core_fn q1) rfl (.Zs (cs := [(vi 0), (vi 0), .nils, .nils]) H (by omega) (by omega) rfl rfl fun σ H => (.ZV (off := 0) (cells' := (vF x1)) H 0 rfl rfl rfl rfl rfl rfl rfl rfl rfl nofun fun σ H => (.nila H fun H => (.then (.Z0 1 rfl H fun b3 σ H => ?_)))))
 refine .assign (v := .nils) rfl rfl (.nila H fun H => (.then (.then (.Z0 4 rfl H fun b4 σ H => (.Z2 (off := 0) (fo := 3) H 2 rfl rfl rfl rfl rfl nofun rfl ?_)))))
 refine .ZA (off := 3) (v := (vl Granule.cs f.Odd)) H 2 rfl rfl rfl rfl rfl nofun rfl (.Z0K (c := Granule.cs) (xs := f.Odd) rfl rfl rfl (.move (v := (vi 0)) rfl rfl (.nila H fun H => (.inBlock ?_))))
 replace H := H.pushNil 76 2 true
 obtain ⟨y1, hj1, h⟩ := bind_some h
 obtain ⟨n1, hj1⟩ := Zb.1 hj1
 refine .mono (Runs.ZN hj1 (fun s2 e σ => ∃ (w3 : PV), Z4 e [(2, (.ptr (b1 + 1) 4 0)), (3, (.ptr (b2 + 2) 4 0)), (4, w3), (10, (vl Granule.cs f.Odd)), (11, (vi (f.Odd.length : Int))), (12, (vi s2.1))] ∧ Hs σ [.sl w3 76 2 (s2.2.map Granule.cs) true, .blk (b2 + 2) 25 (vF x1), .blk (b1 + 1) 25 [(vi 0), (vi 0), .nils, .nils]]) (fun y1 x e σ => ∃ (w4 : PV), x = .exit 0 ∧ Z4 e [(2, (.ptr (b1 + 1) 4 0)), (3, (.ptr (b2 + 2) 4 0)), (4, w4)] ∧ Hs σ [.sl w4 76 2 (y1.map Granule.cs) true, .blk (b2 + 2) 25 (vF x1), .blk (b1 + 1) 25 [(vi 0), (vi 0), .nils, .nils]]) ⟨.nils, ⟨rfl, rfl, rfl, rfl, rfl, rfl, trivial⟩, (H.erase 3)⟩ ?_) ?_
 ·intro s2 e σ hI z h
  obtain ⟨w3, he, H⟩ := hI
  obtain ⟨e, rfl⟩ := he.ex
  unfold Zl.s0 at h
  refine .then (.Z0 1 rfl H fun b5 σ H => (.int (m := s2.1) (m' := (f.Odd.length : Int)) (r := .bool (decide (s2.1 < (f.Odd.length : Int)))) rfl rfl rfl rfl rfl (.nila H fun H => (.then ?_))))
  refine .whether (v := (decide (s2.1 < (f.Odd.length : Int)))) rfl ?_ ?_ <;> intro hc1
  ·replace h := Z8 hc1 h
   refine .skip (.then ?_)
   obtain ⟨y2, hj2, h⟩ := bind_some h
   refine .mono (Q := fun x e σ => ∃ (w5 : PV), x = .normal ∧ Z4 e [(2, (.ptr (b1 + 1) 4 0)), (3, (.ptr (b2 + 2) 4 0)), (4, w5), (10, (vl Granule.cs f.Odd)), (11, (vi (f.Odd.length : Int))), (12, (vi s2.1))] ∧ Hs σ [.sl w5 76 2 (y2.map Granule.cs) true, .blk (b2 + 2) 25 (vF x1), .blk (b1 + 1) 25 [(vi 0), (vi 0), .nils, .nils]]) ?_ ?_
   ·replace h := hj2
    refine .inBlock ?_
    obtain ⟨y3, hj3, h⟩ := bind_some h
    refine .mono (Q := fun x e σ => ∃ (w6 : PV), x = .normal ∧ Z4 e [(2, (.ptr (b1 + 1) 4 0)), (3, (.ptr (b2 + 2) 4 0)), (4, w6), (10, (vl Granule.cs f.Odd)), (11, (vi (f.Odd.length : Int))), (12, (vi s2.1))] ∧ Hs σ [.sl w6 76 2 (y3.map Granule.cs) true, .blk (b2 + 2) 25 (vF x1), .blk (b1 + 1) 25 [(vi 0), (vi 0), .nils, .nils]]) ?_ ?_
    ·replace h := hj3
     refine .then (.Z0 4 rfl H fun b6 σ H => ?_)
     obtain ⟨x2, q2, h⟩ := bind_some h
     refine .Z03 (c := Granule.cs) (u := x2) rfl rfl q2 rfl rfl rfl rfl (.Z2g (cs := [(.int .i64 x2.Index), (.sl (x2.Ticks.map Span.cs))]) rfl rfl rfl rfl rfl rfl (.Zs (cs := [(vi 0), .nils]) H (by omega) (by omega) rfl rfl fun σ H => (.ZV (off := 0) (cells' := [(vi x2.Index), (vl Span.cs x2.Ticks)]) H 0 rfl rfl rfl rfl rfl rfl rfl rfl rfl nofun fun σ H => (.nila H fun H => (.then ?_)))))
     refine .Z0 4 rfl H fun b7 σ H => (.ZR (off := 0) (cs := (vF x1)) H 2 rfl rfl rfl rfl rfl rfl rfl nofun rfl (.ZR (off := 0) (cs := [(vi x2.Index), (vl Span.cs x2.Ticks)]) H 0 rfl rfl rfl rfl rfl rfl rfl nofun rfl ?_))
     obtain ⟨x3, q3, h⟩ := bind_some h
     refine .call (ys := [(.agg (vF x1)), (.agg [(vi x2.Index), (vl Span.cs x2.Ticks)])]) (r := (vb x3)) rfl (Z9d q3) rfl (.not (b := x3) rfl rfl (.nila H fun H => ?_))
     refine .whether (v := (!x3)) rfl ?_ ?_ <;> intro hc2
     ·replace h := Z8 hc2 h
      refine .Z0u 10 rfl (by kernel_rfl) H fun b8 σ H B8 => (.move (v := w3) rfl rfl (.Z2 (off := 0) (fo := 0) H 0 rfl rfl rfl rfl rfl (fun _ => .inl ⟨B8 0 _ rfl _ rfl, nofun, (fun _ => by kernel_rfl)⟩) rfl (.ZA (off := 0) (v := (vi x2.Index)) H 0 rfl rfl rfl rfl rfl (fun _ => .inl ⟨B8 0 _ rfl _ rfl, nofun, (fun _ => by kernel_rfl)⟩) rfl (.Z2 (off := 0) (fo := 1) H 0 rfl rfl rfl rfl rfl (fun _ => .inl ⟨B8 0 _ rfl _ rfl, nofun, (fun _ => by kernel_rfl)⟩) rfl (.ZA (off := 1) (v := (vl Span.cs x2.Ticks)) H 0 rfl rfl rfl rfl rfl (fun _ => .inl ⟨B8 0 _ rfl _ rfl, nofun, (fun _ => by kernel_rfl)⟩) rfl ?_)))))
      obtain ⟨x4, q4, h⟩ := bind_some h
      refine .call (ys := [(vl Span.cs x2.Ticks)]) (r := (vl Span.cs x4)) rfl (Z2U q4) rfl (.Z0d (cs := [(vi x2.Index), (vl Span.cs x4)]) rfl rfl (.Z2i (sz := 2) ([(Granule.mk x2.Index x4)].map Granule.cs) H (by omega) (by omega) rfl rfl rfl rfl rfl rfl rfl rfl rfl fun σ H => ?_))
      obtain ⟨x5, q5, h⟩ := bind_some h
      refine .Z44 (c := Granule.cs) (v := w3) (w := (.buf (b8 + 7) 1 2)) (xs := s2.2) (ys := [(Granule.mk x2.Index x4)]) H (by omega) (by omega) 2 rfl rfl rfl (.s 0 rfl) q5 rfl rfl rfl rfl rfl (fun h => ⟨(fun id ho => .inl ⟨B8 1 _ rfl id ho, (fun _ => by kernel_rfl), nofun⟩), (fun id ho => .inr ⟨7, (by cases ho; rfl), (fun h => nomatch h), by kernel_rfl, by decide⟩)⟩) rfl fun w7 σ H => (.assign (v := w7) rfl rfl (.nila H fun H => ?_))
      replace h := sj h; subst h
      exact ⟨w7, rfl, ⟨rfl, rfl, rfl, rfl, rfl, rfl, trivial⟩, ((H.erase 1).erase 0)⟩
     ·replace h := Z7 hc2 h
      refine .skip ?_
      replace h := sj h; subst h
      exact ⟨w3, rfl, ⟨rfl, rfl, rfl, rfl, rfl, rfl, trivial⟩, (H.erase 0)⟩
    ·rintro x e σ ⟨w8, rfl, he, H⟩
     obtain ⟨e, rfl⟩ := he.ex
     replace h := sj h; subst h
     exact ⟨w8, rfl, ⟨rfl, rfl, rfl, rfl, rfl, rfl, trivial⟩, H⟩
   ·rintro x e σ ⟨w9, rfl, he, H⟩
    obtain ⟨e, rfl⟩ := he.ex
    refine .Z0 2 rfl H fun b9 σ H => (.int (m := s2.1) (m' := 1) (r := .int .i64 (w64 (s2.1 + 1))) rfl rfl rfl rfl rfl (.move (v := (vi (w64 (s2.1 + 1)))) rfl rfl (.nila H fun H => ?_)))
    replace h := sj h; subst h
    exact ⟨rfl, w9, ⟨rfl, rfl, rfl, rfl, rfl, rfl, trivial⟩, H⟩
  ·replace h := Z7 hc1 h
   refine .exit ?_
   replace h := sj h; subst h
   exact ⟨nofun, ⟨w3, rfl, ⟨rfl, rfl, rfl, trivial⟩, H⟩⟩
 ·rintro x e σ ⟨w10, rfl, he, H⟩
  obtain ⟨e, rfl⟩ := he.ex
  refine .then (.Z0 3 rfl H fun b10 σ H => (.move (v := w10) rfl rfl (.Z2 (off := 0) (fo := 3) H 1 rfl rfl rfl rfl rfl nofun rfl (.ZV (off := 3) (v := w10) (ys := [w10]) (cells' := [(vi x1.Period), (vi x1.Count), (vl (cL Span.cs) x1.Core), w10]) H 1 rfl rfl rfl rfl (H.slCells (k := 0) rfl) rfl rfl rfl rfl nofun fun σ H => (.nila H fun H => ?_)))))
  refine .then (.Z0 2 rfl H fun b11 σ H => (.ZR (off := 0) (cs := [(vi x1.Period), (vi x1.Count), (vl (cL Span.cs) x1.Core), w10]) H 1 rfl rfl rfl rfl rfl rfl rfl nofun rfl (.ZV (off := 0) (cells' := [(vi x1.Period), (vi x1.Count), (vl (cL Span.cs) x1.Core), w10]) H 2 rfl rfl rfl rfl rfl rfl rfl rfl rfl nofun fun σ H => (.nila H fun H => (.ret ?_)))))
  replace h := sj h; subst h
  exact (Ends.H (xs := [(.agg [(vi x1.Period), (vi x1.Count), (vl (cL Span.cs) x1.Core), w10])]) (.inr rfl) H (.agg (cs := [(vi x1.Period), (vi x1.Count), (vl (cL Span.cs) x1.Core), w10]) (off := 0) 2 rfl rfl rfl rfl rfl rfl rfl .nil) (.one (.a (.cons (.v _) (.cons (.v _) (.cons (.v _) (.cons (.s 0 rfl) .nil)))))))

theorem Z4h {l : (List Span)} {r : Span × Bool} (h : Z1l l = some r) : Fn CX 40 [(vl Span.cs l)] (.tup [(.agg (vs (Span.cs r.1))), (vb r.2)]) := by
 refine Fn.ends Try.func40 rfl rfl rfl rfl rfl rfl ?_
 have H : Hs (⟨0, fun _ => .none⟩ : Heap) [] := Has.nil (Nat.le_refl _)
 generalize (⟨0, fun _ => .none⟩ : Heap) = σ at H ⊢
 unfold Z1l at h
 refine .then (.Z0 2 rfl H fun b1 σ H => (.Zs (cs := [(vi 0), (vi 0)]) H (by omega) (by omega) rfl rfl fun σ H => (.assign (v := (vb false)) rfl rfl (.nila H fun H => (.then ?_)))))
 refine .then (.Z0 3 rfl H fun b2 σ H => (.move (v := (vl Span.cs l)) rfl rfl (.Z0K (c := Span.cs) (xs := l) rfl rfl rfl (.int (m := (l.length : Int)) (m' := 0) (r := .bool ((l.length : Int) == 0)) rfl rfl rfl rfl rfl (.nila H fun H => ?_)))))
 refine .whether (v := ((l.length : Int) == 0)) rfl ?_ ?_ <;> intro hc1
 ·replace h := Z8 hc1 h
  refine .then (.Z0 3 rfl H fun b3 σ H => (.Z0d (cs := [(vi 0), (vi 0)]) rfl rfl (.ZV (off := 0) (cells' := [(vi 0), (vi 0)]) H 0 rfl rfl rfl rfl rfl rfl rfl rfl rfl nofun fun σ H => (.assign (v := (vb false)) rfl rfl (.nila H fun H => ?_)))))
  refine .ret ?_
  replace h := sj h; subst h
  exact (Ends.H (xs := [(.agg [(vi 0), (vi 0)]), (vb false)]) (.inr rfl) H (.agg (cs := [(vi 0), (vi 0)]) (off := 0) 0 rfl rfl rfl rfl rfl rfl rfl (.tmp (v := (vb false)) rfl .nil)) (.two (.cons (.p rfl) (.cons (.c (.v _)) .nil))))
 ·replace h := Z7 hc1 h
  refine .skip (.then (.Z0u 14 rfl (by kernel_rfl) H fun b4 σ H B4 => (.move (v := (vl Span.cs l)) rfl rfl ?_)))
  obtain ⟨x1, q1, h⟩ := bind_some h
  refine .Z03 (c := Span.cs) (u := x1) rfl rfl q1 rfl rfl rfl rfl (.Z05 rfl rfl rfl rfl (.Z1m (u := (.int .i64 x1.From)) rfl rfl rfl rfl (.move (v := (vl Span.cs l)) rfl rfl (.move (v := (vl Span.cs l)) rfl rfl (.Z0K (c := Span.cs) (xs := l) rfl rfl rfl ?_)))))
  refine .int (m := (l.length : Int)) (m' := 1) (r := .int .i64 (w64 ((l.length : Int) - 1))) rfl rfl rfl rfl rfl ?_
  obtain ⟨x2, q2, h⟩ := bind_some h
  refine .Z03 (c := Span.cs) (u := x2) rfl rfl q2 rfl rfl rfl rfl (.Z05 rfl rfl rfl rfl (.Z1m (u := (.int .i64 x2.To)) rfl rfl rfl rfl (.Z0d (cs := [(vi x1.From), (vi x2.To)]) rfl rfl (.ZV (off := 0) (cells' := [(vi x1.From), (vi x2.To)]) H 0 rfl rfl rfl rfl rfl rfl rfl rfl rfl (fun _ => .inl ⟨B4 0 _ rfl _ rfl, (Z3m (by kernel_rfl))⟩) fun σ H => (.assign (v := (vb true)) rfl rfl ?_)))))
  refine .nila H fun H => (.ret ?_)
  replace h := sj h; subst h
  exact (Ends.H (xs := [(.agg [(vi x1.From), (vi x2.To)]), (vb true)]) (.inr rfl) H (.agg (cs := [(vi x1.From), (vi x2.To)]) (off := 0) 0 rfl rfl rfl rfl rfl rfl rfl (.tmp (v := (vb true)) rfl .nil)) (.two (.cons (.p rfl) (.cons (.c (.v _)) .nil))))

theorem size_made_fn {f : Form} {r : size_form} (h : Z1I f = some r) : Fn CX 59 [(.agg (vs (Form.cs f)))] (.agg (vs (size_form.cs r))) := by
 refine Fn.ends Try.func59 rfl rfl rfl rfl rfl rfl ?_
 have H : Hs (⟨0, fun _ => .none⟩ : Heap) [] := Has.nil (Nat.le_refl _)
 generalize (⟨0, fun _ => .none⟩ : Heap) = σ at H ⊢
 unfold Z1I at h
 refine .then (.Z0 2 rfl H fun b1 σ H => (.boxH (cs := (vF f)) H (by omega) (by omega) rfl rfl rfl fun σ H => (.Zs (cs := [(vi 0), (vi 0), .nils, .nils, .nils]) H (by omega) (by omega) rfl rfl fun σ H => (.nila H fun H => (.then ?_)))))
 refine .Z0 5 rfl H fun b2 σ H => (.ZR (off := 0) (cs := (vF f)) H 1 rfl rfl rfl rfl rfl rfl rfl nofun rfl ?_)
 obtain ⟨x1, q1, h⟩ := bind_some h
 refine .call (ys := [(.agg (vF f))]) (r := (.agg (vF x1))) rfl (canon_Form_fn q1) rfl (.Z0d (cs := [(vi x1.Period), (vi x1.Count), (vl (cL Span.cs) x1.Core), (vl Granule.cs x1.Odd), .nils]) rfl rfl (.Zs (cs := [(vi 0), (vi 0), .nils, .nils, .nils]) H (by omega) (by omega) rfl rfl fun σ H => (.ZV (off := 0) (cells' := [(vi x1.Period), (vi x1.Count), (vl (cL Span.cs) x1.Core), (vl Granule.cs x1.Odd), .nils]) H 0 rfl rfl rfl rfl rfl rfl rfl rfl rfl nofun fun σ H => (.nila H fun H => (.then ?_)))))
 refine .then (.Z0 5 rfl H fun b3 σ H => (.Z2 (off := 0) (fo := 0) H 0 rfl rfl rfl rfl rfl nofun rfl (.Z2 (off := 0) (fo := 2) H 0 rfl rfl rfl rfl rfl nofun rfl (.ZA (off := 2) (v := (vl (cL Span.cs) x1.Core)) H 0 rfl rfl rfl rfl rfl nofun rfl (.Z0K (c := (cL Span.cs)) (xs := x1.Core) rfl rfl rfl ?_)))))
 refine .move (v := (vi 0)) rfl rfl (.nila H fun H => (.inBlock ?_))
 replace H := H.pushNil 116 3 true
 obtain ⟨y1, hj1, h⟩ := bind_some h
 obtain ⟨n1, hj1⟩ := Zb.1 hj1
 refine .mono (Runs.ZN hj1 (fun s2 e σ => ∃ (w3 : PV), Z4 e [(2, (.ptr (b1 + 1) 5 0)), (3, (.ptr (b2 + 3) 5 0)), (13, (vl (cL Span.cs) x1.Core)), (14, (vi (x1.Core.length : Int))), (15, (vi s2.1))] ∧ Hs σ [.sl w3 116 3 (s2.2.map size_spot.cs) true, .blk (b2 + 3) 96 [(vi x1.Period), (vi x1.Count), (vl (cL Span.cs) x1.Core), (vl Granule.cs x1.Odd), w3], .blk (b1 + 1) 96 [(vi 0), (vi 0), .nils, .nils, .nils]]) (fun y1 x e σ => ∃ (w4 : PV), x = .exit 0 ∧ Z4 e [(2, (.ptr (b1 + 1) 5 0)), (3, (.ptr (b2 + 3) 5 0))] ∧ Hs σ [.sl w4 116 3 (y1.map size_spot.cs) true, .blk (b2 + 3) 96 [(vi x1.Period), (vi x1.Count), (vl (cL Span.cs) x1.Core), (vl Granule.cs x1.Odd), w4], .blk (b1 + 1) 96 [(vi 0), (vi 0), .nils, .nils, .nils]]) ⟨.nils, ⟨rfl, rfl, rfl, rfl, rfl, trivial⟩, (H.erase 3)⟩ ?_) ?_
 ·intro s2 e σ hI z h
  obtain ⟨w3, he, H⟩ := hI
  obtain ⟨e, rfl⟩ := he.ex
  unfold Z1I.s0 at h
  refine .then (.Z0 1 rfl H fun b4 σ H => (.int (m := s2.1) (m' := (x1.Core.length : Int)) (r := .bool (decide (s2.1 < (x1.Core.length : Int)))) rfl rfl rfl rfl rfl (.nila H fun H => (.then ?_))))
  refine .whether (v := (decide (s2.1 < (x1.Core.length : Int)))) rfl ?_ ?_ <;> intro hc1
  ·replace h := Z8 hc1 h
   refine .skip (.then ?_)
   obtain ⟨y2, hj2, h⟩ := bind_some h
   refine .mono (Q := fun x e σ => ∃ (w5 : PV), x = .normal ∧ Z4 e [(2, (.ptr (b1 + 1) 5 0)), (3, (.ptr (b2 + 3) 5 0)), (13, (vl (cL Span.cs) x1.Core)), (14, (vi (x1.Core.length : Int))), (15, (vi s2.1))] ∧ Hs σ [.sl w5 116 3 (y2.map size_spot.cs) true, .blk (b2 + 3) 96 [(vi x1.Period), (vi x1.Count), (vl (cL Span.cs) x1.Core), (vl Granule.cs x1.Odd), w5], .blk (b1 + 1) 96 [(vi 0), (vi 0), .nils, .nils, .nils]]) ?_ ?_
   ·replace h := hj2
    refine .inBlock ?_
    obtain ⟨y3, hj3, h⟩ := bind_some h
    refine .mono (Q := fun x e σ => ∃ (w6 : PV), x = .normal ∧ Z4 e [(2, (.ptr (b1 + 1) 5 0)), (3, (.ptr (b2 + 3) 5 0)), (13, (vl (cL Span.cs) x1.Core)), (14, (vi (x1.Core.length : Int))), (15, (vi s2.1))] ∧ Hs σ [.sl w6 116 3 (y3.map size_spot.cs) true, .blk (b2 + 3) 96 [(vi x1.Period), (vi x1.Count), (vl (cL Span.cs) x1.Core), (vl Granule.cs x1.Odd), w6], .blk (b1 + 1) 96 [(vi 0), (vi 0), .nils, .nils, .nils]]) ?_ ?_
    ·replace h := hj3
     refine .then (.Z0 5 rfl H fun b5 σ H => (.move (v := (vi s2.1)) rfl rfl ?_))
     obtain ⟨x2, q2, h⟩ := bind_some h
     refine .Z03 (c := (cL Span.cs)) (u := x2) rfl rfl q2 rfl rfl rfl rfl (.Z1m (u := (.sl (x2.map Span.cs))) rfl rfl rfl rfl (.assign (v := (vi s2.1)) rfl rfl (.assign (v := (vl Span.cs x2)) rfl rfl (.nila H fun H => (.then ?_)))))
     refine .Z0 8 rfl H fun b6 σ H => (.move (v := (vl Span.cs x2)) rfl rfl ?_)
     obtain ⟨x3, q3, h⟩ := bind_some h
     refine .call (ys := [(vl Span.cs x2)]) (r := (.tup [(.agg [(vi x3.1.From), (vi x3.1.To)]), (vb x3.2)])) rfl (Z4h q3) rfl (.move (v := (.tup [(.agg [(vi x3.1.From), (vi x3.1.To)]), (vb x3.2)])) rfl rfl (.extract (v := (.agg [(vi x3.1.From), (vi x3.1.To)])) rfl rfl rfl (.extract (v := (vb x3.2)) rfl rfl rfl (.Zs (cs := [(vi 0), (vi 0)]) H (by omega) (by omega) rfl rfl fun σ H => (.ZV (off := 0) (cells' := [(vi x3.1.From), (vi x3.1.To)]) H 0 rfl rfl rfl rfl rfl rfl rfl rfl rfl nofun fun σ H => ?_)))))
     refine .assign (v := (vb x3.2)) rfl rfl (.nila H fun H => (.then (.Z0 1 rfl H fun b7 σ H => (.move (v := (vb x3.2)) rfl rfl (.nila H fun H => ?_)))))
     refine .whether (v := x3.2) rfl ?_ ?_ <;> intro hc2
     ·replace h := Z8 hc2 h
      refine .Z0 13 rfl H fun b8 σ H => (.Z2 (off := 0) (fo := 4) H 2 rfl rfl rfl rfl rfl nofun rfl (.ZA (off := 4) (v := w3) H 2 rfl rfl rfl rfl rfl nofun rfl (.move (v := (vi s2.1)) rfl rfl (.Z2 (off := 0) (fo := 0) H 0 rfl rfl rfl rfl rfl nofun rfl (.ZA (off := 0) (v := (vi x3.1.From)) H 0 rfl rfl rfl rfl rfl nofun rfl ?_)))))
      refine .Z2 (off := 0) (fo := 1) H 0 rfl rfl rfl rfl rfl nofun rfl (.ZA (off := 1) (v := (vi x3.1.To)) H 0 rfl rfl rfl rfl rfl nofun rfl (.Z0d (cs := [(vi x3.1.From), (vi x3.1.To)]) rfl rfl (.Z0d (cs := [(vi s2.1), (vi x3.1.From), (vi x3.1.To)]) rfl rfl (.Z2i (sz := 3) ([(size_spot.mk s2.1 (size_place.mk x3.1.From x3.1.To))].map size_spot.cs) H (by omega) (by omega) rfl rfl rfl rfl rfl rfl rfl rfl rfl fun σ H => ?_))))
      obtain ⟨x4, q4, h⟩ := bind_some h
      refine .Z44 (c := size_spot.cs) (v := w3) (w := (.buf (b8 + 9) 1 3)) (xs := s2.2) (ys := [(size_spot.mk s2.1 (size_place.mk x3.1.From x3.1.To))]) H (by omega) (by omega) 2 rfl rfl rfl (.s 0 rfl) q4 rfl rfl rfl rfl rfl nofun rfl fun w7 σ H => (.Z2 (off := 0) (fo := 4) H 3 rfl rfl rfl rfl rfl nofun rfl (.ZV (off := 4) (v := w7) (ys := [w7]) (cells' := [(vi x1.Period), (vi x1.Count), (vl (cL Span.cs) x1.Core), (vl Granule.cs x1.Odd), w7]) H 3 rfl rfl rfl rfl (H.slCells (k := 2) rfl) rfl rfl rfl rfl nofun fun σ H => (.nila H fun H => ?_)))
      replace h := sj h; subst h
      exact ⟨w7, rfl, ⟨rfl, rfl, rfl, rfl, rfl, trivial⟩, ((H.erase 1).erase 0)⟩
     ·replace h := Z7 hc2 h
      refine .skip ?_
      replace h := sj h; subst h
      exact ⟨w3, rfl, ⟨rfl, rfl, rfl, rfl, rfl, trivial⟩, (H.erase 0)⟩
    ·rintro x e σ ⟨w8, rfl, he, H⟩
     obtain ⟨e, rfl⟩ := he.ex
     replace h := sj h; subst h
     exact ⟨w8, rfl, ⟨rfl, rfl, rfl, rfl, rfl, trivial⟩, H⟩
   ·rintro x e σ ⟨w9, rfl, he, H⟩
    obtain ⟨e, rfl⟩ := he.ex
    refine .Z0 2 rfl H fun b9 σ H => (.int (m := s2.1) (m' := 1) (r := .int .i64 (w64 (s2.1 + 1))) rfl rfl rfl rfl rfl (.move (v := (vi (w64 (s2.1 + 1)))) rfl rfl (.nila H fun H => ?_)))
    replace h := sj h; subst h
    exact ⟨rfl, w9, ⟨rfl, rfl, rfl, rfl, rfl, trivial⟩, H⟩
  ·replace h := Z7 hc1 h
   refine .exit ?_
   replace h := sj h; subst h
   exact ⟨nofun, ⟨w3, rfl, ⟨rfl, rfl, trivial⟩, H⟩⟩
 ·rintro x e σ ⟨w10, rfl, he, H⟩
  obtain ⟨e, rfl⟩ := he.ex
  refine .then (.Z0 2 rfl H fun b10 σ H => (.ZR (off := 0) (cs := [(vi x1.Period), (vi x1.Count), (vl (cL Span.cs) x1.Core), (vl Granule.cs x1.Odd), w10]) H 1 rfl rfl rfl rfl rfl rfl rfl nofun rfl (.ZV (off := 0) (cells' := [(vi x1.Period), (vi x1.Count), (vl (cL Span.cs) x1.Core), (vl Granule.cs x1.Odd), w10]) H 2 rfl rfl rfl rfl rfl rfl rfl rfl rfl nofun fun σ H => (.nila H fun H => (.ret ?_)))))
  replace h := sj h; subst h
  exact (Ends.H (xs := [(.agg [(vi x1.Period), (vi x1.Count), (vl (cL Span.cs) x1.Core), (vl Granule.cs x1.Odd), w10])]) (.inr rfl) H (.agg (cs := [(vi x1.Period), (vi x1.Count), (vl (cL Span.cs) x1.Core), (vl Granule.cs x1.Odd), w10]) (off := 0) 2 rfl rfl rfl rfl rfl rfl rfl .nil) (.one (.a (.cons (.v _) (.cons (.v _) (.cons (.v _) (.cons (.v _) (.cons (.s 0 rfl) .nil))))))))

theorem Z6R {n : Int} {p1' : size_form} {p2' : Int} {p3' : Int} {id0' : Nat} {id1' : Nat} {id2' : Nat} {r : Bool} (h : Z1J n p1' p2' p3' = some r) : FnH CX 113 [(vi n), (.ptr id0' 5 0), (.ptr id1' 1 0), (.ptr id2' 1 0)] (vb r) [.blk id0' 96 (vG p1'), .blk id1' 3 [(vi p2')], .blk id2' 3 [(vi p3')]] := by
 refine FnH.of Try.func113 rfl rfl rfl rfl rfl rfl (fun h => by have := Z4b h 1 rfl; cases this) ?_
 intro σ L hC H
 have hC0 := hC
 obtain ⟨k0', hk0', hC⟩ := hC.inv
 obtain ⟨k1', hk1', hC⟩ := hC.inv
 obtain ⟨k2', hk2', hC⟩ := hC.inv
 unfold Z1J at h
 refine .then (.Z0 1 rfl H fun b1 σ H => (.assign (v := (vb false)) rfl rfl (.nila H fun H => (.then (.Z0u 16 rfl (by kernel_rfl) H fun b2 σ H B2 => ?_)))))
 refine .Z2 (off := 0) (fo := 4) H k0' hk0' rfl rfl rfl rfl (fun _ => .inl ⟨B2 (k0' + 0) _ hk0' _ rfl, nofun, (fun _ => by kernel_rfl)⟩) rfl (.ZA (off := 4) (v := (vl size_spot.cs p1'.spots)) H k0' hk0' rfl rfl rfl rfl (fun _ => .inl ⟨B2 (k0' + 0) _ hk0' _ rfl, nofun, (fun _ => by kernel_rfl)⟩) rfl (.move (v := (vi n)) rfl rfl ?_))
 obtain ⟨x1, q1, h⟩ := bind_some h
 refine .Z03 (c := size_spot.cs) (u := x1) rfl rfl q1 rfl rfl rfl rfl (.Z05 rfl rfl rfl rfl (.Z05 rfl rfl rfl rfl (.Z1m (u := (.int .i64 x1.place.last)) rfl rfl rfl rfl (.ZA (off := 0) (v := (vi p2')) H k1' hk1' rfl rfl rfl rfl (fun _ => .inl ⟨B2 (k1' + 0) _ hk1' _ rfl, nofun, (fun _ => by kernel_rfl)⟩) rfl (.Z2 (off := 0) (fo := 0) H k0' hk0' rfl rfl rfl rfl (fun _ => .inl ⟨B2 (k0' + 0) _ hk0' _ rfl, nofun, (fun _ => by kernel_rfl)⟩) rfl ?_)))))
 refine .Z2 (off := 0) (fo := 0) H k0' hk0' rfl rfl rfl rfl (fun _ => .inl ⟨B2 (k0' + 0) _ hk0' _ rfl, nofun, (fun _ => by kernel_rfl)⟩) rfl (.ZA (off := 0) (v := (vi p1'.Form.Period)) H k0' hk0' rfl rfl rfl rfl (fun _ => .inl ⟨B2 (k0' + 0) _ hk0' _ rfl, nofun, (fun _ => by kernel_rfl)⟩) rfl (.int (m := p2') (m' := p1'.Form.Period) (r := .int .i64 (w64 (p2' * p1'.Form.Period))) rfl rfl rfl rfl rfl (.int (m := x1.place.last) (m' := (w64 (p2' * p1'.Form.Period))) (r := .int .i64 (w64 (x1.place.last - (w64 (p2' * p1'.Form.Period))))) rfl rfl rfl rfl rfl (.ZA (off := 0) (v := (vi p3')) H k2' hk2' rfl rfl rfl rfl (fun _ => .inl ⟨B2 (k2' + 0) _ hk2' _ rfl, nofun, (fun _ => by kernel_rfl)⟩) rfl (.int (m := (w64 (x1.place.last - (w64 (p2' * p1'.Form.Period))))) (m' := p3') (r := .bool (decide ((w64 (x1.place.last - (w64 (p2' * p1'.Form.Period)))) ≥ p3'))) rfl rfl rfl rfl rfl ?_)))))
 refine .assign (v := (vb (decide ((w64 (x1.place.last - (w64 (p2' * p1'.Form.Period)))) ≥ p3')))) rfl rfl (.nila H fun H => (.ret ?_))
 replace h := sj h; subst h
 exact (EndsH.H (xs := [(vb (decide ((w64 (x1.place.last - (w64 (p2' * p1'.Form.Period)))) ≥ p3')))]) (.inr rfl) H (.tmp (v := (vb (decide ((w64 (x1.place.last - (w64 (p2' * p1'.Form.Period)))) ≥ p3')))) rfl .nil) (.one (.c (.v _))) 0 rfl)

theorem Z6U {n : Int} {p1' : size_form} {p2' : Int} {p3' : Int} {id0' : Nat} {id1' : Nat} {id2' : Nat} {r : Bool} (h : Z1L n p1' p2' p3' = some r) : FnH CX 114 [(vi n), (.ptr id0' 5 0), (.ptr id1' 1 0), (.ptr id2' 1 0)] (vb r) [.blk id0' 96 (vG p1'), .blk id1' 3 [(vi p2')], .blk id2' 3 [(vi p3')]] := by
 refine FnH.of Try.func114 rfl rfl rfl rfl rfl rfl (fun h => by have := Z4b h 1 rfl; cases this) ?_
 intro σ L hC H
 have hC0 := hC
 obtain ⟨k0', hk0', hC⟩ := hC.inv
 obtain ⟨k1', hk1', hC⟩ := hC.inv
 obtain ⟨k2', hk2', hC⟩ := hC.inv
 unfold Z1L at h
 refine .then (.Z0 1 rfl H fun b1 σ H => (.assign (v := (vb false)) rfl rfl (.nila H fun H => (.then (.Z0u 16 rfl (by kernel_rfl) H fun b2 σ H B2 => ?_)))))
 refine .Z2 (off := 0) (fo := 4) H k0' hk0' rfl rfl rfl rfl (fun _ => .inl ⟨B2 (k0' + 0) _ hk0' _ rfl, nofun, (fun _ => by kernel_rfl)⟩) rfl (.ZA (off := 4) (v := (vl size_spot.cs p1'.spots)) H k0' hk0' rfl rfl rfl rfl (fun _ => .inl ⟨B2 (k0' + 0) _ hk0' _ rfl, nofun, (fun _ => by kernel_rfl)⟩) rfl (.move (v := (vi n)) rfl rfl ?_))
 obtain ⟨x1, q1, h⟩ := bind_some h
 refine .Z03 (c := size_spot.cs) (u := x1) rfl rfl q1 rfl rfl rfl rfl (.Z05 rfl rfl rfl rfl (.Z05 rfl rfl rfl rfl (.Z1m (u := (.int .i64 x1.place.first)) rfl rfl rfl rfl (.ZA (off := 0) (v := (vi p2')) H k1' hk1' rfl rfl rfl rfl (fun _ => .inl ⟨B2 (k1' + 0) _ hk1' _ rfl, nofun, (fun _ => by kernel_rfl)⟩) rfl (.Z2 (off := 0) (fo := 0) H k0' hk0' rfl rfl rfl rfl (fun _ => .inl ⟨B2 (k0' + 0) _ hk0' _ rfl, nofun, (fun _ => by kernel_rfl)⟩) rfl ?_)))))
 refine .Z2 (off := 0) (fo := 0) H k0' hk0' rfl rfl rfl rfl (fun _ => .inl ⟨B2 (k0' + 0) _ hk0' _ rfl, nofun, (fun _ => by kernel_rfl)⟩) rfl (.ZA (off := 0) (v := (vi p1'.Form.Period)) H k0' hk0' rfl rfl rfl rfl (fun _ => .inl ⟨B2 (k0' + 0) _ hk0' _ rfl, nofun, (fun _ => by kernel_rfl)⟩) rfl (.int (m := p2') (m' := p1'.Form.Period) (r := .int .i64 (w64 (p2' * p1'.Form.Period))) rfl rfl rfl rfl rfl (.int (m := x1.place.first) (m' := (w64 (p2' * p1'.Form.Period))) (r := .int .i64 (w64 (x1.place.first + (w64 (p2' * p1'.Form.Period))))) rfl rfl rfl rfl rfl (.ZA (off := 0) (v := (vi p3')) H k2' hk2' rfl rfl rfl rfl (fun _ => .inl ⟨B2 (k2' + 0) _ hk2' _ rfl, nofun, (fun _ => by kernel_rfl)⟩) rfl (.int (m := (w64 (x1.place.first + (w64 (p2' * p1'.Form.Period))))) (m' := p3') (r := .bool (decide ((w64 (x1.place.first + (w64 (p2' * p1'.Form.Period)))) > p3'))) rfl rfl rfl rfl rfl ?_)))))
 refine .assign (v := (vb (decide ((w64 (x1.place.first + (w64 (p2' * p1'.Form.Period)))) > p3')))) rfl rfl (.nila H fun H => (.ret ?_))
 replace h := sj h; subst h
 exact (EndsH.H (xs := [(vb (decide ((w64 (x1.place.first + (w64 (p2' * p1'.Form.Period)))) > p3')))]) (.inr rfl) H (.tmp (v := (vb (decide ((w64 (x1.place.first + (w64 (p2' * p1'.Form.Period)))) > p3')))) rfl .nil) (.one (.c (.v _))) 0 rfl)

theorem Z4d {f : size_form} {t : Int} {up : Bool} {r : Int} (h : Z0C f t up = some r) : Fn CX 89 [(.agg (vs (size_form.cs f))), (vi t), (vb up)] (vi r) := by
 refine Fn.ends Try.func89 rfl rfl rfl rfl rfl rfl ?_
 have H : Hs (⟨0, fun _ => .none⟩ : Heap) [] := Has.nil (Nat.le_refl _)
 generalize (⟨0, fun _ => .none⟩ : Heap) = σ at H ⊢
 unfold Z0C at h
 refine .then (.Z0 3 rfl H fun b1 σ H => (.boxH (cs := (vG f)) H (by omega) (by omega) rfl rfl rfl fun σ H => (.boxH (cs := [(vi t)]) H (by omega) (by omega) rfl rfl rfl fun σ H => (.assign (v := (vi 0)) rfl rfl (.nila H fun H => ?_)))))
 refine .then (.then (.Z0 1 rfl H fun b2 σ H => (.move (v := (vb up)) rfl rfl (.nila H fun H => ?_))))
 refine .whether (v := up) rfl ?_ ?_ <;> intro hc1
 ·replace h := Z8 hc1 h
  refine .then (.Z0u 24 rfl (by kernel_rfl) H fun b3 σ H B3 => (.Z2 (off := 0) (fo := 4) H 1 rfl rfl rfl rfl rfl (fun _ => .inl ⟨B3 1 _ rfl _ rfl, nofun, (fun _ => by kernel_rfl)⟩) rfl (.ZA (off := 4) (v := (vl size_spot.cs f.spots)) H 1 rfl rfl rfl rfl rfl (fun _ => .inl ⟨B3 1 _ rfl _ rfl, nofun, (fun _ => by kernel_rfl)⟩) rfl (.Z2 (off := 0) (fo := 4) H 1 rfl rfl rfl rfl rfl (fun _ => .inl ⟨B3 1 _ rfl _ rfl, nofun, (fun _ => by kernel_rfl)⟩) rfl (.ZA (off := 4) (v := (vl size_spot.cs f.spots)) H 1 rfl rfl rfl rfl rfl (fun _ => .inl ⟨B3 1 _ rfl _ rfl, nofun, (fun _ => by kernel_rfl)⟩) rfl ?_)))))
  refine .Z0K (c := size_spot.cs) (xs := f.spots) rfl rfl rfl (.int (m := (f.spots.length : Int)) (m' := 1) (r := .int .i64 (w64 ((f.spots.length : Int) - 1))) rfl rfl rfl rfl rfl ?_)
  obtain ⟨x1, q1, h⟩ := bind_some h
  refine .Z03 (c := size_spot.cs) (u := x1) rfl rfl q1 rfl rfl rfl rfl (.Z05 rfl rfl rfl rfl (.Z05 rfl rfl rfl rfl (.Z1m (u := (.int .i64 x1.place.last)) rfl rfl rfl rfl (.ZA (off := 0) (v := (vi t)) H 0 rfl rfl rfl rfl rfl (fun _ => .inl ⟨B3 0 _ rfl _ rfl, nofun, (fun _ => by kernel_rfl)⟩) rfl (.int (m := x1.place.last) (m' := t) (r := .int .i64 (w64 (x1.place.last - t))) rfl rfl rfl rfl rfl ?_)))))
  refine .Z2 (off := 0) (fo := 0) H 1 rfl rfl rfl rfl rfl (fun _ => .inl ⟨B3 1 _ rfl _ rfl, nofun, (fun _ => by kernel_rfl)⟩) rfl (.Z2 (off := 0) (fo := 0) H 1 rfl rfl rfl rfl rfl (fun _ => .inl ⟨B3 1 _ rfl _ rfl, nofun, (fun _ => by kernel_rfl)⟩) rfl (.ZA (off := 0) (v := (vi f.Form.Period)) H 1 rfl rfl rfl rfl rfl (fun _ => .inl ⟨B3 1 _ rfl _ rfl, nofun, (fun _ => by kernel_rfl)⟩) rfl ?_))
  obtain ⟨x2, q2, h⟩ := bind_some h
  refine .call (ys := [(vi (w64 (x1.place.last - t))), (vi f.Form.Period)]) (r := (.tup [(vi x2.1), (vi x2.2.1), (vi x2.2.2)])) rfl (Z2k q2) rfl (.move (v := (.tup [(vi x2.1), (vi x2.2.1), (vi x2.2.2)])) rfl rfl (.extract (v := (vi x2.1)) rfl rfl rfl (.extract (v := (vi x2.2.1)) rfl rfl rfl (.extract (v := (vi x2.2.2)) rfl rfl rfl (.Zs (cs := [(vi 0)]) H (by omega) (by omega) rfl rfl fun σ H => ?_)))))
  refine .ZV (off := 0) (cells' := [(vi x2.1)]) H 0 rfl rfl rfl rfl rfl rfl rfl rfl rfl (fun _ => .inr ⟨20, rfl, by kernel_rfl, by decide⟩) fun σ H => (.assign (v := (vi x2.2.1)) rfl rfl (.assign (v := (vi x2.2.2)) rfl rfl (.nila H fun H => (.then (.Z0 6 rfl H fun b4 σ H => ?_)))))
  refine .Z2 (off := 0) (fo := 4) H 2 rfl rfl rfl rfl rfl nofun rfl (.ZA (off := 4) (v := (vl size_spot.cs f.spots)) H 2 rfl rfl rfl rfl rfl nofun rfl (.Z0K (c := size_spot.cs) (xs := f.spots) rfl rfl rfl (.Z7j (fs := []) (cs := [(.ptr (b1 + 0) 5 0), (.ptr (b3 + 20) 1 0), (.ptr (b1 + 1) 1 0)]) rfl rfl rfl rfl ?_)))
  obtain ⟨x3, q3, h⟩ := bind_some h
  refine .callH (ys := [(vi (f.spots.length : Int)), (.clo 113 [] [(.ptr (b1 + 0) 5 0), (.ptr (b3 + 20) 1 0), (.ptr (b1 + 1) 1 0)])]) (r := (vi x3)) H rfl (Z4E (C := [.blk (b1 + 0) 96 (vG f), .blk (b3 + 20) 3 [(vi x2.1)], .blk (b1 + 1) 3 [(vi t)]]) rfl (fun h => by simp [PV.pure] at h) (fun z0 y hz => (CloH.clo (Z6R hz))) q3) (.cons 2 rfl (.cons 0 rfl (.cons 1 rfl .nil))) nofun rfl fun σ H => (.assign (v := (vi x3)) rfl rfl (.nila H fun H => (.then (.Z0u 13 rfl (by kernel_rfl) H fun b5 σ H B5 => (.Z2 (off := 0) (fo := 4) H 2 rfl rfl rfl rfl rfl (fun _ => .inl ⟨B5 2 _ rfl _ rfl, nofun, (fun _ => by kernel_rfl)⟩) rfl ?_)))))
  refine .ZA (off := 4) (v := (vl size_spot.cs f.spots)) H 2 rfl rfl rfl rfl rfl (fun _ => .inl ⟨B5 2 _ rfl _ rfl, nofun, (fun _ => by kernel_rfl)⟩) rfl (.move (v := (vi x3)) rfl rfl ?_)
  obtain ⟨x4, q4, h⟩ := bind_some h
  refine .Z03 (c := size_spot.cs) (u := x4) rfl rfl q4 rfl rfl rfl rfl (.Z05 rfl rfl rfl rfl (.Z1m (u := (.int .i64 x4.index)) rfl rfl rfl rfl (.ZA (off := 0) (v := (vi x2.1)) H 0 rfl rfl rfl rfl rfl (fun _ => .inl ⟨B5 0 _ rfl _ rfl, nofun, (fun _ => by kernel_rfl)⟩) rfl (.Z2 (off := 0) (fo := 0) H 2 rfl rfl rfl rfl rfl (fun _ => .inl ⟨B5 2 _ rfl _ rfl, nofun, (fun _ => by kernel_rfl)⟩) rfl (.Z2 (off := 0) (fo := 1) H 2 rfl rfl rfl rfl rfl (fun _ => .inl ⟨B5 2 _ rfl _ rfl, nofun, (fun _ => by kernel_rfl)⟩) rfl ?_)))))
  refine .ZA (off := 1) (v := (vi f.Form.Count)) H 2 rfl rfl rfl rfl rfl (fun _ => .inl ⟨B5 2 _ rfl _ rfl, nofun, (fun _ => by kernel_rfl)⟩) rfl (.int (m := x2.1) (m' := f.Form.Count) (r := .int .i64 (w64 (x2.1 * f.Form.Count))) rfl rfl rfl rfl rfl (.int (m := x4.index) (m' := (w64 (x2.1 * f.Form.Count))) (r := .int .i64 (w64 (x4.index - (w64 (x2.1 * f.Form.Count))))) rfl rfl rfl rfl rfl (.assign (v := (vi (w64 (x4.index - (w64 (x2.1 * f.Form.Count)))))) rfl rfl (.nila H fun H => (.ret ?_)))))
  replace h := sj h; subst h
  exact (Ends.H (xs := [(vi (w64 (x4.index - (w64 (x2.1 * f.Form.Count)))))]) (.inr rfl) H (.tmp (v := (vi (w64 (x4.index - (w64 (x2.1 * f.Form.Count)))))) rfl .nil) (.one (.c (.v _))))
 ·replace h := Z7 hc1 h
  refine .skip (.then (.Z0u 20 rfl (by kernel_rfl) H fun b6 σ H B6 => (.ZA (off := 0) (v := (vi t)) H 0 rfl rfl rfl rfl rfl (fun _ => .inl ⟨B6 0 _ rfl _ rfl, nofun, (fun _ => by kernel_rfl)⟩) rfl (.Z2 (off := 0) (fo := 4) H 1 rfl rfl rfl rfl rfl (fun _ => .inl ⟨B6 1 _ rfl _ rfl, nofun, (fun _ => by kernel_rfl)⟩) rfl (.ZA (off := 4) (v := (vl size_spot.cs f.spots)) H 1 rfl rfl rfl rfl rfl (fun _ => .inl ⟨B6 1 _ rfl _ rfl, nofun, (fun _ => by kernel_rfl)⟩) rfl ?_)))))
  obtain ⟨x5, q5, h⟩ := bind_some h
  refine .Z03 (c := size_spot.cs) (u := x5) rfl rfl q5 rfl rfl rfl rfl (.Z05 rfl rfl rfl rfl (.Z05 rfl rfl rfl rfl (.Z1m (u := (.int .i64 x5.place.first)) rfl rfl rfl rfl (.int (m := t) (m' := x5.place.first) (r := .int .i64 (w64 (t - x5.place.first))) rfl rfl rfl rfl rfl (.Z2 (off := 0) (fo := 0) H 1 rfl rfl rfl rfl rfl (fun _ => .inl ⟨B6 1 _ rfl _ rfl, nofun, (fun _ => by kernel_rfl)⟩) rfl ?_)))))
  refine .Z2 (off := 0) (fo := 0) H 1 rfl rfl rfl rfl rfl (fun _ => .inl ⟨B6 1 _ rfl _ rfl, nofun, (fun _ => by kernel_rfl)⟩) rfl (.ZA (off := 0) (v := (vi f.Form.Period)) H 1 rfl rfl rfl rfl rfl (fun _ => .inl ⟨B6 1 _ rfl _ rfl, nofun, (fun _ => by kernel_rfl)⟩) rfl ?_)
  obtain ⟨x6, q6, h⟩ := bind_some h
  refine .call (ys := [(vi (w64 (t - x5.place.first))), (vi f.Form.Period)]) (r := (.tup [(vi x6.1), (vi x6.2.1), (vi x6.2.2)])) rfl (Z2k q6) rfl (.move (v := (.tup [(vi x6.1), (vi x6.2.1), (vi x6.2.2)])) rfl rfl (.extract (v := (vi x6.1)) rfl rfl rfl (.extract (v := (vi x6.2.1)) rfl rfl rfl (.extract (v := (vi x6.2.2)) rfl rfl rfl (.Zs (cs := [(vi 0)]) H (by omega) (by omega) rfl rfl fun σ H => ?_)))))
  refine .ZV (off := 0) (cells' := [(vi x6.1)]) H 0 rfl rfl rfl rfl rfl rfl rfl rfl rfl (fun _ => .inr ⟨16, rfl, by kernel_rfl, by decide⟩) fun σ H => (.assign (v := (vi x6.2.1)) rfl rfl (.assign (v := (vi x6.2.2)) rfl rfl (.nila H fun H => (.then (.Z0 6 rfl H fun b7 σ H => ?_)))))
  refine .Z2 (off := 0) (fo := 4) H 2 rfl rfl rfl rfl rfl nofun rfl (.ZA (off := 4) (v := (vl size_spot.cs f.spots)) H 2 rfl rfl rfl rfl rfl nofun rfl (.Z0K (c := size_spot.cs) (xs := f.spots) rfl rfl rfl (.Z7j (fs := []) (cs := [(.ptr (b1 + 0) 5 0), (.ptr (b6 + 16) 1 0), (.ptr (b1 + 1) 1 0)]) rfl rfl rfl rfl ?_)))
  obtain ⟨x7, q7, h⟩ := bind_some h
  refine .callH (ys := [(vi (f.spots.length : Int)), (.clo 114 [] [(.ptr (b1 + 0) 5 0), (.ptr (b6 + 16) 1 0), (.ptr (b1 + 1) 1 0)])]) (r := (vi x7)) H rfl (Z4E (C := [.blk (b1 + 0) 96 (vG f), .blk (b6 + 16) 3 [(vi x6.1)], .blk (b1 + 1) 3 [(vi t)]]) rfl (fun h => by simp [PV.pure] at h) (fun z0 y hz => (CloH.clo (Z6U hz))) q7) (.cons 2 rfl (.cons 0 rfl (.cons 1 rfl .nil))) nofun rfl fun σ H => (.assign (v := (vi x7)) rfl rfl (.nila H fun H => (.then (.Z0u 14 rfl (by kernel_rfl) H fun b8 σ H B8 => (.Z2 (off := 0) (fo := 4) H 2 rfl rfl rfl rfl rfl (fun _ => .inl ⟨B8 2 _ rfl _ rfl, nofun, (fun _ => by kernel_rfl)⟩) rfl ?_)))))
  refine .ZA (off := 4) (v := (vl size_spot.cs f.spots)) H 2 rfl rfl rfl rfl rfl (fun _ => .inl ⟨B8 2 _ rfl _ rfl, nofun, (fun _ => by kernel_rfl)⟩) rfl (.move (v := (vi x7)) rfl rfl (.int (m := x7) (m' := 1) (r := .int .i64 (w64 (x7 - 1))) rfl rfl rfl rfl rfl ?_))
  obtain ⟨x8, q8, h⟩ := bind_some h
  refine .Z03 (c := size_spot.cs) (u := x8) rfl rfl q8 rfl rfl rfl rfl (.Z05 rfl rfl rfl rfl (.Z1m (u := (.int .i64 x8.index)) rfl rfl rfl rfl (.ZA (off := 0) (v := (vi x6.1)) H 0 rfl rfl rfl rfl rfl (fun _ => .inl ⟨B8 0 _ rfl _ rfl, nofun, (fun _ => by kernel_rfl)⟩) rfl (.Z2 (off := 0) (fo := 0) H 2 rfl rfl rfl rfl rfl (fun _ => .inl ⟨B8 2 _ rfl _ rfl, nofun, (fun _ => by kernel_rfl)⟩) rfl (.Z2 (off := 0) (fo := 1) H 2 rfl rfl rfl rfl rfl (fun _ => .inl ⟨B8 2 _ rfl _ rfl, nofun, (fun _ => by kernel_rfl)⟩) rfl ?_)))))
  refine .ZA (off := 1) (v := (vi f.Form.Count)) H 2 rfl rfl rfl rfl rfl (fun _ => .inl ⟨B8 2 _ rfl _ rfl, nofun, (fun _ => by kernel_rfl)⟩) rfl (.int (m := x6.1) (m' := f.Form.Count) (r := .int .i64 (w64 (x6.1 * f.Form.Count))) rfl rfl rfl rfl rfl (.int (m := x8.index) (m' := (w64 (x6.1 * f.Form.Count))) (r := .int .i64 (w64 (x8.index + (w64 (x6.1 * f.Form.Count))))) rfl rfl rfl rfl rfl (.assign (v := (vi (w64 (x8.index + (w64 (x6.1 * f.Form.Count)))))) rfl rfl (.nila H fun H => (.ret ?_)))))
  replace h := sj h; subst h
  exact (Ends.H (xs := [(vi (w64 (x8.index + (w64 (x6.1 * f.Form.Count)))))]) (.inr rfl) H (.tmp (v := (vi (w64 (x8.index + (w64 (x6.1 * f.Form.Count)))))) rfl .nil) (.one (.c (.v _))))

theorem Z7C {g : Granule} {i : Int} {r : Int} (h : Z26 g i = r) : Fn CX 130 [(.agg (vs (Granule.cs g))), (vi i)] (vi r) := by
 refine Fn.ends Try.func130 rfl rfl rfl rfl rfl rfl ?_
 have H : Hs (⟨0, fun _ => .none⟩ : Heap) [] := Has.nil (Nat.le_refl _)
 generalize (⟨0, fun _ => .none⟩ : Heap) = σ at H ⊢
 unfold Z26 at h
 refine .then (.Z0 2 rfl H fun b1 σ H => (.boxH (cs := [(vi g.Index), (vl Span.cs g.Ticks)]) H (by omega) (by omega) rfl rfl rfl fun σ H => (.assign (v := (vi 0)) rfl rfl (.nila H fun H => (.then ?_)))))
 refine .Z0 5 rfl H fun b2 σ H => (.Z2 (off := 0) (fo := 0) H 0 rfl rfl rfl rfl rfl nofun rfl (.ZA (off := 0) (v := (vi g.Index)) H 0 rfl rfl rfl rfl rfl nofun rfl (.move (v := (vi i)) rfl rfl (.call (ys := [(vi g.Index), (vi i)]) (r := (vi (Zv g.Index i))) rfl (Z41 rfl) rfl (.assign (v := (vi (Zv g.Index i))) rfl rfl ?_)))))
 refine .nila H fun H => (.ret ?_)
 subst h
 exact (Ends.H (xs := [(vi (Zv g.Index i))]) (.inr rfl) H (.tmp (v := (vi (Zv g.Index i))) rfl .nil) (.one (.c (.v _))))

theorem Z7u {f : size_form} {i : Int} {r : Int} (h : Z1g f i = some r) : Fn CX 112 [(.agg (vs (size_form.cs f))), (vi i)] (vi r) := by
 refine Fn.ends Try.func112 rfl rfl rfl rfl rfl rfl ?_
 have H : Hs (⟨0, fun _ => .none⟩ : Heap) [] := Has.nil (Nat.le_refl _)
 generalize (⟨0, fun _ => .none⟩ : Heap) = σ at H ⊢
 unfold Z1g at h
 refine .then (.Z0 2 rfl H fun b1 σ H => (.boxH (cs := (vG f)) H (by omega) (by omega) rfl rfl rfl fun σ H => (.assign (v := (vi 0)) rfl rfl (.nila H fun H => (.then ?_)))))
 refine .Z0 10 rfl H fun b2 σ H => (.Z2 (off := 0) (fo := 0) H 0 rfl rfl rfl rfl rfl nofun rfl (.Z2 (off := 0) (fo := 3) H 0 rfl rfl rfl rfl rfl nofun rfl (.ZA (off := 3) (v := (vl Granule.cs f.Form.Odd)) H 0 rfl rfl rfl rfl rfl nofun rfl (.move (v := (vi i)) rfl rfl ?_))))
 obtain ⟨x1, q1, h⟩ := bind_some h
 refine .callH (ys := [(vl Granule.cs f.Form.Odd), (vi i), (.v (.fn 130))]) (r := (.tup [(vi x1.1), (vb x1.2)])) H rfl (Z0a (C := []) rfl (fun _ => rfl) (fun z0 z1 y hz => (CloH.fn (Fn.toH (Z7C (Option.some.inj hz)) _))) q1) .nil nofun rfl fun σ H => (.move (v := (.tup [(vi x1.1), (vb x1.2)])) rfl rfl (.extract (v := (vi x1.1)) rfl rfl rfl (.extract (v := (vb x1.2)) rfl rfl rfl (.assign (v := (vi x1.1)) rfl rfl (.assign (v := (vb x1.2)) rfl rfl ?_)))))
 refine .nila H fun H => (.then (.then (.Z0 2 rfl H fun b3 σ H => (.move (v := (vb x1.2)) rfl rfl (.not (b := x1.2) rfl rfl ?_)))))
 refine .nila H fun H => ?_
 refine .whether (v := (!x1.2)) rfl ?_ ?_ <;> intro hc1
 ·replace h := Z8 hc1 h
  refine .then (.Z0 1 rfl H fun b4 σ H => (.assign (v := (vi (-1))) rfl rfl (.nila H fun H => (.ret ?_))))
  replace h := sj h; subst h
  exact (Ends.H (xs := [(vi (-1))]) (.inr rfl) H (.tmp (v := (vi (-1))) rfl .nil) (.one (.c (.v _))))
 ·replace h := Z7 hc1 h
  refine .skip (.then (.Z0 2 rfl H fun b5 σ H => (.move (v := (vi x1.1)) rfl rfl (.assign (v := (vi x1.1)) rfl rfl (.nila H fun H => ?_)))))
  refine .ret ?_
  replace h := sj h; subst h
  exact (Ends.H (xs := [(vi x1.1)]) (.inr rfl) H (.tmp (v := (vi x1.1)) rfl .nil) (.one (.c (.v _))))

theorem Z8A {f : size_form} {i : Int} {r : Bool} (h : Z2B f i = some r) : Fn CX 115 [(.agg (vs (size_form.cs f))), (vi i)] (vb r) := by
 refine Fn.ends Try.func115 rfl rfl rfl rfl rfl rfl ?_
 have H : Hs (⟨0, fun _ => .none⟩ : Heap) [] := Has.nil (Nat.le_refl _)
 generalize (⟨0, fun _ => .none⟩ : Heap) = σ at H ⊢
 unfold Z2B at h
 refine .then (.Z0 2 rfl H fun b1 σ H => (.boxH (cs := (vG f)) H (by omega) (by omega) rfl rfl rfl fun σ H => (.assign (v := (vb false)) rfl rfl (.nila H fun H => (.then ?_)))))
 refine .Z0 12 rfl H fun b2 σ H => (.move (v := (vi i)) rfl rfl (.Z2 (off := 0) (fo := 0) H 0 rfl rfl rfl rfl rfl nofun rfl (.Z2 (off := 0) (fo := 1) H 0 rfl rfl rfl rfl rfl nofun rfl (.ZA (off := 1) (v := (vi f.Form.Count)) H 0 rfl rfl rfl rfl rfl nofun rfl ?_))))
 obtain ⟨x1, q1, h⟩ := bind_some h
 refine .call (ys := [(vi i), (vi f.Form.Count)]) (r := (.tup [(vi x1.1), (vi x1.2.1), (vi x1.2.2)])) rfl (Z2k q1) rfl (.move (v := (.tup [(vi x1.1), (vi x1.2.1), (vi x1.2.2)])) rfl rfl (.extract (v := (vi x1.1)) rfl rfl rfl (.extract (v := (vi x1.2.1)) rfl rfl rfl (.extract (v := (vi x1.2.2)) rfl rfl rfl (.assign (v := (vi x1.1)) rfl rfl ?_)))))
 refine .assign (v := (vi x1.2.1)) rfl rfl (.assign (v := (vi x1.2.2)) rfl rfl (.nila H fun H => (.then (.Z0 9 rfl H fun b3 σ H => (.Z2 (off := 0) (fo := 0) H 0 rfl rfl rfl rfl rfl nofun rfl ?_)))))
 refine .Z2 (off := 0) (fo := 2) H 0 rfl rfl rfl rfl rfl nofun rfl (.ZA (off := 2) (v := (vl (cL Span.cs) f.Form.Core)) H 0 rfl rfl rfl rfl rfl nofun rfl (.move (v := (vi x1.2.1)) rfl rfl ?_))
 obtain ⟨x2, q2, h⟩ := bind_some h
 refine .Z03 (c := (cL Span.cs)) (u := x2) rfl rfl q2 rfl rfl rfl rfl (.Z1m (u := (.sl (x2.map Span.cs))) rfl rfl rfl rfl (.Z0K (c := Span.cs) (xs := x2) rfl rfl rfl (.int (m := (x2.length : Int)) (m' := 0) (r := .bool (decide ((x2.length : Int) > 0))) rfl rfl rfl rfl rfl (.assign (v := (vb (decide ((x2.length : Int) > 0)))) rfl rfl (.nila H fun H => ?_)))))
 refine .ret ?_
 replace h := sj h; subst h
 exact (Ends.H (xs := [(vb (decide ((x2.length : Int) > 0)))]) (.inr rfl) H (.tmp (v := (vb (decide ((x2.length : Int) > 0)))) rfl .nil) (.one (.c (.v _))))

theorem Z4I {f : size_form} {t : Int} {up : Bool} {r : Int × Bool} (h : Z9 f t up = some r) : Fn CX 90 [(.agg (vs (size_form.cs f))), (vi t), (vb up)] (.tup [(vi r.1), (vb r.2)]) := by
 refine Fn.ends Try.func90 rfl rfl rfl rfl rfl rfl ?_
 have H : Hs (⟨0, fun _ => .none⟩ : Heap) [] := Has.nil (Nat.le_refl _)
 generalize (⟨0, fun _ => .none⟩ : Heap) = σ at H ⊢
 unfold Z9 at h
 refine .then (.Z0 3 rfl H fun b1 σ H => (.boxH (cs := (vG f)) H (by omega) (by omega) rfl rfl rfl fun σ H => (.assign (v := (vi 0)) rfl rfl (.assign (v := (vb false)) rfl rfl (.nila H fun H => ?_)))))
 refine .then (.Z0 1 rfl H fun b2 σ H => (.Zs (cs := [(vi 0), (vb false)]) H (by omega) (by omega) rfl rfl fun σ H => (.nila H fun H => (.then (.Z0 1 rfl H fun b3 σ H => ?_)))))
 refine .assign (v := (vi (-1))) rfl rfl (.nila H fun H => (.then ?_))
 obtain ⟨y1, hj1, h⟩ := bind_some h
 refine .mono (Q := fun x e σ => x = .normal ∧ Z4 e [(1, (vi t)), (2, (vb up)), (3, (.ptr (b1 + 0) 5 0)), (8, (.ptr (b2 + 0) 2 0)), (9, (vi y1))] ∧ Hs σ [.blk (b2 + 0) 119 [(vi 0), (vb false)], .blk (b1 + 0) 96 (vG f)]) ?_ ?_
 ·replace h := hj1
  refine .then (.Z0 1 rfl H fun b4 σ H => (.move (v := (vb up)) rfl rfl (.nila H fun H => ?_)))
  refine .whether (v := up) rfl ?_ ?_ <;> intro hc1
  ·replace h := Z8 hc1 h
   refine .Z0 1 rfl H fun b5 σ H => (.assign (v := (vi 1)) rfl rfl (.nila H fun H => ?_))
   replace h := sj h; subst h
   exact ⟨rfl, ⟨rfl, rfl, rfl, rfl, rfl, trivial⟩, H⟩
  ·replace h := Z7 hc1 h
   refine .skip ?_
   replace h := sj h; subst h
   exact ⟨rfl, ⟨rfl, rfl, rfl, rfl, rfl, trivial⟩, H⟩
 ·rintro x e σ ⟨rfl, he, H⟩
  obtain ⟨e, rfl⟩ := he.ex
  refine .then ?_
  obtain ⟨y2, hj2, h⟩ := bind_some h
  refine .mono (Q := fun x e σ => x = .normal ∧ Z4 e [(1, (vi t)), (2, (vb up)), (3, (.ptr (b1 + 0) 5 0)), (8, (.ptr (b2 + 0) 2 0)), (9, (vi y1))] ∧ Hs σ [.blk (b2 + 0) 119 [(vi y2.1), (vb y2.2)], .blk (b1 + 0) 96 (vG f)]) ?_ ?_
  ·replace h := hj2
   refine .then (.Z0 4 rfl H fun b6 σ H => (.Z2 (off := 0) (fo := 0) H 1 rfl rfl rfl rfl rfl nofun rfl (.Z2 (off := 0) (fo := 1) H 1 rfl rfl rfl rfl rfl nofun rfl (.ZA (off := 1) (v := (vi f.Form.Count)) H 1 rfl rfl rfl rfl rfl nofun rfl (.int (m := f.Form.Count) (m' := 0) (r := .bool (decide (f.Form.Count > 0))) rfl rfl rfl rfl rfl ?_)))))
   refine .nila H fun H => ?_
   refine .whether (v := (decide (f.Form.Count > 0))) rfl ?_ ?_ <;> intro hc2
   ·replace h := Z8 hc2 h
    refine .then (.Z0 5 rfl H fun b7 σ H => (.ZR (off := 0) (cs := (vG f)) H 1 rfl rfl rfl rfl rfl rfl rfl nofun rfl (.move (v := (vi t)) rfl rfl (.move (v := (vb up)) rfl rfl ?_))))
    obtain ⟨x1, q1, h⟩ := bind_some h
    refine .call (ys := [(.agg (vG f)), (vi t), (vb up)]) (r := (vi x1)) rfl (Z4d q1) rfl (.assign (v := (vi x1)) rfl rfl (.nila H fun H => (.then (.inBlock ?_))))
    obtain ⟨y3, hj3, h⟩ := bind_some h
    obtain ⟨n1, hj3⟩ := Zb.1 hj3
    refine .mono (Runs.ZN hj3 (fun s1 e σ => Z4 e [(1, (vi t)), (2, (vb up)), (3, (.ptr (b1 + 0) 5 0)), (8, (.ptr (b2 + 0) 2 0)), (9, (vi y1)), (10, (vi s1))] ∧ Hs σ [.blk (b2 + 0) 119 [(vi 0), (vb false)], .blk (b1 + 0) 96 (vG f)]) (fun y3 x e σ => x = .exit 0 ∧ Z4 e [(1, (vi t)), (2, (vb up)), (3, (.ptr (b1 + 0) 5 0)), (8, (.ptr (b2 + 0) 2 0)), (9, (vi y1)), (10, (vi y3))] ∧ Hs σ [.blk (b2 + 0) 119 [(vi 0), (vb false)], .blk (b1 + 0) 96 (vG f)]) ⟨⟨rfl, rfl, rfl, rfl, rfl, rfl, trivial⟩, H⟩ ?_) ?_
    ·intro s1 e σ hI z h
     obtain ⟨he, H⟩ := hI
     obtain ⟨e, rfl⟩ := he.ex
     unfold Z9.s0 at h
     refine .then (.then (.Z0 10 rfl H fun b8 σ H => (.ZR (off := 0) (cs := (vG f)) H 1 rfl rfl rfl rfl rfl rfl rfl nofun rfl (.move (v := (vi s1)) rfl rfl ?_))))
     obtain ⟨x2, q2, h⟩ := bind_some h
     refine .call (ys := [(.agg (vG f)), (vi s1)]) (r := (vi x2)) rfl (Z7u q2) rfl (.int (m := x2) (m' := 0) (r := .bool (decide (x2 ≥ 0))) rfl rfl rfl rfl rfl (.move (v := (vb (decide (x2 ≥ 0)))) rfl rfl ?_))
     obtain ⟨y4, hj4, h⟩ := bind_some h
     refine .mid 5 (K1 := fun e σ => Z4 e [(33, (vb y4)), (1, (vi t)), (2, (vb up)), (3, (.ptr (b1 + 0) 5 0)), (8, (.ptr (b2 + 0) 2 0)), (9, (vi y1)), (10, (vi s1))] ∧ Has σ (b8 + 10) (b8 + 10) [.blk (b2 + 0) 119 [(vi 0), (vb false)], .blk (b1 + 0) 96 (vG f)]) rfl ?_ ?_
     ·refine .split rfl rfl ?_ ?_ <;> intro hc3
      ·replace h := Z8 hc3 hj4
       refine .pass rfl rfl rfl (.pass rfl rfl rfl (.pass rfl rfl rfl (.pass rfl rfl rfl (.Zd (v := (vb true)) rfl rfl rfl (.nil ?_)))))
       replace h := sj h; subst h
       exact ⟨⟨rfl, rfl, rfl, rfl, rfl, rfl, rfl, trivial⟩, H.weak (by omega) (Nat.le_refl _)⟩
      ·replace h := Z7 hc3 hj4
       refine .wanted rfl rfl (.ZR (off := 0) (cs := (vG f)) H 1 rfl rfl rfl rfl rfl rfl rfl nofun rfl (.wanted rfl rfl (.move (v := (vi s1)) rfl rfl (.wanted rfl rfl ?_))))
       obtain ⟨x3, q3, h⟩ := bind_some h
       refine .call (ys := [(.agg (vG f)), (vi s1)]) (r := (vb x3)) rfl (Z8A q3) rfl (.wanted rfl rfl (.not (b := x3) rfl rfl (.Zf (v := (vb (!x3))) rfl rfl rfl (.nil ?_))))
       replace h := sj h; subst h
       exact ⟨⟨rfl, rfl, rfl, rfl, rfl, rfl, rfl, trivial⟩, H.weak (by omega) (Nat.le_refl _)⟩
     ·rintro e σ ⟨he, H⟩
      obtain ⟨e, rfl⟩ := he.ex
      refine .nila H fun H => ?_
      refine .whether (v := y4) rfl ?_ ?_ <;> intro hc4
      ·replace h := Z8 hc4 h
       refine .skip (.inBlock (.Z0 4 rfl H fun b9 σ H => (.move (v := (vi s1)) rfl rfl (.move (v := (vi y1)) rfl rfl (.int (m := s1) (m' := y1) (r := .int .i64 (w64 (s1 + y1))) rfl rfl rfl rfl rfl ?_)))))
       refine .assign (v := (vi (w64 (s1 + y1)))) rfl rfl (.nila H fun H => ?_)
       replace h := sj h; subst h
       exact ⟨rfl, ⟨rfl, rfl, rfl, rfl, rfl, rfl, trivial⟩, H⟩
      ·replace h := Z7 hc4 h
       refine .exit ?_
       replace h := sj h; subst h
       exact ⟨nofun, ⟨rfl, ⟨rfl, rfl, rfl, rfl, rfl, rfl, trivial⟩, H⟩⟩
    ·rintro x e σ ⟨rfl, he, H⟩
     obtain ⟨e, rfl⟩ := he.ex
     refine .Z0 6 rfl H fun b10 σ H => (.move (v := (vi y1)) rfl rfl (.neg (m := y1) rfl rfl (.move (v := (vi y3)) rfl rfl (.int (m := (w64 (0 - y1))) (m' := y3) (r := .int .i64 (w64 ((w64 (0 - y1)) * y3))) rfl rfl rfl rfl rfl (.Z2i (sz := 1) ([(w64 ((w64 (0 - y1)) * y3))].map (cI .i64)) H (by omega) (by omega) rfl rfl rfl rfl rfl rfl rfl rfl rfl fun σ H => ?_)))))
     obtain ⟨y5, hj5, h⟩ := bind_some h
     refine .callI (PostA := fun r A => r = (.tup []) ∧ A = [.sl (.buf (b10 + 4) 1 1) 3 1 (y5.1.map (cI .i64)) true, .blk (b2 + 0) 119 [(vi y5.2.1), (vb y5.2.2)], .blk (b1 + 0) 96 (vG f)]) (cv := (.v (.fn 86))) (ys := [(.ptr (b2 + 0) 2 0), (.buf (b10 + 4) 1 1)]) (L := []) [.sl (.buf (b10 + 4) 1 1) 3 1 ([(w64 ((w64 (0 - y1)) * y3))].map (cI .i64)) true, .blk (b2 + 0) 119 [(vi 0), (vb false)], .blk (b1 + 0) 96 (vG f)] H rfl rfl (fun T1 hT H => Z5q Try.func86 rfl (fun _ => rfl) rfl rfl rfl rfl ?_) nofun rfl ?_
     ·replace h := hj5
      refine .then (.Z0 3 rfl H fun b11 σ H => (.move (v := (.buf (b10 + 4) 1 1)) rfl rfl (.lenSt (c := (cI .i64)) (xs := [(w64 ((w64 (0 - y1)) * y3))]) H 0 rfl rfl rfl nofun rfl (.move (v := (vi 0)) rfl rfl (.nila H fun H => ?_)))))
      refine .inBlock ?_
      obtain ⟨y6, hj6, h⟩ := bind_some h
      obtain ⟨n2, hj6⟩ := Zb.1 hj6
      refine .mono (Runs.ZN hj6 (fun s2 e σ => Z4 e [(0, (.ptr (b2 + 0) 2 0)), (6, (.buf (b10 + 4) 1 1)), (7, (vi s2.1)), (8, (vi s2.2.1))] ∧ Hs σ (.sl (.buf (b10 + 4) 1 1) 3 1 (s2.2.2.1.map (cI .i64)) true :: .blk (b2 + 0) 119 [(vi s2.2.2.2.1), (vb s2.2.2.2.2)] :: .blk (b1 + 0) 96 (vG f) :: T1)) (fun y6 x e σ => x = .exit 0 ∧ Z4 e [] ∧ Hs σ (.sl (.buf (b10 + 4) 1 1) 3 1 (y6.1.map (cI .i64)) true :: .blk (b2 + 0) 119 [(vi y6.2.1), (vb y6.2.2)] :: .blk (b1 + 0) 96 (vG f) :: T1)) ⟨⟨rfl, rfl, rfl, rfl, trivial⟩, H⟩ ?_) ?_
      ·intro s2 e σ hI z h
       obtain ⟨he, H⟩ := hI
       obtain ⟨e, rfl⟩ := he.ex
       unfold Z9.s1 at h
       refine .then (.Z0 1 rfl H fun b12 σ H => (.int (m := s2.2.1) (m' := s2.1) (r := .bool (decide (s2.2.1 < s2.1))) rfl rfl rfl rfl rfl (.nila H fun H => (.then ?_))))
       refine .whether (v := (decide (s2.2.1 < s2.1))) rfl ?_ ?_ <;> intro hc5
       ·replace h := Z8 hc5 h
        refine .skip (.then ?_)
        obtain ⟨y7, hj7, h⟩ := bind_some h
        refine .mono (Q := fun x e σ => x = .normal ∧ Z4 e [(0, (.ptr (b2 + 0) 2 0)), (6, (.buf (b10 + 4) 1 1)), (7, (vi s2.1)), (8, (vi s2.2.1))] ∧ Hs σ (.sl (.buf (b10 + 4) 1 1) 3 1 (s2.2.2.1.map (cI .i64)) true :: .blk (b2 + 0) 119 [(vi y7.1), (vb y7.2)] :: .blk (b1 + 0) 96 (vG f) :: T1)) ?_ ?_
        ·replace h := hj7
         refine .inBlock ?_
         obtain ⟨y8, hj8, h⟩ := bind_some h
         refine .mono (Q := fun x e σ => x = .normal ∧ Z4 e [(0, (.ptr (b2 + 0) 2 0)), (6, (.buf (b10 + 4) 1 1)), (7, (vi s2.1)), (8, (vi s2.2.1))] ∧ Hs σ (.sl (.buf (b10 + 4) 1 1) 3 1 (s2.2.2.1.map (cI .i64)) true :: .blk (b2 + 0) 119 [(vi y8.1), (vb y8.2)] :: .blk (b1 + 0) 96 (vG f) :: T1)) ?_ ?_
         ·replace h := hj8
          refine .then (.Z0 3 rfl H fun b13 σ H => ?_)
          obtain ⟨x4, q4, h⟩ := bind_some h
          refine .Z76 H 0 rfl rfl rfl (at?_map q4) rfl rfl nofun rfl ?_; intro id1 hv1
          refine .loadS (id := id1) (j := 0) (w := (.int .i64 x4)) H 0 rfl hv1 (by simp) (at?_map q4) rfl (by simp) rfl rfl rfl nofun rfl ?_
          refine .assign (v := (vi x4)) rfl rfl (.nila H fun H => (.then (.Z0 13 rfl H fun b14 σ H => (.move (v := (.ptr (b2 + 0) 2 0)) rfl rfl (.Z0P (off := 0) H 1 rfl rfl rfl nofun rfl ?_)))))
          refine .Z2 (off := 0) (fo := 1) H 1 rfl rfl rfl rfl rfl nofun rfl (.ZA (off := 1) (v := (vb s2.2.2.2.2)) H 1 rfl rfl rfl rfl rfl nofun rfl (.not (b := s2.2.2.2.2) rfl rfl (.move (v := (vb (!s2.2.2.2.2))) rfl rfl ?_)))
          refine .mid 7 (K1 := fun e σ => Z4 e [(24, (vb ((!s2.2.2.2.2) || (decide (x4 > s2.2.2.2.1))))), (0, (.ptr (b2 + 0) 2 0)), (5, (vi x4)), (6, (.buf (b10 + 4) 1 1)), (7, (vi s2.1)), (8, (vi s2.2.1))] ∧ Has σ (b14 + 13) (b14 + 13) (.sl (.buf (b10 + 4) 1 1) 3 1 (s2.2.2.1.map (cI .i64)) true :: .blk (b2 + 0) 119 [(vi s2.2.2.2.1), (vb s2.2.2.2.2)] :: .blk (b1 + 0) 96 (vG f) :: T1)) rfl ?_ ?_
          ·refine .split rfl rfl ?_ ?_ <;> intro hc6
           ·skip
            refine .pass rfl rfl rfl (.pass rfl rfl rfl (.pass rfl rfl rfl (.pass rfl rfl rfl (.pass rfl rfl rfl (.pass rfl rfl rfl ?_)))))
            refine .Zd (v := (vb true)) rfl rfl rfl (.nil ?_)
            exact ⟨⟨or_T hc6, rfl, rfl, rfl, rfl, rfl, trivial⟩, H.weak (by omega) (Nat.le_refl _)⟩
           ·skip
            refine .wanted rfl rfl (.move (v := (vi x4)) rfl rfl (.wanted rfl rfl (.move (v := (.ptr (b2 + 0) 2 0)) rfl rfl (.wanted rfl rfl (.Z0P (off := 0) H 1 rfl rfl rfl nofun rfl ?_)))))
            refine .wanted rfl rfl (.Z2 (off := 0) (fo := 0) H 1 rfl rfl rfl rfl rfl nofun rfl (.wanted rfl rfl (.ZA (off := 0) (v := (vi s2.2.2.2.1)) H 1 rfl rfl rfl rfl rfl nofun rfl (.wanted rfl rfl (.int (m := x4) (m' := s2.2.2.2.1) (r := .bool (decide (x4 > s2.2.2.2.1))) rfl rfl rfl rfl rfl ?_)))))
            refine .Zf (v := (vb (decide (x4 > s2.2.2.2.1)))) rfl rfl rfl (.nil ?_)
            exact ⟨⟨or_F hc6, rfl, rfl, rfl, rfl, rfl, trivial⟩, H.weak (by omega) (Nat.le_refl _)⟩
          ·rintro e σ ⟨he, H⟩
           obtain ⟨e, rfl⟩ := he.ex
           refine .nila H fun H => ?_
           refine .whether (v := ((!s2.2.2.2.2) || (decide (x4 > s2.2.2.2.1)))) rfl ?_ ?_ <;> intro hc7
           ·replace h := Z8 hc7 h
            refine .Z0 9 rfl H fun b15 σ H => (.move (v := (.ptr (b2 + 0) 2 0)) rfl rfl (.move (v := (.ptr (b2 + 0) 2 0)) rfl rfl (.move (v := (vi x4)) rfl rfl (.Z0P (off := 0) H 1 rfl rfl rfl nofun rfl (.Z2 (off := 0) (fo := 0) H 1 rfl rfl rfl rfl rfl nofun rfl ?_)))))
            refine .ZV (off := 0) (cells' := [(vi x4), (vb s2.2.2.2.2)]) H 1 rfl rfl rfl rfl rfl rfl rfl rfl rfl nofun fun σ H => (.Z0P (off := 0) H 1 rfl rfl rfl nofun rfl (.Z2 (off := 0) (fo := 1) H 1 rfl rfl rfl rfl rfl nofun rfl (.ZV (off := 1) (cells' := [(vi x4), (vb true)]) H 1 rfl rfl rfl rfl rfl rfl rfl rfl rfl nofun fun σ H => (.nila H fun H => ?_))))
            replace h := sj h; subst h
            exact ⟨rfl, ⟨rfl, rfl, rfl, rfl, trivial⟩, H⟩
           ·replace h := Z7 hc7 h
            refine .skip ?_
            replace h := sj h; subst h
            exact ⟨rfl, ⟨rfl, rfl, rfl, rfl, trivial⟩, H⟩
         ·rintro x e σ ⟨rfl, he, H⟩
          obtain ⟨e, rfl⟩ := he.ex
          replace h := sj h; subst h
          exact ⟨rfl, ⟨rfl, rfl, rfl, rfl, trivial⟩, H⟩
        ·rintro x e σ ⟨rfl, he, H⟩
         obtain ⟨e, rfl⟩ := he.ex
         refine .Z0 2 rfl H fun b16 σ H => (.int (m := s2.2.1) (m' := 1) (r := .int .i64 (w64 (s2.2.1 + 1))) rfl rfl rfl rfl rfl (.move (v := (vi (w64 (s2.2.1 + 1)))) rfl rfl (.nila H fun H => ?_)))
         replace h := sj h; subst h
         exact ⟨rfl, ⟨rfl, rfl, rfl, rfl, trivial⟩, H⟩
       ·replace h := Z7 hc5 h
        refine .exit ?_
        replace h := sj h; subst h
        exact ⟨nofun, ⟨rfl, trivial, H⟩⟩
      ·rintro x e σ ⟨rfl, he, H⟩
       obtain ⟨e, rfl⟩ := he.ex
       replace h := sj h; subst h
       exact ⟨.inl rfl, _, Z4T H .nil, _, ⟨rfl, rfl⟩, H⟩
     ·rintro _ _ σ ⟨rfl, rfl⟩ H
      refine .nila H fun H => ?_
      replace h := sj h; subst h
      exact ⟨rfl, ⟨rfl, rfl, rfl, rfl, rfl, trivial⟩, (H.erase 0)⟩
   ·replace h := Z7 hc2 h
    refine .skip ?_
    replace h := sj h; subst h
    exact ⟨rfl, ⟨rfl, rfl, rfl, rfl, rfl, trivial⟩, H⟩
  ·rintro x e σ ⟨rfl, he, H⟩
   obtain ⟨e, rfl⟩ := he.ex
   refine .then (.then (.Z0 5 rfl H fun b17 σ H => (.Z2 (off := 0) (fo := 0) H 1 rfl rfl rfl rfl rfl nofun rfl (.Z2 (off := 0) (fo := 3) H 1 rfl rfl rfl rfl rfl nofun rfl (.ZA (off := 3) (v := (vl Granule.cs f.Form.Odd)) H 1 rfl rfl rfl rfl rfl nofun rfl ?_)))))
   refine .Z0K (c := Granule.cs) (xs := f.Form.Odd) rfl rfl rfl (.move (v := (vi 0)) rfl rfl (.nila H fun H => (.inBlock ?_)))
   obtain ⟨y9, hj9, h⟩ := bind_some h
   obtain ⟨n3, hj9⟩ := Zb.1 hj9
   refine .mono (Runs.ZN hj9 (fun s3 e σ => Z4 e [(1, (vi t)), (2, (vb up)), (8, (.ptr (b2 + 0) 2 0)), (9, (vi y1)), (45, (vl Granule.cs f.Form.Odd)), (46, (vi (f.Form.Odd.length : Int))), (47, (vi s3.1))] ∧ Hs σ [.blk (b2 + 0) 119 [(vi s3.2.1), (vb s3.2.2)]]) (fun y9 x e σ => x = .exit 2 ∧ Z4 e [(8, (.ptr (b2 + 0) 2 0)), (9, (vi y1))] ∧ Hs σ [.blk (b2 + 0) 119 [(vi y9.1), (vb y9.2)]]) ⟨⟨rfl, rfl, rfl, rfl, rfl, rfl, rfl, trivial⟩, (H.erase 1)⟩ ?_) ?_
   ·intro s3 e σ hI z h
    obtain ⟨he, H⟩ := hI
    obtain ⟨e, rfl⟩ := he.ex
    unfold Z9.s2 at h
    refine .then (.Z0 1 rfl H fun b18 σ H => (.int (m := s3.1) (m' := (f.Form.Odd.length : Int)) (r := .bool (decide (s3.1 < (f.Form.Odd.length : Int)))) rfl rfl rfl rfl rfl (.nila H fun H => (.then ?_))))
    refine .whether (v := (decide (s3.1 < (f.Form.Odd.length : Int)))) rfl ?_ ?_ <;> intro hc8
    ·replace h := Z8 hc8 h
     refine .skip (.then ?_)
     obtain ⟨y10, hj10, h⟩ := bind_some h
     refine .mono (Q := fun x e σ => x = .normal ∧ Z4 e [(1, (vi t)), (2, (vb up)), (8, (.ptr (b2 + 0) 2 0)), (9, (vi y1)), (45, (vl Granule.cs f.Form.Odd)), (46, (vi (f.Form.Odd.length : Int))), (47, (vi s3.1))] ∧ Hs σ [.blk (b2 + 0) 119 [(vi y10.1), (vb y10.2)]]) ?_ ?_
     ·replace h := hj10
      refine .inBlock ?_
      obtain ⟨y11, hj11, h⟩ := bind_some h
      refine .mono (Q := fun x e σ => x = .normal ∧ Z4 e [(1, (vi t)), (2, (vb up)), (8, (.ptr (b2 + 0) 2 0)), (9, (vi y1)), (45, (vl Granule.cs f.Form.Odd)), (46, (vi (f.Form.Odd.length : Int))), (47, (vi s3.1))] ∧ Hs σ [.blk (b2 + 0) 119 [(vi y11.1), (vb y11.2)]]) ?_ ?_
      ·replace h := hj11
       refine .then (.Z0 4 rfl H fun b19 σ H => ?_)
       obtain ⟨x5, q5, h⟩ := bind_some h
       refine .Z03 (c := Granule.cs) (u := x5) rfl rfl q5 rfl rfl rfl rfl (.Z2g (cs := [(.int .i64 x5.Index), (.sl (x5.Ticks.map Span.cs))]) rfl rfl rfl rfl rfl rfl (.Zs (cs := [(vi 0), .nils]) H (by omega) (by omega) rfl rfl fun σ H => (.ZV (off := 0) (cells' := [(vi x5.Index), (vl Span.cs x5.Ticks)]) H 0 rfl rfl rfl rfl rfl rfl rfl rfl rfl nofun fun σ H => (.nila H fun H => (.then ?_)))))
       refine .Z0 9 rfl H fun b20 σ H => (.Z2 (off := 0) (fo := 1) H 0 rfl rfl rfl rfl rfl nofun rfl (.ZA (off := 1) (v := (vl Span.cs x5.Ticks)) H 0 rfl rfl rfl rfl rfl nofun rfl ?_))
       obtain ⟨x6, q6, h⟩ := bind_some h
       refine .call (ys := [(vl Span.cs x5.Ticks)]) (r := (.tup [(.agg [(vi x6.1.From), (vi x6.1.To)]), (vb x6.2)])) rfl (Z4h q6) rfl (.move (v := (.tup [(.agg [(vi x6.1.From), (vi x6.1.To)]), (vb x6.2)])) rfl rfl (.extract (v := (.agg [(vi x6.1.From), (vi x6.1.To)])) rfl rfl rfl (.extract (v := (vb x6.2)) rfl rfl rfl (.Zs (cs := [(vi 0), (vi 0)]) H (by omega) (by omega) rfl rfl fun σ H => (.ZV (off := 0) (cells' := [(vi x6.1.From), (vi x6.1.To)]) H 0 rfl rfl rfl rfl rfl rfl rfl rfl rfl nofun fun σ H => ?_)))))
       refine .assign (v := (vb x6.2)) rfl rfl (.nila H fun H => (.then (.Z0 20 rfl H fun b21 σ H => (.move (v := (vb x6.2)) rfl rfl (.move (v := (vb x6.2)) rfl rfl ?_)))))
       refine .mid 18 (K1 := fun e σ => Z4 e [(76, (vb (x6.2 && ((up && (decide (x6.1.To ≥ t))) || ((!up) && (decide (x6.1.From ≤ t))))))), (1, (vi t)), (2, (vb up)), (8, (.ptr (b2 + 0) 2 0)), (9, (vi y1)), (12, (.ptr (b19 + 2) 2 0)), (45, (vl Granule.cs f.Form.Odd)), (46, (vi (f.Form.Odd.length : Int))), (47, (vi s3.1))] ∧ Has σ (b21 + 20) (b21 + 20) [.blk (b19 + 2) 76 [(vi x5.Index), (vl Span.cs x5.Ticks)], .blk (b2 + 0) 119 [(vi s3.2.1), (vb s3.2.2)]]) rfl ?_ ?_
       ·refine .split rfl rfl ?_ ?_ <;> intro hc9
        ·skip
         refine .wanted rfl rfl (.move (v := (vb up)) rfl rfl (.wanted rfl rfl (.move (v := (vb up)) rfl rfl ?_)))
         refine .mid 5 (K1 := fun e σ => Z4 e [(65, (vb (up && (decide (x6.1.To ≥ t))))), (1, (vi t)), (2, (vb up)), (8, (.ptr (b2 + 0) 2 0)), (9, (vi y1)), (12, (.ptr (b19 + 2) 2 0)), (13, (.ptr (b20 + 6) 2 0)), (45, (vl Granule.cs f.Form.Odd)), (46, (vi (f.Form.Odd.length : Int))), (47, (vi s3.1)), (58, (vb true))] ∧ Has σ (b21 + 9) (b21 + 20) [.blk (b20 + 6) 43 [(vi x6.1.From), (vi x6.1.To)], .blk (b19 + 2) 76 [(vi x5.Index), (vl Span.cs x5.Ticks)], .blk (b2 + 0) 119 [(vi s3.2.1), (vb s3.2.2)]]) rfl ?_ ?_
         ·refine .split rfl rfl ?_ ?_ <;> intro hc10
          ·skip
           refine .wanted rfl rfl (.Z2 (off := 0) (fo := 1) H 0 rfl rfl rfl rfl rfl nofun rfl (.wanted rfl rfl (.ZA (off := 1) (v := (vi x6.1.To)) H 0 rfl rfl rfl rfl rfl nofun rfl (.wanted rfl rfl (.move (v := (vi t)) rfl rfl ?_)))))
           refine .wanted rfl rfl (.int (m := x6.1.To) (m' := t) (r := .bool (decide (x6.1.To ≥ t))) rfl rfl rfl rfl rfl (.wanted rfl rfl (.Zd (v := (vb (decide (x6.1.To ≥ t)))) rfl rfl rfl (.nil ?_))))
           exact ⟨⟨Z2E hc10, rfl, rfl, rfl, rfl, rfl, rfl, rfl, rfl, rfl, rfl, trivial⟩, H.weak (by omega) (Nat.le_refl _)⟩
          ·skip
           refine .pass rfl rfl rfl (.pass rfl rfl rfl (.pass rfl rfl rfl (.pass rfl rfl rfl (.wanted rfl rfl (.Zf (v := (vb false)) rfl rfl rfl ?_)))))
           refine .nil ?_
           exact ⟨⟨Z2H hc10, rfl, rfl, rfl, rfl, rfl, rfl, rfl, rfl, rfl, rfl, trivial⟩, H.weak (by omega) (Nat.le_refl _)⟩
         ·rintro e σ ⟨he, H⟩
          obtain ⟨e, rfl⟩ := he.ex
          refine .wanted rfl rfl (.move (v := (vb (up && (decide (x6.1.To ≥ t))))) rfl rfl ?_)
          refine .mid 9 (K1 := fun e σ => Z4 e [(75, (vb ((up && (decide (x6.1.To ≥ t))) || ((!up) && (decide (x6.1.From ≤ t)))))), (1, (vi t)), (2, (vb up)), (8, (.ptr (b2 + 0) 2 0)), (9, (vi y1)), (12, (.ptr (b19 + 2) 2 0)), (45, (vl Granule.cs f.Form.Odd)), (46, (vi (f.Form.Odd.length : Int))), (47, (vi s3.1)), (58, (vb true))] ∧ Has σ (b21 + 19) (b21 + 20) [.blk (b19 + 2) 76 [(vi x5.Index), (vl Span.cs x5.Ticks)], .blk (b2 + 0) 119 [(vi s3.2.1), (vb s3.2.2)]]) rfl ?_ ?_
          ·refine .split rfl rfl ?_ ?_ <;> intro hc11
           ·skip
            refine .pass rfl rfl rfl (.pass rfl rfl rfl (.pass rfl rfl rfl (.Z0R rfl rfl rfl (.Z0R rfl rfl rfl (.Z0R rfl rfl rfl ?_)))))
            refine .Z0R rfl rfl rfl (.pass rfl rfl rfl (.wanted rfl rfl (.Zd (v := (vb true)) rfl rfl rfl (.nil ?_))))
            exact ⟨⟨or_T hc11, rfl, rfl, rfl, rfl, rfl, rfl, rfl, rfl, rfl, trivial⟩, (H.erase 0).weak (by omega) (Nat.le_refl _)⟩
           ·skip
            refine .wanted rfl rfl (.move (v := (vb up)) rfl rfl (.wanted rfl rfl (.not (b := up) rfl rfl (.wanted rfl rfl (.move (v := (vb (!up))) rfl rfl ?_)))))
            refine .mid 5 (K1 := fun e σ => Z4 e [(74, (vb ((!up) && (decide (x6.1.From ≤ t))))), (1, (vi t)), (2, (vb up)), (8, (.ptr (b2 + 0) 2 0)), (9, (vi y1)), (12, (.ptr (b19 + 2) 2 0)), (45, (vl Granule.cs f.Form.Odd)), (46, (vi (f.Form.Odd.length : Int))), (47, (vi s3.1)), (58, (vb true)), (66, (vb false))] ∧ Has σ (b21 + 18) (b21 + 20) [.blk (b19 + 2) 76 [(vi x5.Index), (vl Span.cs x5.Ticks)], .blk (b2 + 0) 119 [(vi s3.2.1), (vb s3.2.2)]]) rfl ?_ ?_
            ·refine .split rfl rfl ?_ ?_ <;> intro hc12
             ·skip
              refine .wanted rfl rfl (.Z2 (off := 0) (fo := 0) H 0 rfl rfl rfl rfl rfl nofun rfl (.wanted rfl rfl (.ZA (off := 0) (v := (vi x6.1.From)) H 0 rfl rfl rfl rfl rfl nofun rfl (.wanted rfl rfl (.move (v := (vi t)) rfl rfl ?_)))))
              refine .wanted rfl rfl (.int (m := x6.1.From) (m' := t) (r := .bool (decide (x6.1.From ≤ t))) rfl rfl rfl rfl rfl (.wanted rfl rfl (.Zd (v := (vb (decide (x6.1.From ≤ t)))) rfl rfl rfl (.nil ?_))))
              exact ⟨⟨Z2E hc12, rfl, rfl, rfl, rfl, rfl, rfl, rfl, rfl, rfl, rfl, trivial⟩, (H.erase 0).weak (by omega) (Nat.le_refl _)⟩
             ·skip
              refine .pass rfl rfl rfl (.pass rfl rfl rfl (.pass rfl rfl rfl (.pass rfl rfl rfl (.wanted rfl rfl (.Zf (v := (vb false)) rfl rfl rfl ?_)))))
              refine .nil ?_
              exact ⟨⟨Z2H hc12, rfl, rfl, rfl, rfl, rfl, rfl, rfl, rfl, rfl, rfl, trivial⟩, (H.erase 0).weak (by omega) (Nat.le_refl _)⟩
            ·rintro e σ ⟨he, H⟩
             obtain ⟨e, rfl⟩ := he.ex
             refine .wanted rfl rfl (.Zf (v := (vb ((!up) && (decide (x6.1.From ≤ t))))) rfl rfl rfl (.nil ?_))
             exact ⟨⟨or_F hc11, rfl, rfl, rfl, rfl, rfl, rfl, rfl, rfl, rfl, trivial⟩, H.weak (by omega) (Nat.le_refl _)⟩
          ·rintro e σ ⟨he, H⟩
           obtain ⟨e, rfl⟩ := he.ex
           refine .Zd (v := (vb ((up && (decide (x6.1.To ≥ t))) || ((!up) && (decide (x6.1.From ≤ t)))))) rfl rfl rfl (.nil ?_)
           exact ⟨⟨Z2E hc9, rfl, rfl, rfl, rfl, rfl, rfl, rfl, rfl, trivial⟩, H.weak (by omega) (Nat.le_refl _)⟩
        ·skip
         refine .pass rfl rfl rfl (.pass rfl rfl rfl (.Z0R rfl rfl rfl (.Z0R rfl rfl rfl (.Z0R rfl rfl rfl (.Z0R rfl rfl rfl ?_)))))
         refine .pass rfl rfl rfl (.pass rfl rfl rfl (.Z0R rfl rfl rfl (.Z0R rfl rfl rfl (.Z0R rfl rfl rfl (.Z0R rfl rfl rfl ?_)))))
         refine .Z0R rfl rfl rfl (.Z0R rfl rfl rfl (.Z0R rfl rfl rfl (.Z0R rfl rfl rfl (.pass rfl rfl rfl (.Zf (v := (vb false)) rfl rfl rfl ?_)))))
         refine .nil ?_
         exact ⟨⟨Z2H hc9, rfl, rfl, rfl, rfl, rfl, rfl, rfl, rfl, trivial⟩, (H.erase 0).weak (by omega) (Nat.le_refl _)⟩
       ·rintro e σ ⟨he, H⟩
        obtain ⟨e, rfl⟩ := he.ex
        refine .nila H fun H => ?_
        refine .whether (v := (x6.2 && ((up && (decide (x6.1.To ≥ t))) || ((!up) && (decide (x6.1.From ≤ t)))))) rfl ?_ ?_ <;> intro hc13
        ·replace h := Z8 hc13 h
         refine .Z0 7 rfl H fun b22 σ H => (.move (v := (vi y1)) rfl rfl (.neg (m := y1) rfl rfl (.Z2 (off := 0) (fo := 0) H 0 rfl rfl rfl rfl rfl nofun rfl (.ZA (off := 0) (v := (vi x5.Index)) H 0 rfl rfl rfl rfl rfl nofun rfl (.int (m := (w64 (0 - y1))) (m' := x5.Index) (r := .int .i64 (w64 ((w64 (0 - y1)) * x5.Index))) rfl rfl rfl rfl rfl ?_)))))
         refine .Z2i (sz := 1) ([(w64 ((w64 (0 - y1)) * x5.Index))].map (cI .i64)) H (by omega) (by omega) rfl rfl rfl rfl rfl rfl rfl rfl rfl fun σ H => ?_
         obtain ⟨y12, hj12, h⟩ := bind_some h
         refine .callI (PostA := fun r A => r = (.tup []) ∧ A = [.sl (.buf (b22 + 5) 1 1) 3 1 (y12.1.map (cI .i64)) true, .blk (b19 + 2) 76 [(vi x5.Index), (vl Span.cs x5.Ticks)], .blk (b2 + 0) 119 [(vi y12.2.1), (vb y12.2.2)]]) (cv := (.v (.fn 86))) (ys := [(.ptr (b2 + 0) 2 0), (.buf (b22 + 5) 1 1)]) (L := []) [.sl (.buf (b22 + 5) 1 1) 3 1 ([(w64 ((w64 (0 - y1)) * x5.Index))].map (cI .i64)) true, .blk (b19 + 2) 76 [(vi x5.Index), (vl Span.cs x5.Ticks)], .blk (b2 + 0) 119 [(vi s3.2.1), (vb s3.2.2)]] H rfl rfl (fun T2 hT H => Z5q Try.func86 rfl (fun _ => rfl) rfl rfl rfl rfl ?_) nofun rfl ?_
         ·replace h := hj12
          refine .then (.Z0 3 rfl H fun b23 σ H => (.move (v := (.buf (b22 + 5) 1 1)) rfl rfl (.lenSt (c := (cI .i64)) (xs := [(w64 ((w64 (0 - y1)) * x5.Index))]) H 0 rfl rfl rfl nofun rfl (.move (v := (vi 0)) rfl rfl (.nila H fun H => ?_)))))
          refine .inBlock ?_
          obtain ⟨y13, hj13, h⟩ := bind_some h
          obtain ⟨n4, hj13⟩ := Zb.1 hj13
          refine .mono (Runs.ZN hj13 (fun s4 e σ => Z4 e [(0, (.ptr (b2 + 0) 2 0)), (6, (.buf (b22 + 5) 1 1)), (7, (vi s4.1)), (8, (vi s4.2.1))] ∧ Hs σ (.sl (.buf (b22 + 5) 1 1) 3 1 (s4.2.2.1.map (cI .i64)) true :: .blk (b19 + 2) 76 [(vi x5.Index), (vl Span.cs x5.Ticks)] :: .blk (b2 + 0) 119 [(vi s4.2.2.2.1), (vb s4.2.2.2.2)] :: T2)) (fun y13 x e σ => x = .exit 0 ∧ Z4 e [] ∧ Hs σ (.sl (.buf (b22 + 5) 1 1) 3 1 (y13.1.map (cI .i64)) true :: .blk (b19 + 2) 76 [(vi x5.Index), (vl Span.cs x5.Ticks)] :: .blk (b2 + 0) 119 [(vi y13.2.1), (vb y13.2.2)] :: T2)) ⟨⟨rfl, rfl, rfl, rfl, trivial⟩, H⟩ ?_) ?_
          ·intro s4 e σ hI z h
           obtain ⟨he, H⟩ := hI
           obtain ⟨e, rfl⟩ := he.ex
           unfold Z9.s3 at h
           refine .then (.Z0 1 rfl H fun b24 σ H => (.int (m := s4.2.1) (m' := s4.1) (r := .bool (decide (s4.2.1 < s4.1))) rfl rfl rfl rfl rfl (.nila H fun H => (.then ?_))))
           refine .whether (v := (decide (s4.2.1 < s4.1))) rfl ?_ ?_ <;> intro hc14
           ·replace h := Z8 hc14 h
            refine .skip (.then ?_)
            obtain ⟨y14, hj14, h⟩ := bind_some h
            refine .mono (Q := fun x e σ => x = .normal ∧ Z4 e [(0, (.ptr (b2 + 0) 2 0)), (6, (.buf (b22 + 5) 1 1)), (7, (vi s4.1)), (8, (vi s4.2.1))] ∧ Hs σ (.sl (.buf (b22 + 5) 1 1) 3 1 (s4.2.2.1.map (cI .i64)) true :: .blk (b19 + 2) 76 [(vi x5.Index), (vl Span.cs x5.Ticks)] :: .blk (b2 + 0) 119 [(vi y14.1), (vb y14.2)] :: T2)) ?_ ?_
            ·replace h := hj14
             refine .inBlock ?_
             obtain ⟨y15, hj15, h⟩ := bind_some h
             refine .mono (Q := fun x e σ => x = .normal ∧ Z4 e [(0, (.ptr (b2 + 0) 2 0)), (6, (.buf (b22 + 5) 1 1)), (7, (vi s4.1)), (8, (vi s4.2.1))] ∧ Hs σ (.sl (.buf (b22 + 5) 1 1) 3 1 (s4.2.2.1.map (cI .i64)) true :: .blk (b19 + 2) 76 [(vi x5.Index), (vl Span.cs x5.Ticks)] :: .blk (b2 + 0) 119 [(vi y15.1), (vb y15.2)] :: T2)) ?_ ?_
             ·replace h := hj15
              refine .then (.Z0 3 rfl H fun b25 σ H => ?_)
              obtain ⟨x7, q7, h⟩ := bind_some h
              refine .Z76 H 0 rfl rfl rfl (at?_map q7) rfl rfl nofun rfl ?_; intro id2 hv2
              refine .loadS (id := id2) (j := 0) (w := (.int .i64 x7)) H 0 rfl hv2 (by simp) (at?_map q7) rfl (by simp) rfl rfl rfl nofun rfl ?_
              refine .assign (v := (vi x7)) rfl rfl (.nila H fun H => (.then (.Z0 13 rfl H fun b26 σ H => (.move (v := (.ptr (b2 + 0) 2 0)) rfl rfl (.Z0P (off := 0) H 2 rfl rfl rfl nofun rfl ?_)))))
              refine .Z2 (off := 0) (fo := 1) H 2 rfl rfl rfl rfl rfl nofun rfl (.ZA (off := 1) (v := (vb s4.2.2.2.2)) H 2 rfl rfl rfl rfl rfl nofun rfl (.not (b := s4.2.2.2.2) rfl rfl (.move (v := (vb (!s4.2.2.2.2))) rfl rfl ?_)))
              refine .mid 7 (K1 := fun e σ => Z4 e [(24, (vb ((!s4.2.2.2.2) || (decide (x7 > s4.2.2.2.1))))), (0, (.ptr (b2 + 0) 2 0)), (5, (vi x7)), (6, (.buf (b22 + 5) 1 1)), (7, (vi s4.1)), (8, (vi s4.2.1))] ∧ Has σ (b26 + 13) (b26 + 13) (.sl (.buf (b22 + 5) 1 1) 3 1 (s4.2.2.1.map (cI .i64)) true :: .blk (b19 + 2) 76 [(vi x5.Index), (vl Span.cs x5.Ticks)] :: .blk (b2 + 0) 119 [(vi s4.2.2.2.1), (vb s4.2.2.2.2)] :: T2)) rfl ?_ ?_
              ·refine .split rfl rfl ?_ ?_ <;> intro hc15
               ·skip
                refine .pass rfl rfl rfl (.pass rfl rfl rfl (.pass rfl rfl rfl (.pass rfl rfl rfl (.pass rfl rfl rfl (.pass rfl rfl rfl ?_)))))
                refine .Zd (v := (vb true)) rfl rfl rfl (.nil ?_)
                exact ⟨⟨or_T hc15, rfl, rfl, rfl, rfl, rfl, trivial⟩, H.weak (by omega) (Nat.le_refl _)⟩
               ·skip
                refine .wanted rfl rfl (.move (v := (vi x7)) rfl rfl (.wanted rfl rfl (.move (v := (.ptr (b2 + 0) 2 0)) rfl rfl (.wanted rfl rfl (.Z0P (off := 0) H 2 rfl rfl rfl nofun rfl ?_)))))
                refine .wanted rfl rfl (.Z2 (off := 0) (fo := 0) H 2 rfl rfl rfl rfl rfl nofun rfl (.wanted rfl rfl (.ZA (off := 0) (v := (vi s4.2.2.2.1)) H 2 rfl rfl rfl rfl rfl nofun rfl (.wanted rfl rfl (.int (m := x7) (m' := s4.2.2.2.1) (r := .bool (decide (x7 > s4.2.2.2.1))) rfl rfl rfl rfl rfl ?_)))))
                refine .Zf (v := (vb (decide (x7 > s4.2.2.2.1)))) rfl rfl rfl (.nil ?_)
                exact ⟨⟨or_F hc15, rfl, rfl, rfl, rfl, rfl, trivial⟩, H.weak (by omega) (Nat.le_refl _)⟩
              ·rintro e σ ⟨he, H⟩
               obtain ⟨e, rfl⟩ := he.ex
               refine .nila H fun H => ?_
               refine .whether (v := ((!s4.2.2.2.2) || (decide (x7 > s4.2.2.2.1)))) rfl ?_ ?_ <;> intro hc16
               ·replace h := Z8 hc16 h
                refine .Z0 9 rfl H fun b27 σ H => (.move (v := (.ptr (b2 + 0) 2 0)) rfl rfl (.move (v := (.ptr (b2 + 0) 2 0)) rfl rfl (.move (v := (vi x7)) rfl rfl (.Z0P (off := 0) H 2 rfl rfl rfl nofun rfl (.Z2 (off := 0) (fo := 0) H 2 rfl rfl rfl rfl rfl nofun rfl ?_)))))
                refine .ZV (off := 0) (cells' := [(vi x7), (vb s4.2.2.2.2)]) H 2 rfl rfl rfl rfl rfl rfl rfl rfl rfl nofun fun σ H => (.Z0P (off := 0) H 2 rfl rfl rfl nofun rfl (.Z2 (off := 0) (fo := 1) H 2 rfl rfl rfl rfl rfl nofun rfl (.ZV (off := 1) (cells' := [(vi x7), (vb true)]) H 2 rfl rfl rfl rfl rfl rfl rfl rfl rfl nofun fun σ H => (.nila H fun H => ?_))))
                replace h := sj h; subst h
                exact ⟨rfl, ⟨rfl, rfl, rfl, rfl, trivial⟩, H⟩
               ·replace h := Z7 hc16 h
                refine .skip ?_
                replace h := sj h; subst h
                exact ⟨rfl, ⟨rfl, rfl, rfl, rfl, trivial⟩, H⟩
             ·rintro x e σ ⟨rfl, he, H⟩
              obtain ⟨e, rfl⟩ := he.ex
              replace h := sj h; subst h
              exact ⟨rfl, ⟨rfl, rfl, rfl, rfl, trivial⟩, H⟩
            ·rintro x e σ ⟨rfl, he, H⟩
             obtain ⟨e, rfl⟩ := he.ex
             refine .Z0 2 rfl H fun b28 σ H => (.int (m := s4.2.1) (m' := 1) (r := .int .i64 (w64 (s4.2.1 + 1))) rfl rfl rfl rfl rfl (.move (v := (vi (w64 (s4.2.1 + 1)))) rfl rfl (.nila H fun H => ?_)))
             replace h := sj h; subst h
             exact ⟨rfl, ⟨rfl, rfl, rfl, rfl, trivial⟩, H⟩
           ·replace h := Z7 hc14 h
            refine .exit ?_
            replace h := sj h; subst h
            exact ⟨nofun, ⟨rfl, trivial, H⟩⟩
          ·rintro x e σ ⟨rfl, he, H⟩
           obtain ⟨e, rfl⟩ := he.ex
           replace h := sj h; subst h
           exact ⟨.inl rfl, _, Z4T H .nil, _, ⟨rfl, rfl⟩, H⟩
         ·rintro _ _ σ ⟨rfl, rfl⟩ H
          refine .nila H fun H => ?_
          replace h := sj h; subst h
          exact ⟨rfl, ⟨rfl, rfl, rfl, rfl, rfl, rfl, rfl, trivial⟩, ((H.erase 1).erase 0)⟩
        ·replace h := Z7 hc13 h
         refine .skip ?_
         replace h := sj h; subst h
         exact ⟨rfl, ⟨rfl, rfl, rfl, rfl, rfl, rfl, rfl, trivial⟩, (H.erase 0)⟩
      ·rintro x e σ ⟨rfl, he, H⟩
       obtain ⟨e, rfl⟩ := he.ex
       replace h := sj h; subst h
       exact ⟨rfl, ⟨rfl, rfl, rfl, rfl, rfl, rfl, rfl, trivial⟩, H⟩
     ·rintro x e σ ⟨rfl, he, H⟩
      obtain ⟨e, rfl⟩ := he.ex
      refine .Z0 2 rfl H fun b29 σ H => (.int (m := s3.1) (m' := 1) (r := .int .i64 (w64 (s3.1 + 1))) rfl rfl rfl rfl rfl (.move (v := (vi (w64 (s3.1 + 1)))) rfl rfl (.nila H fun H => ?_)))
      replace h := sj h; subst h
      exact ⟨rfl, ⟨rfl, rfl, rfl, rfl, rfl, rfl, rfl, trivial⟩, H⟩
    ·replace h := Z7 hc8 h
     refine .exit ?_
     replace h := sj h; subst h
     exact ⟨nofun, ⟨rfl, ⟨rfl, rfl, trivial⟩, H⟩⟩
   ·rintro x e σ ⟨rfl, he, H⟩
    obtain ⟨e, rfl⟩ := he.ex
    refine .then (.Z0u 9 rfl (by kernel_rfl) H fun b30 σ H B30 => (.move (v := (vi y1)) rfl rfl (.neg (m := y1) rfl rfl (.Z2 (off := 0) (fo := 0) H 0 rfl rfl rfl rfl rfl (fun _ => .inl ⟨B30 0 _ rfl _ rfl, nofun, (fun _ => by kernel_rfl)⟩) rfl (.ZA (off := 0) (v := (vi y9.1)) H 0 rfl rfl rfl rfl rfl (fun _ => .inl ⟨B30 0 _ rfl _ rfl, nofun, (fun _ => by kernel_rfl)⟩) rfl ?_)))))
    refine .int (m := (w64 (0 - y1))) (m' := y9.1) (r := .int .i64 (w64 ((w64 (0 - y1)) * y9.1))) rfl rfl rfl rfl rfl (.Z2 (off := 0) (fo := 1) H 0 rfl rfl rfl rfl rfl (fun _ => .inl ⟨B30 0 _ rfl _ rfl, nofun, (fun _ => by kernel_rfl)⟩) rfl (.ZA (off := 1) (v := (vb y9.2)) H 0 rfl rfl rfl rfl rfl (fun _ => .inl ⟨B30 0 _ rfl _ rfl, nofun, (fun _ => by kernel_rfl)⟩) rfl (.assign (v := (vi (w64 ((w64 (0 - y1)) * y9.1)))) rfl rfl (.assign (v := (vb y9.2)) rfl rfl (.nila H fun H => ?_)))))
    refine .ret ?_
    replace h := sj h; subst h
    exact (Ends.H (xs := [(vi (w64 ((w64 (0 - y1)) * y9.1))), (vb y9.2)]) (.inr rfl) H (.tmp (v := (vi (w64 ((w64 (0 - y1)) * y9.1)))) rfl (.tmp (v := (vb y9.2)) rfl .nil)) (.two (.cons (.c (.v _)) (.cons (.c (.v _)) .nil))))

end Go.Dn

namespace Go.Dn
open Go Go.Proofs
set_option maxRecDepth 100000
set_option maxHeartbeats 4000000

theorem Z8k {g : Form} {d : Int} {up : Bool} {r : Int × Bool × Int} (h : ZT g d up = some r) : Fn CX 62 [(.agg (vs (Form.cs g))), (vi d), (vb up)] (.tup [(vi r.1), (vb r.2.1), (vi r.2.2)]) := by
 refine Fn.ends Try.func62 rfl rfl rfl rfl rfl rfl ?_
 have H : Hs (⟨0, fun _ => .none⟩ : Heap) [] := Has.nil (Nat.le_refl _)
 generalize (⟨0, fun _ => .none⟩ : Heap) = σ at H ⊢
 unfold ZT at h
 refine .then (.Z0 4 rfl H fun b1 σ H => (.boxH (cs := (vF g)) H (by omega) (by omega) rfl rfl rfl fun σ H => (.assign (v := (vi 0)) rfl rfl (.assign (v := (vb false)) rfl rfl (.assign (v := (vi 0)) rfl rfl ?_)))))
 refine .nila H fun H => (.then (.then (.Z0 3 rfl H fun b2 σ H => (.move (v := (vi d)) rfl rfl (.call (ys := [(vi d)]) (r := (vb (Z19 d))) rfl (Z96 rfl) rfl ?_)))))
 refine .not (b := (Z19 d)) rfl rfl (.nila H fun H => ?_)
 refine .whether (v := (!(Z19 d))) rfl ?_ ?_ <;> intro hc1
 ·replace h := Z8 hc1 h
  refine .then (.Z0 3 rfl H fun b3 σ H => (.assign (v := (vi 0)) rfl rfl (.assign (v := (vb false)) rfl rfl (.assign (v := (vi 2)) rfl rfl (.nila H fun H => ?_)))))
  refine .ret ?_
  replace h := sj h; subst h
  exact (Ends.H (xs := [(vi 0), (vb false), (vi 2)]) (.inr rfl) H (.tmp (v := (vi 0)) rfl (.tmp (v := (vb false)) rfl (.tmp (v := (vi 2)) rfl .nil))) (.two (.cons (.c (.v _)) (.cons (.c (.v _)) (.cons (.c (.v _)) .nil)))))
 ·replace h := Z7 hc1 h
  refine .skip (.then (.Z0 4 rfl H fun b4 σ H => (.ZR (off := 0) (cs := (vF g)) H 0 rfl rfl rfl rfl rfl rfl rfl nofun rfl ?_)))
  obtain ⟨x1, q1, h⟩ := bind_some h
  refine .call (ys := [(.agg (vF g))]) (r := (.agg (vG x1))) rfl (size_made_fn q1) rfl (.Zs (cs := [(vi 0), (vi 0), .nils, .nils, .nils]) H (by omega) (by omega) rfl rfl fun σ H => (.ZV (off := 0) (cells' := (vG x1)) H 0 rfl rfl rfl rfl rfl rfl rfl rfl rfl nofun fun σ H => (.nila H fun H => (.then (.Z0 1 rfl H fun b5 σ H => ?_)))))
  refine .assign (v := (vi 1)) rfl rfl (.nila H fun H => (.then ?_))
  obtain ⟨y1, hj1, h⟩ := bind_some h
  refine .mono (Q := fun x e σ => x = .normal ∧ Z4 e [(1, (vi d)), (2, (vb up)), (9, (.ptr (b4 + 2) 5 0)), (10, (vi y1))] ∧ Hs σ [.blk (b4 + 2) 96 (vG x1)]) ?_ ?_
  ·replace h := hj1
   refine .then (.Z0 1 rfl H fun b6 σ H => (.move (v := (vb up)) rfl rfl (.nila H fun H => ?_)))
   refine .whether (v := up) rfl ?_ ?_ <;> intro hc2
   ·replace h := Z8 hc2 h
    refine .Z0 1 rfl H fun b7 σ H => (.assign (v := (vi (-1))) rfl rfl (.nila H fun H => ?_))
    replace h := sj h; subst h
    exact ⟨rfl, ⟨rfl, rfl, rfl, rfl, trivial⟩, (H.erase 1)⟩
   ·replace h := Z7 hc2 h
    refine .skip ?_
    replace h := sj h; subst h
    exact ⟨rfl, ⟨rfl, rfl, rfl, rfl, trivial⟩, (H.erase 1)⟩
  ·rintro x e σ ⟨rfl, he, H⟩
   obtain ⟨e, rfl⟩ := he.ex
   refine .then (.Z0 1 rfl H fun b8 σ H => (.Zs (cs := [(vi 0), (vb false)]) H (by omega) (by omega) rfl rfl fun σ H => (.nila H fun H => (.then (.then ?_)))))
   refine .Z0 4 rfl H fun b9 σ H => (.Z2 (off := 0) (fo := 4) H 1 rfl rfl rfl rfl rfl nofun rfl (.ZA (off := 4) (v := (vl size_spot.cs x1.spots)) H 1 rfl rfl rfl rfl rfl nofun rfl (.Z0K (c := size_spot.cs) (xs := x1.spots) rfl rfl rfl (.move (v := (vi 0)) rfl rfl (.nila H fun H => ?_)))))
   refine .inBlock ?_
   obtain ⟨y2, hj2, h⟩ := bind_some h
   obtain ⟨n1, hj2⟩ := Zb.1 hj2
   refine .mono (Runs.ZN hj2 (fun s1 e σ => Z4 e [(1, (vi d)), (2, (vb up)), (9, (.ptr (b4 + 2) 5 0)), (10, (vi y1)), (11, (.ptr (b8 + 0) 2 0)), (32, (vl size_spot.cs x1.spots)), (33, (vi (x1.spots.length : Int))), (34, (vi s1.1))] ∧ Hs σ [.blk (b8 + 0) 119 [(vi s1.2.1), (vb s1.2.2)], .blk (b4 + 2) 96 (vG x1)]) (fun y2 x e σ => x = .exit 0 ∧ Z4 e [(1, (vi d)), (2, (vb up)), (9, (.ptr (b4 + 2) 5 0)), (10, (vi y1)), (11, (.ptr (b8 + 0) 2 0))] ∧ Hs σ [.blk (b8 + 0) 119 [(vi y2.1), (vb y2.2)], .blk (b4 + 2) 96 (vG x1)]) ⟨⟨rfl, rfl, rfl, rfl, rfl, rfl, rfl, rfl, trivial⟩, H⟩ ?_) ?_
   ·intro s1 e σ hI z h
    obtain ⟨he, H⟩ := hI
    obtain ⟨e, rfl⟩ := he.ex
    unfold ZT.s0 at h
    refine .then (.Z0 1 rfl H fun b10 σ H => (.int (m := s1.1) (m' := (x1.spots.length : Int)) (r := .bool (decide (s1.1 < (x1.spots.length : Int)))) rfl rfl rfl rfl rfl (.nila H fun H => (.then ?_))))
    refine .whether (v := (decide (s1.1 < (x1.spots.length : Int)))) rfl ?_ ?_ <;> intro hc3
    ·replace h := Z8 hc3 h
     refine .skip (.then ?_)
     obtain ⟨y3, hj3, h⟩ := bind_some h
     refine .mono (Q := fun x e σ => x = .normal ∧ Z4 e [(1, (vi d)), (2, (vb up)), (9, (.ptr (b4 + 2) 5 0)), (10, (vi y1)), (11, (.ptr (b8 + 0) 2 0)), (32, (vl size_spot.cs x1.spots)), (33, (vi (x1.spots.length : Int))), (34, (vi s1.1))] ∧ Hs σ [.blk (b8 + 0) 119 [(vi y3.1), (vb y3.2)], .blk (b4 + 2) 96 (vG x1)]) ?_ ?_
     ·replace h := hj3
      refine .inBlock ?_
      obtain ⟨y4, hj4, h⟩ := bind_some h
      refine .mono (Q := fun x e σ => x = .normal ∧ Z4 e [(1, (vi d)), (2, (vb up)), (9, (.ptr (b4 + 2) 5 0)), (10, (vi y1)), (11, (.ptr (b8 + 0) 2 0)), (32, (vl size_spot.cs x1.spots)), (33, (vi (x1.spots.length : Int))), (34, (vi s1.1))] ∧ Hs σ [.blk (b8 + 0) 119 [(vi y4.1), (vb y4.2)], .blk (b4 + 2) 96 (vG x1)]) ?_ ?_
      ·replace h := hj4
       refine .then (.Z0 4 rfl H fun b11 σ H => ?_)
       obtain ⟨x2, q2, h⟩ := bind_some h
       refine .Z03 (c := size_spot.cs) (u := x2) rfl rfl q2 rfl rfl rfl rfl (.Z2g (cs := [(.int .i64 x2.index), (.int .i64 x2.place.first), (.int .i64 x2.place.last)]) rfl rfl rfl rfl rfl rfl (.Zs (cs := [(vi 0), (vi 0), (vi 0)]) H (by omega) (by omega) rfl rfl fun σ H => (.ZV (off := 0) (cells' := [(vi x2.index), (vi x2.place.first), (vi x2.place.last)]) H 0 rfl rfl rfl rfl rfl rfl rfl rfl rfl nofun fun σ H => (.nila H fun H => (.then ?_)))))
       refine .Z0 4 rfl H fun b12 σ H => (.Z2 (off := 0) (fo := 1) H 0 rfl rfl rfl rfl rfl nofun rfl (.Z2 (off := 1) (fo := 1) H 0 rfl rfl rfl rfl rfl nofun rfl (.ZA (off := 2) (v := (vi x2.place.last)) H 0 rfl rfl rfl rfl rfl nofun rfl (.assign (v := (vi x2.place.last)) rfl rfl (.nila H fun H => ?_)))))
       refine .then ?_
       obtain ⟨y5, hj5, h⟩ := bind_some h
       refine .mono (Q := fun x e σ => x = .normal ∧ Z4 e [(1, (vi d)), (2, (vb up)), (9, (.ptr (b4 + 2) 5 0)), (10, (vi y1)), (11, (.ptr (b8 + 0) 2 0)), (13, (.ptr (b11 + 2) 3 0)), (14, (vi y5)), (32, (vl size_spot.cs x1.spots)), (33, (vi (x1.spots.length : Int))), (34, (vi s1.1))] ∧ Hs σ [.blk (b11 + 2) 116 [(vi x2.index), (vi x2.place.first), (vi x2.place.last)], .blk (b8 + 0) 119 [(vi s1.2.1), (vb s1.2.2)], .blk (b4 + 2) 96 (vG x1)]) ?_ ?_
       ·replace h := hj5
        refine .then (.Z0 1 rfl H fun b13 σ H => (.move (v := (vb up)) rfl rfl (.nila H fun H => ?_)))
        refine .whether (v := up) rfl ?_ ?_ <;> intro hc4
        ·replace h := Z8 hc4 h
         refine .Z0 4 rfl H fun b14 σ H => (.Z2 (off := 0) (fo := 1) H 0 rfl rfl rfl rfl rfl nofun rfl (.Z2 (off := 1) (fo := 0) H 0 rfl rfl rfl rfl rfl nofun rfl (.ZA (off := 1) (v := (vi x2.place.first)) H 0 rfl rfl rfl rfl rfl nofun rfl (.assign (v := (vi x2.place.first)) rfl rfl (.nila H fun H => ?_)))))
         replace h := sj h; subst h
         exact ⟨rfl, ⟨rfl, rfl, rfl, rfl, rfl, rfl, rfl, rfl, rfl, rfl, trivial⟩, H⟩
        ·replace h := Z7 hc4 h
         refine .skip ?_
         replace h := sj h; subst h
         exact ⟨rfl, ⟨rfl, rfl, rfl, rfl, rfl, rfl, rfl, rfl, rfl, rfl, trivial⟩, H⟩
       ·rintro x e σ ⟨rfl, he, H⟩
        obtain ⟨e, rfl⟩ := he.ex
        refine .Z0u 13 rfl (by kernel_rfl) H fun b15 σ H B15 => (.move (v := (vi y1)) rfl rfl (.ZR (off := 0) (cs := (vG x1)) H 2 rfl rfl rfl rfl rfl rfl rfl (fun _ => .inl ⟨B15 2 _ rfl _ rfl, nofun, (fun _ => by kernel_rfl)⟩) rfl (.move (v := (vi y5)) rfl rfl (.move (v := (vi d)) rfl rfl (.int (m := y5) (m' := d) (r := .int .i64 (w64 (y5 + d))) rfl rfl rfl rfl rfl ?_)))))
        refine .move (v := (vb up)) rfl rfl ?_
        obtain ⟨x3, q3, h⟩ := bind_some h
        refine .call (ys := [(.agg (vG x1)), (vi (w64 (y5 + d))), (vb up)]) (r := (vi x3)) rfl (Z4d q3) rfl (.Z2 (off := 0) (fo := 0) H 0 rfl rfl rfl rfl rfl (fun _ => .inl ⟨B15 0 _ rfl _ rfl, nofun, (fun _ => by kernel_rfl)⟩) rfl (.ZA (off := 0) (v := (vi x2.index)) H 0 rfl rfl rfl rfl rfl (fun _ => .inl ⟨B15 0 _ rfl _ rfl, nofun, (fun _ => by kernel_rfl)⟩) rfl (.int (m := x3) (m' := x2.index) (r := .int .i64 (w64 (x3 - x2.index))) rfl rfl rfl rfl rfl (.int (m := y1) (m' := (w64 (x3 - x2.index))) (r := .int .i64 (w64 (y1 * (w64 (x3 - x2.index))))) rfl rfl rfl rfl rfl (.Z2i (sz := 1) ([(w64 (y1 * (w64 (x3 - x2.index))))].map (cI .i64)) H (by omega) (by omega) rfl rfl rfl rfl rfl rfl rfl rfl rfl fun σ H => ?_)))))
        obtain ⟨y6, hj6, h⟩ := bind_some h
        refine .callI (PostA := fun r A => r = (.tup []) ∧ A = [.sl (.buf (b15 + 11) 1 1) 3 1 (y6.1.map (cI .i64)) true, .blk (b11 + 2) 116 [(vi x2.index), (vi x2.place.first), (vi x2.place.last)], .blk (b8 + 0) 119 [(vi y6.2.1), (vb y6.2.2)], .blk (b4 + 2) 96 (vG x1)]) (cv := (.v (.fn 86))) (ys := [(.ptr (b8 + 0) 2 0), (.buf (b15 + 11) 1 1)]) (L := []) [.sl (.buf (b15 + 11) 1 1) 3 1 ([(w64 (y1 * (w64 (x3 - x2.index))))].map (cI .i64)) true, .blk (b11 + 2) 116 [(vi x2.index), (vi x2.place.first), (vi x2.place.last)], .blk (b8 + 0) 119 [(vi s1.2.1), (vb s1.2.2)], .blk (b4 + 2) 96 (vG x1)] H rfl rfl (fun T1 hT H => Z5q Try.func86 rfl (fun _ => rfl) rfl rfl rfl rfl ?_) (fun _ => by kernel_rfl) rfl ?_
        ·replace h := hj6
         refine .then (.Z0 3 rfl H fun b16 σ H => (.move (v := (.buf (b15 + 11) 1 1)) rfl rfl (.lenSt (c := (cI .i64)) (xs := [(w64 (y1 * (w64 (x3 - x2.index))))]) H 0 rfl rfl rfl nofun rfl (.move (v := (vi 0)) rfl rfl (.nila H fun H => ?_)))))
         refine .inBlock ?_
         obtain ⟨y7, hj7, h⟩ := bind_some h
         obtain ⟨n2, hj7⟩ := Zb.1 hj7
         refine .mono (Runs.ZN hj7 (fun s2 e σ => Z4 e [(0, (.ptr (b8 + 0) 2 0)), (6, (.buf (b15 + 11) 1 1)), (7, (vi s2.1)), (8, (vi s2.2.1))] ∧ Hs σ (.sl (.buf (b15 + 11) 1 1) 3 1 (s2.2.2.1.map (cI .i64)) true :: .blk (b11 + 2) 116 [(vi x2.index), (vi x2.place.first), (vi x2.place.last)] :: .blk (b8 + 0) 119 [(vi s2.2.2.2.1), (vb s2.2.2.2.2)] :: .blk (b4 + 2) 96 (vG x1) :: T1)) (fun y7 x e σ => x = .exit 0 ∧ Z4 e [] ∧ Hs σ (.sl (.buf (b15 + 11) 1 1) 3 1 (y7.1.map (cI .i64)) true :: .blk (b11 + 2) 116 [(vi x2.index), (vi x2.place.first), (vi x2.place.last)] :: .blk (b8 + 0) 119 [(vi y7.2.1), (vb y7.2.2)] :: .blk (b4 + 2) 96 (vG x1) :: T1)) ⟨⟨rfl, rfl, rfl, rfl, trivial⟩, H⟩ ?_) ?_
         ·intro s2 e σ hI z h
          obtain ⟨he, H⟩ := hI
          obtain ⟨e, rfl⟩ := he.ex
          unfold ZT.s1 at h
          refine .then (.Z0 1 rfl H fun b17 σ H => (.int (m := s2.2.1) (m' := s2.1) (r := .bool (decide (s2.2.1 < s2.1))) rfl rfl rfl rfl rfl (.nila H fun H => (.then ?_))))
          refine .whether (v := (decide (s2.2.1 < s2.1))) rfl ?_ ?_ <;> intro hc5
          ·replace h := Z8 hc5 h
           refine .skip (.then ?_)
           obtain ⟨y8, hj8, h⟩ := bind_some h
           refine .mono (Q := fun x e σ => x = .normal ∧ Z4 e [(0, (.ptr (b8 + 0) 2 0)), (6, (.buf (b15 + 11) 1 1)), (7, (vi s2.1)), (8, (vi s2.2.1))] ∧ Hs σ (.sl (.buf (b15 + 11) 1 1) 3 1 (s2.2.2.1.map (cI .i64)) true :: .blk (b11 + 2) 116 [(vi x2.index), (vi x2.place.first), (vi x2.place.last)] :: .blk (b8 + 0) 119 [(vi y8.1), (vb y8.2)] :: .blk (b4 + 2) 96 (vG x1) :: T1)) ?_ ?_
           ·replace h := hj8
            refine .inBlock ?_
            obtain ⟨y9, hj9, h⟩ := bind_some h
            refine .mono (Q := fun x e σ => x = .normal ∧ Z4 e [(0, (.ptr (b8 + 0) 2 0)), (6, (.buf (b15 + 11) 1 1)), (7, (vi s2.1)), (8, (vi s2.2.1))] ∧ Hs σ (.sl (.buf (b15 + 11) 1 1) 3 1 (s2.2.2.1.map (cI .i64)) true :: .blk (b11 + 2) 116 [(vi x2.index), (vi x2.place.first), (vi x2.place.last)] :: .blk (b8 + 0) 119 [(vi y9.1), (vb y9.2)] :: .blk (b4 + 2) 96 (vG x1) :: T1)) ?_ ?_
            ·replace h := hj9
             refine .then (.Z0 3 rfl H fun b18 σ H => ?_)
             obtain ⟨x4, q4, h⟩ := bind_some h
             refine .Z76 H 0 rfl rfl rfl (at?_map q4) rfl rfl nofun rfl ?_; intro id1 hv1
             refine .loadS (id := id1) (j := 0) (w := (.int .i64 x4)) H 0 rfl hv1 (by simp) (at?_map q4) rfl (by simp) rfl rfl rfl nofun rfl ?_
             refine .assign (v := (vi x4)) rfl rfl (.nila H fun H => (.then (.Z0 13 rfl H fun b19 σ H => (.move (v := (.ptr (b8 + 0) 2 0)) rfl rfl (.Z0P (off := 0) H 2 rfl rfl rfl nofun rfl ?_)))))
             refine .Z2 (off := 0) (fo := 1) H 2 rfl rfl rfl rfl rfl nofun rfl (.ZA (off := 1) (v := (vb s2.2.2.2.2)) H 2 rfl rfl rfl rfl rfl nofun rfl (.not (b := s2.2.2.2.2) rfl rfl (.move (v := (vb (!s2.2.2.2.2))) rfl rfl ?_)))
             refine .mid 7 (K1 := fun e σ => Z4 e [(24, (vb ((!s2.2.2.2.2) || (decide (x4 > s2.2.2.2.1))))), (0, (.ptr (b8 + 0) 2 0)), (5, (vi x4)), (6, (.buf (b15 + 11) 1 1)), (7, (vi s2.1)), (8, (vi s2.2.1))] ∧ Has σ (b19 + 13) (b19 + 13) (.sl (.buf (b15 + 11) 1 1) 3 1 (s2.2.2.1.map (cI .i64)) true :: .blk (b11 + 2) 116 [(vi x2.index), (vi x2.place.first), (vi x2.place.last)] :: .blk (b8 + 0) 119 [(vi s2.2.2.2.1), (vb s2.2.2.2.2)] :: .blk (b4 + 2) 96 (vG x1) :: T1)) rfl ?_ ?_
             ·refine .split rfl rfl ?_ ?_ <;> intro hc6
              ·skip
               refine .pass rfl rfl rfl (.pass rfl rfl rfl (.pass rfl rfl rfl (.pass rfl rfl rfl (.pass rfl rfl rfl (.pass rfl rfl rfl ?_)))))
               refine .Zd (v := (vb true)) rfl rfl rfl (.nil ?_)
               exact ⟨⟨or_T hc6, rfl, rfl, rfl, rfl, rfl, trivial⟩, H.weak (by omega) (Nat.le_refl _)⟩
              ·skip
               refine .wanted rfl rfl (.move (v := (vi x4)) rfl rfl (.wanted rfl rfl (.move (v := (.ptr (b8 + 0) 2 0)) rfl rfl (.wanted rfl rfl (.Z0P (off := 0) H 2 rfl rfl rfl nofun rfl ?_)))))
               refine .wanted rfl rfl (.Z2 (off := 0) (fo := 0) H 2 rfl rfl rfl rfl rfl nofun rfl (.wanted rfl rfl (.ZA (off := 0) (v := (vi s2.2.2.2.1)) H 2 rfl rfl rfl rfl rfl nofun rfl (.wanted rfl rfl (.int (m := x4) (m' := s2.2.2.2.1) (r := .bool (decide (x4 > s2.2.2.2.1))) rfl rfl rfl rfl rfl ?_)))))
               refine .Zf (v := (vb (decide (x4 > s2.2.2.2.1)))) rfl rfl rfl (.nil ?_)
               exact ⟨⟨or_F hc6, rfl, rfl, rfl, rfl, rfl, trivial⟩, H.weak (by omega) (Nat.le_refl _)⟩
             ·rintro e σ ⟨he, H⟩
              obtain ⟨e, rfl⟩ := he.ex
              refine .nila H fun H => ?_
              refine .whether (v := ((!s2.2.2.2.2) || (decide (x4 > s2.2.2.2.1)))) rfl ?_ ?_ <;> intro hc7
              ·replace h := Z8 hc7 h
               refine .Z0 9 rfl H fun b20 σ H => (.move (v := (.ptr (b8 + 0) 2 0)) rfl rfl (.move (v := (.ptr (b8 + 0) 2 0)) rfl rfl (.move (v := (vi x4)) rfl rfl (.Z0P (off := 0) H 2 rfl rfl rfl nofun rfl (.Z2 (off := 0) (fo := 0) H 2 rfl rfl rfl rfl rfl nofun rfl ?_)))))
               refine .ZV (off := 0) (cells' := [(vi x4), (vb s2.2.2.2.2)]) H 2 rfl rfl rfl rfl rfl rfl rfl rfl rfl nofun fun σ H => (.Z0P (off := 0) H 2 rfl rfl rfl nofun rfl (.Z2 (off := 0) (fo := 1) H 2 rfl rfl rfl rfl rfl nofun rfl (.ZV (off := 1) (cells' := [(vi x4), (vb true)]) H 2 rfl rfl rfl rfl rfl rfl rfl rfl rfl nofun fun σ H => (.nila H fun H => ?_))))
               replace h := sj h; subst h
               exact ⟨rfl, ⟨rfl, rfl, rfl, rfl, trivial⟩, H⟩
              ·replace h := Z7 hc7 h
               refine .skip ?_
               replace h := sj h; subst h
               exact ⟨rfl, ⟨rfl, rfl, rfl, rfl, trivial⟩, H⟩
            ·rintro x e σ ⟨rfl, he, H⟩
             obtain ⟨e, rfl⟩ := he.ex
             replace h := sj h; subst h
             exact ⟨rfl, ⟨rfl, rfl, rfl, rfl, trivial⟩, H⟩
           ·rintro x e σ ⟨rfl, he, H⟩
            obtain ⟨e, rfl⟩ := he.ex
            refine .Z0 2 rfl H fun b21 σ H => (.int (m := s2.2.1) (m' := 1) (r := .int .i64 (w64 (s2.2.1 + 1))) rfl rfl rfl rfl rfl (.move (v := (vi (w64 (s2.2.1 + 1)))) rfl rfl (.nila H fun H => ?_)))
            replace h := sj h; subst h
            exact ⟨rfl, ⟨rfl, rfl, rfl, rfl, trivial⟩, H⟩
          ·replace h := Z7 hc5 h
           refine .exit ?_
           replace h := sj h; subst h
           exact ⟨nofun, ⟨rfl, trivial, H⟩⟩
         ·rintro x e σ ⟨rfl, he, H⟩
          obtain ⟨e, rfl⟩ := he.ex
          replace h := sj h; subst h
          exact ⟨.inl rfl, _, Z4T H .nil, _, ⟨rfl, rfl⟩, H⟩
        ·rintro _ _ σ ⟨rfl, rfl⟩ H
         refine .nila H fun H => ?_
         replace h := sj h; subst h
         exact ⟨rfl, ⟨rfl, rfl, rfl, rfl, rfl, rfl, rfl, rfl, trivial⟩, ((H.erase 1).erase 0)⟩
      ·rintro x e σ ⟨rfl, he, H⟩
       obtain ⟨e, rfl⟩ := he.ex
       replace h := sj h; subst h
       exact ⟨rfl, ⟨rfl, rfl, rfl, rfl, rfl, rfl, rfl, rfl, trivial⟩, H⟩
     ·rintro x e σ ⟨rfl, he, H⟩
      obtain ⟨e, rfl⟩ := he.ex
      refine .Z0 2 rfl H fun b22 σ H => (.int (m := s1.1) (m' := 1) (r := .int .i64 (w64 (s1.1 + 1))) rfl rfl rfl rfl rfl (.move (v := (vi (w64 (s1.1 + 1)))) rfl rfl (.nila H fun H => ?_)))
      replace h := sj h; subst h
      exact ⟨rfl, ⟨rfl, rfl, rfl, rfl, rfl, rfl, rfl, rfl, trivial⟩, H⟩
    ·replace h := Z7 hc3 h
     refine .exit ?_
     replace h := sj h; subst h
     exact ⟨nofun, ⟨rfl, ⟨rfl, rfl, rfl, rfl, rfl, trivial⟩, H⟩⟩
   ·rintro x e σ ⟨rfl, he, H⟩
    obtain ⟨e, rfl⟩ := he.ex
    refine .then (.then (.Z0 5 rfl H fun b23 σ H => (.Z2 (off := 0) (fo := 0) H 1 rfl rfl rfl rfl rfl nofun rfl (.Z2 (off := 0) (fo := 3) H 1 rfl rfl rfl rfl rfl nofun rfl (.ZA (off := 3) (v := (vl Granule.cs x1.Form.Odd)) H 1 rfl rfl rfl rfl rfl nofun rfl ?_)))))
    refine .Z0K (c := Granule.cs) (xs := x1.Form.Odd) rfl rfl rfl (.move (v := (vi 0)) rfl rfl (.nila H fun H => (.inBlock ?_)))
    obtain ⟨y10, hj10, h⟩ := bind_some h
    obtain ⟨n3, hj10⟩ := Zb.1 hj10
    refine .mono (Runs.ZN hj10 (fun s3 e σ => Z4 e [(1, (vi d)), (2, (vb up)), (9, (.ptr (b4 + 2) 5 0)), (10, (vi y1)), (11, (.ptr (b8 + 0) 2 0)), (61, (vl Granule.cs x1.Form.Odd)), (62, (vi (x1.Form.Odd.length : Int))), (63, (vi s3.1))] ∧ Hs σ [.blk (b8 + 0) 119 [(vi s3.2.1), (vb s3.2.2)], .blk (b4 + 2) 96 (vG x1)]) (fun y10 x e σ => x = .exit 2 ∧ Z4 e [(10, (vi y1)), (11, (.ptr (b8 + 0) 2 0))] ∧ Hs σ [.blk (b8 + 0) 119 [(vi y10.1), (vb y10.2)]]) ⟨⟨rfl, rfl, rfl, rfl, rfl, rfl, rfl, rfl, trivial⟩, H⟩ ?_) ?_
    ·intro s3 e σ hI z h
     obtain ⟨he, H⟩ := hI
     obtain ⟨e, rfl⟩ := he.ex
     unfold ZT.s2 at h
     refine .then (.Z0 1 rfl H fun b24 σ H => (.int (m := s3.1) (m' := (x1.Form.Odd.length : Int)) (r := .bool (decide (s3.1 < (x1.Form.Odd.length : Int)))) rfl rfl rfl rfl rfl (.nila H fun H => (.then ?_))))
     refine .whether (v := (decide (s3.1 < (x1.Form.Odd.length : Int)))) rfl ?_ ?_ <;> intro hc8
     ·replace h := Z8 hc8 h
      refine .skip (.then ?_)
      obtain ⟨y11, hj11, h⟩ := bind_some h
      refine .mono (Q := fun x e σ => x = .normal ∧ Z4 e [(1, (vi d)), (2, (vb up)), (9, (.ptr (b4 + 2) 5 0)), (10, (vi y1)), (11, (.ptr (b8 + 0) 2 0)), (61, (vl Granule.cs x1.Form.Odd)), (62, (vi (x1.Form.Odd.length : Int))), (63, (vi s3.1))] ∧ Hs σ [.blk (b8 + 0) 119 [(vi y11.1), (vb y11.2)], .blk (b4 + 2) 96 (vG x1)]) ?_ ?_
      ·replace h := hj11
       refine .inBlock ?_
       obtain ⟨y12, hj12, h⟩ := bind_some h
       refine .mono (Q := fun x e σ => (∃ a1, y12 = (.go a1) ∧ x = .normal ∧ Z4 e [(1, (vi d)), (2, (vb up)), (9, (.ptr (b4 + 2) 5 0)), (10, (vi y1)), (11, (.ptr (b8 + 0) 2 0)), (61, (vl Granule.cs x1.Form.Odd)), (62, (vi (x1.Form.Odd.length : Int))), (63, (vi s3.1))] ∧ Hs σ [.blk (b8 + 0) 119 [(vi a1.1), (vb a1.2)], .blk (b4 + 2) 96 (vG x1)]) ∨ (∃ a2, y12 = (.ret a2) ∧ x = .exit 3 ∧ Z4 e [(1, (vi d)), (2, (vb up)), (9, (.ptr (b4 + 2) 5 0)), (10, (vi y1)), (11, (.ptr (b8 + 0) 2 0)), (61, (vl Granule.cs x1.Form.Odd)), (62, (vi (x1.Form.Odd.length : Int))), (63, (vi s3.1))] ∧ Hs σ [.blk (b8 + 0) 119 [(vi s3.2.1), (vb s3.2.2)], .blk (b4 + 2) 96 (vG x1)])) ?_ ?_
       ·replace h := hj12
        refine .then (.Z0 4 rfl H fun b25 σ H => ?_)
        obtain ⟨x5, q5, h⟩ := bind_some h
        refine .Z03 (c := Granule.cs) (u := x5) rfl rfl q5 rfl rfl rfl rfl (.Z2g (cs := [(.int .i64 x5.Index), (.sl (x5.Ticks.map Span.cs))]) rfl rfl rfl rfl rfl rfl (.Zs (cs := [(vi 0), .nils]) H (by omega) (by omega) rfl rfl fun σ H => (.ZV (off := 0) (cells' := [(vi x5.Index), (vl Span.cs x5.Ticks)]) H 0 rfl rfl rfl rfl rfl rfl rfl rfl rfl nofun fun σ H => (.nila H fun H => (.then ?_)))))
        refine .Z0 9 rfl H fun b26 σ H => (.Z2 (off := 0) (fo := 1) H 0 rfl rfl rfl rfl rfl nofun rfl (.ZA (off := 1) (v := (vl Span.cs x5.Ticks)) H 0 rfl rfl rfl rfl rfl nofun rfl ?_))
        obtain ⟨x6, q6, h⟩ := bind_some h
        refine .call (ys := [(vl Span.cs x5.Ticks)]) (r := (.tup [(.agg [(vi x6.1.From), (vi x6.1.To)]), (vb x6.2)])) rfl (Z4h q6) rfl (.move (v := (.tup [(.agg [(vi x6.1.From), (vi x6.1.To)]), (vb x6.2)])) rfl rfl (.extract (v := (.agg [(vi x6.1.From), (vi x6.1.To)])) rfl rfl rfl (.extract (v := (vb x6.2)) rfl rfl rfl (.Zs (cs := [(vi 0), (vi 0)]) H (by omega) (by omega) rfl rfl fun σ H => (.ZV (off := 0) (cells' := [(vi x6.1.From), (vi x6.1.To)]) H 0 rfl rfl rfl rfl rfl rfl rfl rfl rfl nofun fun σ H => ?_)))))
        refine .assign (v := (vb x6.2)) rfl rfl (.nila H fun H => (.then (.then (.Z0 2 rfl H fun b27 σ H => (.move (v := (vb x6.2)) rfl rfl ?_)))))
        refine .not (b := x6.2) rfl rfl (.nila H fun H => ?_)
        refine .whether (v := (!x6.2)) rfl ?_ ?_ <;> intro hc9
        ·replace h := Z8 hc9 h
         refine .exit ?_
         replace h := sj h; subst h
         exact (.inr ⟨_, rfl, rfl, ⟨rfl, rfl, rfl, rfl, rfl, rfl, rfl, rfl, trivial⟩, ((H.erase 1).erase 0)⟩)
        ·replace h := Z7 hc9 h
         refine .skip (.then (.Z0u 6 rfl (by kernel_rfl) H fun b28 σ H B28 => (.Z2 (off := 0) (fo := 0) H 0 rfl rfl rfl rfl rfl (fun _ => .inl ⟨B28 0 _ rfl _ rfl, nofun, (fun _ => by kernel_rfl)⟩) rfl (.ZA (off := 0) (v := (vi x6.1.From)) H 0 rfl rfl rfl rfl rfl (fun _ => .inl ⟨B28 0 _ rfl _ rfl, nofun, (fun _ => by kernel_rfl)⟩) rfl (.Z2 (off := 0) (fo := 1) H 0 rfl rfl rfl rfl rfl (fun _ => .inl ⟨B28 0 _ rfl _ rfl, nofun, (fun _ => by kernel_rfl)⟩) rfl ?_)))))
         refine .ZA (off := 1) (v := (vi x6.1.To)) H 0 rfl rfl rfl rfl rfl (fun _ => .inl ⟨B28 0 _ rfl _ rfl, nofun, (fun _ => by kernel_rfl)⟩) rfl (.assign (v := (vi x6.1.From)) rfl rfl (.assign (v := (vi x6.1.To)) rfl rfl (.nila H fun H => (.then ?_))))
         obtain ⟨y13, hj13, h⟩ := bind_some h
         refine .mono (Q := fun x e σ => x = .normal ∧ Z4 e [(1, (vi d)), (2, (vb up)), (9, (.ptr (b4 + 2) 5 0)), (10, (vi y1)), (11, (.ptr (b8 + 0) 2 0)), (16, (.ptr (b25 + 2) 2 0)), (19, (vi y13.1)), (20, (vi y13.2)), (61, (vl Granule.cs x1.Form.Odd)), (62, (vi (x1.Form.Odd.length : Int))), (63, (vi s3.1))] ∧ Hs σ [.blk (b25 + 2) 76 [(vi x5.Index), (vl Span.cs x5.Ticks)], .blk (b8 + 0) 119 [(vi s3.2.1), (vb s3.2.2)], .blk (b4 + 2) 96 (vG x1)]) ?_ ?_
         ·replace h := hj13
          refine .then (.Z0 1 rfl H fun b29 σ H => (.move (v := (vb up)) rfl rfl (.nila H fun H => ?_)))
          refine .whether (v := up) rfl ?_ ?_ <;> intro hc10
          ·replace h := Z8 hc10 h
           refine .Z0 4 rfl H fun b30 σ H => (.move (v := (vi x6.1.To)) rfl rfl (.move (v := (vi x6.1.From)) rfl rfl (.assign (v := (vi x6.1.To)) rfl rfl (.assign (v := (vi x6.1.From)) rfl rfl (.nila H fun H => ?_)))))
           replace h := sj h; subst h
           exact ⟨rfl, ⟨rfl, rfl, rfl, rfl, rfl, rfl, rfl, rfl, rfl, rfl, rfl, trivial⟩, (H.erase 0)⟩
          ·replace h := Z7 hc10 h
           refine .skip ?_
           replace h := sj h; subst h
           exact ⟨rfl, ⟨rfl, rfl, rfl, rfl, rfl, rfl, rfl, rfl, rfl, rfl, rfl, trivial⟩, (H.erase 0)⟩
         ·rintro x e σ ⟨rfl, he, H⟩
          obtain ⟨e, rfl⟩ := he.ex
          refine .then ?_
          obtain ⟨y14, hj14, h⟩ := bind_some h
          refine .mono (Q := fun x e σ => x = .normal ∧ Z4 e [(1, (vi d)), (2, (vb up)), (9, (.ptr (b4 + 2) 5 0)), (10, (vi y1)), (11, (.ptr (b8 + 0) 2 0)), (16, (.ptr (b25 + 2) 2 0)), (19, (vi y13.1)), (61, (vl Granule.cs x1.Form.Odd)), (62, (vi (x1.Form.Odd.length : Int))), (63, (vi s3.1))] ∧ Hs σ [.blk (b25 + 2) 76 [(vi x5.Index), (vl Span.cs x5.Ticks)], .blk (b8 + 0) 119 [(vi y14.1), (vb y14.2)], .blk (b4 + 2) 96 (vG x1)]) ?_ ?_
          ·replace h := hj14
           refine .then (.Z0 11 rfl H fun b31 σ H => (.ZR (off := 0) (cs := (vG x1)) H 2 rfl rfl rfl rfl rfl rfl rfl nofun rfl (.move (v := (vi y13.2)) rfl rfl (.move (v := (vi d)) rfl rfl (.int (m := y13.2) (m' := d) (r := .int .i64 (w64 (y13.2 + d))) rfl rfl rfl rfl rfl ?_)))))
           refine .move (v := (vb up)) rfl rfl ?_
           obtain ⟨x7, q7, h⟩ := bind_some h
           refine .call (ys := [(.agg (vG x1)), (vi (w64 (y13.2 + d))), (vb up)]) (r := (.tup [(vi x7.1), (vb x7.2)])) rfl (Z4I q7) rfl (.move (v := (.tup [(vi x7.1), (vb x7.2)])) rfl rfl (.extract (v := (vi x7.1)) rfl rfl rfl (.extract (v := (vb x7.2)) rfl rfl rfl (.assign (v := (vi x7.1)) rfl rfl (.assign (v := (vb x7.2)) rfl rfl ?_)))))
           refine .nila H fun H => (.then (.Z0 1 rfl H fun b32 σ H => (.move (v := (vb x7.2)) rfl rfl (.nila H fun H => ?_))))
           refine .whether (v := x7.2) rfl ?_ ?_ <;> intro hc11
           ·replace h := Z8 hc11 h
            refine .Z0 8 rfl H fun b33 σ H => (.move (v := (vi y1)) rfl rfl (.move (v := (vi x7.1)) rfl rfl (.Z2 (off := 0) (fo := 0) H 0 rfl rfl rfl rfl rfl nofun rfl (.ZA (off := 0) (v := (vi x5.Index)) H 0 rfl rfl rfl rfl rfl nofun rfl (.int (m := x7.1) (m' := x5.Index) (r := .int .i64 (w64 (x7.1 - x5.Index))) rfl rfl rfl rfl rfl ?_)))))
            refine .int (m := y1) (m' := (w64 (x7.1 - x5.Index))) (r := .int .i64 (w64 (y1 * (w64 (x7.1 - x5.Index))))) rfl rfl rfl rfl rfl (.Z2i (sz := 1) ([(w64 (y1 * (w64 (x7.1 - x5.Index))))].map (cI .i64)) H (by omega) (by omega) rfl rfl rfl rfl rfl rfl rfl rfl rfl fun σ H => ?_)
            obtain ⟨y15, hj15, h⟩ := bind_some h
            refine .callI (PostA := fun r A => r = (.tup []) ∧ A = [.sl (.buf (b33 + 6) 1 1) 3 1 (y15.1.map (cI .i64)) true, .blk (b25 + 2) 76 [(vi x5.Index), (vl Span.cs x5.Ticks)], .blk (b8 + 0) 119 [(vi y15.2.1), (vb y15.2.2)], .blk (b4 + 2) 96 (vG x1)]) (cv := (.v (.fn 86))) (ys := [(.ptr (b8 + 0) 2 0), (.buf (b33 + 6) 1 1)]) (L := []) [.sl (.buf (b33 + 6) 1 1) 3 1 ([(w64 (y1 * (w64 (x7.1 - x5.Index))))].map (cI .i64)) true, .blk (b25 + 2) 76 [(vi x5.Index), (vl Span.cs x5.Ticks)], .blk (b8 + 0) 119 [(vi s3.2.1), (vb s3.2.2)], .blk (b4 + 2) 96 (vG x1)] H rfl rfl (fun T2 hT H => Z5q Try.func86 rfl (fun _ => rfl) rfl rfl rfl rfl ?_) nofun rfl ?_
            ·replace h := hj15
             refine .then (.Z0 3 rfl H fun b34 σ H => (.move (v := (.buf (b33 + 6) 1 1)) rfl rfl (.lenSt (c := (cI .i64)) (xs := [(w64 (y1 * (w64 (x7.1 - x5.Index))))]) H 0 rfl rfl rfl nofun rfl (.move (v := (vi 0)) rfl rfl (.nila H fun H => ?_)))))
             refine .inBlock ?_
             obtain ⟨y16, hj16, h⟩ := bind_some h
             obtain ⟨n4, hj16⟩ := Zb.1 hj16
             refine .mono (Runs.ZN hj16 (fun s4 e σ => Z4 e [(0, (.ptr (b8 + 0) 2 0)), (6, (.buf (b33 + 6) 1 1)), (7, (vi s4.1)), (8, (vi s4.2.1))] ∧ Hs σ (.sl (.buf (b33 + 6) 1 1) 3 1 (s4.2.2.1.map (cI .i64)) true :: .blk (b25 + 2) 76 [(vi x5.Index), (vl Span.cs x5.Ticks)] :: .blk (b8 + 0) 119 [(vi s4.2.2.2.1), (vb s4.2.2.2.2)] :: .blk (b4 + 2) 96 (vG x1) :: T2)) (fun y16 x e σ => x = .exit 0 ∧ Z4 e [] ∧ Hs σ (.sl (.buf (b33 + 6) 1 1) 3 1 (y16.1.map (cI .i64)) true :: .blk (b25 + 2) 76 [(vi x5.Index), (vl Span.cs x5.Ticks)] :: .blk (b8 + 0) 119 [(vi y16.2.1), (vb y16.2.2)] :: .blk (b4 + 2) 96 (vG x1) :: T2)) ⟨⟨rfl, rfl, rfl, rfl, trivial⟩, H⟩ ?_) ?_
             ·intro s4 e σ hI z h
              obtain ⟨he, H⟩ := hI
              obtain ⟨e, rfl⟩ := he.ex
              unfold ZT.s3 at h
              refine .then (.Z0 1 rfl H fun b35 σ H => (.int (m := s4.2.1) (m' := s4.1) (r := .bool (decide (s4.2.1 < s4.1))) rfl rfl rfl rfl rfl (.nila H fun H => (.then ?_))))
              refine .whether (v := (decide (s4.2.1 < s4.1))) rfl ?_ ?_ <;> intro hc12
              ·replace h := Z8 hc12 h
               refine .skip (.then ?_)
               obtain ⟨y17, hj17, h⟩ := bind_some h
               refine .mono (Q := fun x e σ => x = .normal ∧ Z4 e [(0, (.ptr (b8 + 0) 2 0)), (6, (.buf (b33 + 6) 1 1)), (7, (vi s4.1)), (8, (vi s4.2.1))] ∧ Hs σ (.sl (.buf (b33 + 6) 1 1) 3 1 (s4.2.2.1.map (cI .i64)) true :: .blk (b25 + 2) 76 [(vi x5.Index), (vl Span.cs x5.Ticks)] :: .blk (b8 + 0) 119 [(vi y17.1), (vb y17.2)] :: .blk (b4 + 2) 96 (vG x1) :: T2)) ?_ ?_
               ·replace h := hj17
                refine .inBlock ?_
                obtain ⟨y18, hj18, h⟩ := bind_some h
                refine .mono (Q := fun x e σ => x = .normal ∧ Z4 e [(0, (.ptr (b8 + 0) 2 0)), (6, (.buf (b33 + 6) 1 1)), (7, (vi s4.1)), (8, (vi s4.2.1))] ∧ Hs σ (.sl (.buf (b33 + 6) 1 1) 3 1 (s4.2.2.1.map (cI .i64)) true :: .blk (b25 + 2) 76 [(vi x5.Index), (vl Span.cs x5.Ticks)] :: .blk (b8 + 0) 119 [(vi y18.1), (vb y18.2)] :: .blk (b4 + 2) 96 (vG x1) :: T2)) ?_ ?_
                ·replace h := hj18
                 refine .then (.Z0 3 rfl H fun b36 σ H => ?_)
                 obtain ⟨x8, q8, h⟩ := bind_some h
                 refine .Z76 H 0 rfl rfl rfl (at?_map q8) rfl rfl nofun rfl ?_; intro id2 hv2
                 refine .loadS (id := id2) (j := 0) (w := (.int .i64 x8)) H 0 rfl hv2 (by simp) (at?_map q8) rfl (by simp) rfl rfl rfl nofun rfl ?_
                 refine .assign (v := (vi x8)) rfl rfl (.nila H fun H => (.then (.Z0 13 rfl H fun b37 σ H => (.move (v := (.ptr (b8 + 0) 2 0)) rfl rfl (.Z0P (off := 0) H 2 rfl rfl rfl nofun rfl ?_)))))
                 refine .Z2 (off := 0) (fo := 1) H 2 rfl rfl rfl rfl rfl nofun rfl (.ZA (off := 1) (v := (vb s4.2.2.2.2)) H 2 rfl rfl rfl rfl rfl nofun rfl (.not (b := s4.2.2.2.2) rfl rfl (.move (v := (vb (!s4.2.2.2.2))) rfl rfl ?_)))
                 refine .mid 7 (K1 := fun e σ => Z4 e [(24, (vb ((!s4.2.2.2.2) || (decide (x8 > s4.2.2.2.1))))), (0, (.ptr (b8 + 0) 2 0)), (5, (vi x8)), (6, (.buf (b33 + 6) 1 1)), (7, (vi s4.1)), (8, (vi s4.2.1))] ∧ Has σ (b37 + 13) (b37 + 13) (.sl (.buf (b33 + 6) 1 1) 3 1 (s4.2.2.1.map (cI .i64)) true :: .blk (b25 + 2) 76 [(vi x5.Index), (vl Span.cs x5.Ticks)] :: .blk (b8 + 0) 119 [(vi s4.2.2.2.1), (vb s4.2.2.2.2)] :: .blk (b4 + 2) 96 (vG x1) :: T2)) rfl ?_ ?_
                 ·refine .split rfl rfl ?_ ?_ <;> intro hc13
                  ·skip
                   refine .pass rfl rfl rfl (.pass rfl rfl rfl (.pass rfl rfl rfl (.pass rfl rfl rfl (.pass rfl rfl rfl (.pass rfl rfl rfl ?_)))))
                   refine .Zd (v := (vb true)) rfl rfl rfl (.nil ?_)
                   exact ⟨⟨or_T hc13, rfl, rfl, rfl, rfl, rfl, trivial⟩, H.weak (by omega) (Nat.le_refl _)⟩
                  ·skip
                   refine .wanted rfl rfl (.move (v := (vi x8)) rfl rfl (.wanted rfl rfl (.move (v := (.ptr (b8 + 0) 2 0)) rfl rfl (.wanted rfl rfl (.Z0P (off := 0) H 2 rfl rfl rfl nofun rfl ?_)))))
                   refine .wanted rfl rfl (.Z2 (off := 0) (fo := 0) H 2 rfl rfl rfl rfl rfl nofun rfl (.wanted rfl rfl (.ZA (off := 0) (v := (vi s4.2.2.2.1)) H 2 rfl rfl rfl rfl rfl nofun rfl (.wanted rfl rfl (.int (m := x8) (m' := s4.2.2.2.1) (r := .bool (decide (x8 > s4.2.2.2.1))) rfl rfl rfl rfl rfl ?_)))))
                   refine .Zf (v := (vb (decide (x8 > s4.2.2.2.1)))) rfl rfl rfl (.nil ?_)
                   exact ⟨⟨or_F hc13, rfl, rfl, rfl, rfl, rfl, trivial⟩, H.weak (by omega) (Nat.le_refl _)⟩
                 ·rintro e σ ⟨he, H⟩
                  obtain ⟨e, rfl⟩ := he.ex
                  refine .nila H fun H => ?_
                  refine .whether (v := ((!s4.2.2.2.2) || (decide (x8 > s4.2.2.2.1)))) rfl ?_ ?_ <;> intro hc14
                  ·replace h := Z8 hc14 h
                   refine .Z0 9 rfl H fun b38 σ H => (.move (v := (.ptr (b8 + 0) 2 0)) rfl rfl (.move (v := (.ptr (b8 + 0) 2 0)) rfl rfl (.move (v := (vi x8)) rfl rfl (.Z0P (off := 0) H 2 rfl rfl rfl nofun rfl (.Z2 (off := 0) (fo := 0) H 2 rfl rfl rfl rfl rfl nofun rfl ?_)))))
                   refine .ZV (off := 0) (cells' := [(vi x8), (vb s4.2.2.2.2)]) H 2 rfl rfl rfl rfl rfl rfl rfl rfl rfl nofun fun σ H => (.Z0P (off := 0) H 2 rfl rfl rfl nofun rfl (.Z2 (off := 0) (fo := 1) H 2 rfl rfl rfl rfl rfl nofun rfl (.ZV (off := 1) (cells' := [(vi x8), (vb true)]) H 2 rfl rfl rfl rfl rfl rfl rfl rfl rfl nofun fun σ H => (.nila H fun H => ?_))))
                   replace h := sj h; subst h
                   exact ⟨rfl, ⟨rfl, rfl, rfl, rfl, trivial⟩, H⟩
                  ·replace h := Z7 hc14 h
                   refine .skip ?_
                   replace h := sj h; subst h
                   exact ⟨rfl, ⟨rfl, rfl, rfl, rfl, trivial⟩, H⟩
                ·rintro x e σ ⟨rfl, he, H⟩
                 obtain ⟨e, rfl⟩ := he.ex
                 replace h := sj h; subst h
                 exact ⟨rfl, ⟨rfl, rfl, rfl, rfl, trivial⟩, H⟩
               ·rintro x e σ ⟨rfl, he, H⟩
                obtain ⟨e, rfl⟩ := he.ex
                refine .Z0 2 rfl H fun b39 σ H => (.int (m := s4.2.1) (m' := 1) (r := .int .i64 (w64 (s4.2.1 + 1))) rfl rfl rfl rfl rfl (.move (v := (vi (w64 (s4.2.1 + 1)))) rfl rfl (.nila H fun H => ?_)))
                replace h := sj h; subst h
                exact ⟨rfl, ⟨rfl, rfl, rfl, rfl, trivial⟩, H⟩
              ·replace h := Z7 hc12 h
               refine .exit ?_
               replace h := sj h; subst h
               exact ⟨nofun, ⟨rfl, trivial, H⟩⟩
             ·rintro x e σ ⟨rfl, he, H⟩
              obtain ⟨e, rfl⟩ := he.ex
              replace h := sj h; subst h
              exact ⟨.inl rfl, _, Z4T H .nil, _, ⟨rfl, rfl⟩, H⟩
            ·rintro _ _ σ ⟨rfl, rfl⟩ H
             refine .nila H fun H => ?_
             replace h := sj h; subst h
             exact ⟨rfl, ⟨rfl, rfl, rfl, rfl, rfl, rfl, rfl, rfl, rfl, rfl, trivial⟩, (H.erase 0)⟩
           ·replace h := Z7 hc11 h
            refine .skip ?_
            replace h := sj h; subst h
            exact ⟨rfl, ⟨rfl, rfl, rfl, rfl, rfl, rfl, rfl, rfl, rfl, rfl, trivial⟩, H⟩
          ·rintro x e σ ⟨rfl, he, H⟩
           obtain ⟨e, rfl⟩ := he.ex
           refine .then (.Z0 12 rfl H fun b40 σ H => (.ZR (off := 0) (cs := (vG x1)) H 2 rfl rfl rfl rfl rfl rfl rfl nofun rfl (.move (v := (vi y13.1)) rfl rfl (.move (v := (vi d)) rfl rfl (.int (m := y13.1) (m' := d) (r := .int .i64 (w64 (y13.1 - d))) rfl rfl rfl rfl rfl ?_)))))
           refine .move (v := (vb up)) rfl rfl (.not (b := up) rfl rfl ?_)
           obtain ⟨x9, q9, h⟩ := bind_some h
           refine .call (ys := [(.agg (vG x1)), (vi (w64 (y13.1 - d))), (vb (!up))]) (r := (.tup [(vi x9.1), (vb x9.2)])) rfl (Z4I q9) rfl (.move (v := (.tup [(vi x9.1), (vb x9.2)])) rfl rfl (.extract (v := (vi x9.1)) rfl rfl rfl (.extract (v := (vb x9.2)) rfl rfl rfl (.assign (v := (vi x9.1)) rfl rfl (.assign (v := (vb x9.2)) rfl rfl ?_)))))
           refine .nila H fun H => (.then (.Z0 1 rfl H fun b41 σ H => (.move (v := (vb x9.2)) rfl rfl (.nila H fun H => ?_))))
           refine .whether (v := x9.2) rfl ?_ ?_ <;> intro hc15
           ·replace h := Z8 hc15 h
            refine .Z0 8 rfl H fun b42 σ H => (.move (v := (vi y1)) rfl rfl (.Z2 (off := 0) (fo := 0) H 0 rfl rfl rfl rfl rfl nofun rfl (.ZA (off := 0) (v := (vi x5.Index)) H 0 rfl rfl rfl rfl rfl nofun rfl (.move (v := (vi x9.1)) rfl rfl (.int (m := x5.Index) (m' := x9.1) (r := .int .i64 (w64 (x5.Index - x9.1))) rfl rfl rfl rfl rfl ?_)))))
            refine .int (m := y1) (m' := (w64 (x5.Index - x9.1))) (r := .int .i64 (w64 (y1 * (w64 (x5.Index - x9.1))))) rfl rfl rfl rfl rfl (.Z2i (sz := 1) ([(w64 (y1 * (w64 (x5.Index - x9.1))))].map (cI .i64)) H (by omega) (by omega) rfl rfl rfl rfl rfl rfl rfl rfl rfl fun σ H => ?_)
            obtain ⟨y19, hj19, h⟩ := bind_some h
            refine .callI (PostA := fun r A => r = (.tup []) ∧ A = [.sl (.buf (b42 + 6) 1 1) 3 1 (y19.1.map (cI .i64)) true, .blk (b25 + 2) 76 [(vi x5.Index), (vl Span.cs x5.Ticks)], .blk (b8 + 0) 119 [(vi y19.2.1), (vb y19.2.2)], .blk (b4 + 2) 96 (vG x1)]) (cv := (.v (.fn 86))) (ys := [(.ptr (b8 + 0) 2 0), (.buf (b42 + 6) 1 1)]) (L := []) [.sl (.buf (b42 + 6) 1 1) 3 1 ([(w64 (y1 * (w64 (x5.Index - x9.1))))].map (cI .i64)) true, .blk (b25 + 2) 76 [(vi x5.Index), (vl Span.cs x5.Ticks)], .blk (b8 + 0) 119 [(vi y14.1), (vb y14.2)], .blk (b4 + 2) 96 (vG x1)] H rfl rfl (fun T3 hT H => Z5q Try.func86 rfl (fun _ => rfl) rfl rfl rfl rfl ?_) nofun rfl ?_
            ·replace h := hj19
             refine .then (.Z0 3 rfl H fun b43 σ H => (.move (v := (.buf (b42 + 6) 1 1)) rfl rfl (.lenSt (c := (cI .i64)) (xs := [(w64 (y1 * (w64 (x5.Index - x9.1))))]) H 0 rfl rfl rfl nofun rfl (.move (v := (vi 0)) rfl rfl (.nila H fun H => ?_)))))
             refine .inBlock ?_
             obtain ⟨y20, hj20, h⟩ := bind_some h
             obtain ⟨n5, hj20⟩ := Zb.1 hj20
             refine .mono (Runs.ZN hj20 (fun s5 e σ => Z4 e [(0, (.ptr (b8 + 0) 2 0)), (6, (.buf (b42 + 6) 1 1)), (7, (vi s5.1)), (8, (vi s5.2.1))] ∧ Hs σ (.sl (.buf (b42 + 6) 1 1) 3 1 (s5.2.2.1.map (cI .i64)) true :: .blk (b25 + 2) 76 [(vi x5.Index), (vl Span.cs x5.Ticks)] :: .blk (b8 + 0) 119 [(vi s5.2.2.2.1), (vb s5.2.2.2.2)] :: .blk (b4 + 2) 96 (vG x1) :: T3)) (fun y20 x e σ => x = .exit 0 ∧ Z4 e [] ∧ Hs σ (.sl (.buf (b42 + 6) 1 1) 3 1 (y20.1.map (cI .i64)) true :: .blk (b25 + 2) 76 [(vi x5.Index), (vl Span.cs x5.Ticks)] :: .blk (b8 + 0) 119 [(vi y20.2.1), (vb y20.2.2)] :: .blk (b4 + 2) 96 (vG x1) :: T3)) ⟨⟨rfl, rfl, rfl, rfl, trivial⟩, H⟩ ?_) ?_
             ·intro s5 e σ hI z h
              obtain ⟨he, H⟩ := hI
              obtain ⟨e, rfl⟩ := he.ex
              unfold ZT.s4 at h
              refine .then (.Z0 1 rfl H fun b44 σ H => (.int (m := s5.2.1) (m' := s5.1) (r := .bool (decide (s5.2.1 < s5.1))) rfl rfl rfl rfl rfl (.nila H fun H => (.then ?_))))
              refine .whether (v := (decide (s5.2.1 < s5.1))) rfl ?_ ?_ <;> intro hc16
              ·replace h := Z8 hc16 h
               refine .skip (.then ?_)
               obtain ⟨y21, hj21, h⟩ := bind_some h
               refine .mono (Q := fun x e σ => x = .normal ∧ Z4 e [(0, (.ptr (b8 + 0) 2 0)), (6, (.buf (b42 + 6) 1 1)), (7, (vi s5.1)), (8, (vi s5.2.1))] ∧ Hs σ (.sl (.buf (b42 + 6) 1 1) 3 1 (s5.2.2.1.map (cI .i64)) true :: .blk (b25 + 2) 76 [(vi x5.Index), (vl Span.cs x5.Ticks)] :: .blk (b8 + 0) 119 [(vi y21.1), (vb y21.2)] :: .blk (b4 + 2) 96 (vG x1) :: T3)) ?_ ?_
               ·replace h := hj21
                refine .inBlock ?_
                obtain ⟨y22, hj22, h⟩ := bind_some h
                refine .mono (Q := fun x e σ => x = .normal ∧ Z4 e [(0, (.ptr (b8 + 0) 2 0)), (6, (.buf (b42 + 6) 1 1)), (7, (vi s5.1)), (8, (vi s5.2.1))] ∧ Hs σ (.sl (.buf (b42 + 6) 1 1) 3 1 (s5.2.2.1.map (cI .i64)) true :: .blk (b25 + 2) 76 [(vi x5.Index), (vl Span.cs x5.Ticks)] :: .blk (b8 + 0) 119 [(vi y22.1), (vb y22.2)] :: .blk (b4 + 2) 96 (vG x1) :: T3)) ?_ ?_
                ·replace h := hj22
                 refine .then (.Z0 3 rfl H fun b45 σ H => ?_)
                 obtain ⟨x10, q10, h⟩ := bind_some h
                 refine .Z76 H 0 rfl rfl rfl (at?_map q10) rfl rfl nofun rfl ?_; intro id3 hv3
                 refine .loadS (id := id3) (j := 0) (w := (.int .i64 x10)) H 0 rfl hv3 (by simp) (at?_map q10) rfl (by simp) rfl rfl rfl nofun rfl ?_
                 refine .assign (v := (vi x10)) rfl rfl (.nila H fun H => (.then (.Z0 13 rfl H fun b46 σ H => (.move (v := (.ptr (b8 + 0) 2 0)) rfl rfl (.Z0P (off := 0) H 2 rfl rfl rfl nofun rfl ?_)))))
                 refine .Z2 (off := 0) (fo := 1) H 2 rfl rfl rfl rfl rfl nofun rfl (.ZA (off := 1) (v := (vb s5.2.2.2.2)) H 2 rfl rfl rfl rfl rfl nofun rfl (.not (b := s5.2.2.2.2) rfl rfl (.move (v := (vb (!s5.2.2.2.2))) rfl rfl ?_)))
                 refine .mid 7 (K1 := fun e σ => Z4 e [(24, (vb ((!s5.2.2.2.2) || (decide (x10 > s5.2.2.2.1))))), (0, (.ptr (b8 + 0) 2 0)), (5, (vi x10)), (6, (.buf (b42 + 6) 1 1)), (7, (vi s5.1)), (8, (vi s5.2.1))] ∧ Has σ (b46 + 13) (b46 + 13) (.sl (.buf (b42 + 6) 1 1) 3 1 (s5.2.2.1.map (cI .i64)) true :: .blk (b25 + 2) 76 [(vi x5.Index), (vl Span.cs x5.Ticks)] :: .blk (b8 + 0) 119 [(vi s5.2.2.2.1), (vb s5.2.2.2.2)] :: .blk (b4 + 2) 96 (vG x1) :: T3)) rfl ?_ ?_
                 ·refine .split rfl rfl ?_ ?_ <;> intro hc17
                  ·skip
                   refine .pass rfl rfl rfl (.pass rfl rfl rfl (.pass rfl rfl rfl (.pass rfl rfl rfl (.pass rfl rfl rfl (.pass rfl rfl rfl ?_)))))
                   refine .Zd (v := (vb true)) rfl rfl rfl (.nil ?_)
                   exact ⟨⟨or_T hc17, rfl, rfl, rfl, rfl, rfl, trivial⟩, H.weak (by omega) (Nat.le_refl _)⟩
                  ·skip
                   refine .wanted rfl rfl (.move (v := (vi x10)) rfl rfl (.wanted rfl rfl (.move (v := (.ptr (b8 + 0) 2 0)) rfl rfl (.wanted rfl rfl (.Z0P (off := 0) H 2 rfl rfl rfl nofun rfl ?_)))))
                   refine .wanted rfl rfl (.Z2 (off := 0) (fo := 0) H 2 rfl rfl rfl rfl rfl nofun rfl (.wanted rfl rfl (.ZA (off := 0) (v := (vi s5.2.2.2.1)) H 2 rfl rfl rfl rfl rfl nofun rfl (.wanted rfl rfl (.int (m := x10) (m' := s5.2.2.2.1) (r := .bool (decide (x10 > s5.2.2.2.1))) rfl rfl rfl rfl rfl ?_)))))
                   refine .Zf (v := (vb (decide (x10 > s5.2.2.2.1)))) rfl rfl rfl (.nil ?_)
                   exact ⟨⟨or_F hc17, rfl, rfl, rfl, rfl, rfl, trivial⟩, H.weak (by omega) (Nat.le_refl _)⟩
                 ·rintro e σ ⟨he, H⟩
                  obtain ⟨e, rfl⟩ := he.ex
                  refine .nila H fun H => ?_
                  refine .whether (v := ((!s5.2.2.2.2) || (decide (x10 > s5.2.2.2.1)))) rfl ?_ ?_ <;> intro hc18
                  ·replace h := Z8 hc18 h
                   refine .Z0 9 rfl H fun b47 σ H => (.move (v := (.ptr (b8 + 0) 2 0)) rfl rfl (.move (v := (.ptr (b8 + 0) 2 0)) rfl rfl (.move (v := (vi x10)) rfl rfl (.Z0P (off := 0) H 2 rfl rfl rfl nofun rfl (.Z2 (off := 0) (fo := 0) H 2 rfl rfl rfl rfl rfl nofun rfl ?_)))))
                   refine .ZV (off := 0) (cells' := [(vi x10), (vb s5.2.2.2.2)]) H 2 rfl rfl rfl rfl rfl rfl rfl rfl rfl nofun fun σ H => (.Z0P (off := 0) H 2 rfl rfl rfl nofun rfl (.Z2 (off := 0) (fo := 1) H 2 rfl rfl rfl rfl rfl nofun rfl (.ZV (off := 1) (cells' := [(vi x10), (vb true)]) H 2 rfl rfl rfl rfl rfl rfl rfl rfl rfl nofun fun σ H => (.nila H fun H => ?_))))
                   replace h := sj h; subst h
                   exact ⟨rfl, ⟨rfl, rfl, rfl, rfl, trivial⟩, H⟩
                  ·replace h := Z7 hc18 h
                   refine .skip ?_
                   replace h := sj h; subst h
                   exact ⟨rfl, ⟨rfl, rfl, rfl, rfl, trivial⟩, H⟩
                ·rintro x e σ ⟨rfl, he, H⟩
                 obtain ⟨e, rfl⟩ := he.ex
                 replace h := sj h; subst h
                 exact ⟨rfl, ⟨rfl, rfl, rfl, rfl, trivial⟩, H⟩
               ·rintro x e σ ⟨rfl, he, H⟩
                obtain ⟨e, rfl⟩ := he.ex
                refine .Z0 2 rfl H fun b48 σ H => (.int (m := s5.2.1) (m' := 1) (r := .int .i64 (w64 (s5.2.1 + 1))) rfl rfl rfl rfl rfl (.move (v := (vi (w64 (s5.2.1 + 1)))) rfl rfl (.nila H fun H => ?_)))
                replace h := sj h; subst h
                exact ⟨rfl, ⟨rfl, rfl, rfl, rfl, trivial⟩, H⟩
              ·replace h := Z7 hc16 h
               refine .exit ?_
               replace h := sj h; subst h
               exact ⟨nofun, ⟨rfl, trivial, H⟩⟩
             ·rintro x e σ ⟨rfl, he, H⟩
              obtain ⟨e, rfl⟩ := he.ex
              replace h := sj h; subst h
              exact ⟨.inl rfl, _, Z4T H .nil, _, ⟨rfl, rfl⟩, H⟩
            ·rintro _ _ σ ⟨rfl, rfl⟩ H
             refine .nila H fun H => ?_
             replace h := sj h; subst h
             exact (.inl ⟨_, rfl, rfl, ⟨rfl, rfl, rfl, rfl, rfl, rfl, rfl, rfl, trivial⟩, ((H.erase 1).erase 0)⟩)
           ·replace h := Z7 hc15 h
            refine .skip ?_
            replace h := sj h; subst h
            exact (.inl ⟨_, rfl, rfl, ⟨rfl, rfl, rfl, rfl, rfl, rfl, rfl, rfl, trivial⟩, (H.erase 0)⟩)
       ·rintro x e σ (⟨a3, rfl, rfl, he, H⟩ | ⟨a4, rfl, rfl, he, H⟩)
        ·skip
         replace h := jgo h
         obtain ⟨e, rfl⟩ := he.ex
         replace h := sj h; subst h
         exact ⟨rfl, ⟨rfl, rfl, rfl, rfl, rfl, rfl, rfl, rfl, trivial⟩, H⟩
        ·skip
         replace h := jret h
         obtain ⟨e, rfl⟩ := he.ex
         replace h := sj h; subst h
         exact ⟨rfl, ⟨rfl, rfl, rfl, rfl, rfl, rfl, rfl, rfl, trivial⟩, H⟩
      ·rintro x e σ ⟨rfl, he, H⟩
       obtain ⟨e, rfl⟩ := he.ex
       refine .Z0 2 rfl H fun b49 σ H => (.int (m := s3.1) (m' := 1) (r := .int .i64 (w64 (s3.1 + 1))) rfl rfl rfl rfl rfl (.move (v := (vi (w64 (s3.1 + 1)))) rfl rfl (.nila H fun H => ?_)))
       replace h := sj h; subst h
       exact ⟨rfl, ⟨rfl, rfl, rfl, rfl, rfl, rfl, rfl, rfl, trivial⟩, H⟩
     ·replace h := Z7 hc8 h
      refine .exit ?_
      replace h := sj h; subst h
      exact ⟨nofun, ⟨rfl, ⟨rfl, rfl, trivial⟩, (H.erase 1)⟩⟩
    ·rintro x e σ ⟨rfl, he, H⟩
     obtain ⟨e, rfl⟩ := he.ex
     refine .then (.Z0u 9 rfl (by kernel_rfl) H fun b50 σ H B50 => (.move (v := (vi y1)) rfl rfl (.Z2 (off := 0) (fo := 0) H 0 rfl rfl rfl rfl rfl (fun _ => .inl ⟨B50 0 _ rfl _ rfl, nofun, (fun _ => by kernel_rfl)⟩) rfl (.ZA (off := 0) (v := (vi y10.1)) H 0 rfl rfl rfl rfl rfl (fun _ => .inl ⟨B50 0 _ rfl _ rfl, nofun, (fun _ => by kernel_rfl)⟩) rfl (.int (m := y1) (m' := y10.1) (r := .int .i64 (w64 (y1 * y10.1))) rfl rfl rfl rfl rfl ?_)))))
     refine .Z2 (off := 0) (fo := 1) H 0 rfl rfl rfl rfl rfl (fun _ => .inl ⟨B50 0 _ rfl _ rfl, nofun, (fun _ => by kernel_rfl)⟩) rfl (.ZA (off := 1) (v := (vb y10.2)) H 0 rfl rfl rfl rfl rfl (fun _ => .inl ⟨B50 0 _ rfl _ rfl, nofun, (fun _ => by kernel_rfl)⟩) rfl (.assign (v := (vi (w64 (y1 * y10.1)))) rfl rfl (.assign (v := (vb y10.2)) rfl rfl (.assign (v := (vi 0)) rfl rfl (.nila H fun H => ?_)))))
     refine .ret ?_
     replace h := sj h; subst h
     exact (Ends.H (xs := [(vi (w64 (y1 * y10.1))), (vb y10.2), (vi 0)]) (.inr rfl) H (.tmp (v := (vi (w64 (y1 * y10.1)))) rfl (.tmp (v := (vb y10.2)) rfl (.tmp (v := (vi 0)) rfl .nil))) (.two (.cons (.c (.v _)) (.cons (.c (.v _)) (.cons (.c (.v _)) .nil)))))

theorem Z7W {f : Form} {d : Int} {r : Int × Bool × Int} (h : Z30 f d = some r) : Fn CX 34 [(.agg (vs (Form.cs f))), (vi d)] (.tup [(vi r.1), (vb r.2.1), (vi r.2.2)]) := by
 refine Fn.ends Try.func34 rfl rfl rfl rfl rfl rfl ?_
 have H : Hs (⟨0, fun _ => .none⟩ : Heap) [] := Has.nil (Nat.le_refl _)
 generalize (⟨0, fun _ => .none⟩ : Heap) = σ at H ⊢
 unfold Z30 at h
 refine .then (.Z0 4 rfl H fun b1 σ H => (.boxH (cs := (vF f)) H (by omega) (by omega) rfl rfl rfl fun σ H => (.assign (v := (vi 0)) rfl rfl (.assign (v := (vb false)) rfl rfl (.assign (v := (vi 0)) rfl rfl ?_)))))
 refine .nila H fun H => (.then (.Z0 9 rfl H fun b2 σ H => (.ZR (off := 0) (cs := (vF f)) H 0 rfl rfl rfl rfl rfl rfl rfl nofun rfl (.move (v := (vi d)) rfl rfl ?_))))
 obtain ⟨x1, q1, h⟩ := bind_some h
 refine .call (ys := [(.agg (vF f)), (vi d), (vb false)]) (r := (.tup [(vi x1.1), (vb x1.2.1), (vi x1.2.2)])) rfl (Z8k q1) rfl (.extract (v := (vi x1.1)) rfl rfl rfl (.extract (v := (vb x1.2.1)) rfl rfl rfl (.extract (v := (vi x1.2.2)) rfl rfl rfl (.assign (v := (vi x1.1)) rfl rfl (.assign (v := (vb x1.2.1)) rfl rfl ?_)))))
 refine .assign (v := (vi x1.2.2)) rfl rfl (.nila H fun H => (.ret ?_))
 replace h := sj h; subst h
 exact (Ends.H (xs := [(vi x1.1), (vb x1.2.1), (vi x1.2.2)]) (.inr rfl) H (.tmp (v := (vi x1.1)) rfl (.tmp (v := (vb x1.2.1)) rfl (.tmp (v := (vi x1.2.2)) rfl .nil))) (.two (.cons (.c (.v _)) (.cons (.c (.v _)) (.cons (.c (.v _)) .nil)))))

theorem Z5R {a : carry_asked} {gap : Int} {r : Bool} (h : Z0Z a gap = some r) : Fn CX 46 [(.agg (vs (carry_asked.cs a))), (vi gap)] (vb r) := by
 refine Fn.ends Try.func46 rfl rfl rfl rfl rfl rfl ?_
 have H : Hs (⟨0, fun _ => .none⟩ : Heap) [] := Has.nil (Nat.le_refl _)
 generalize (⟨0, fun _ => .none⟩ : Heap) = σ at H ⊢
 unfold Z0Z at h
 refine .then (.Z0 2 rfl H fun b1 σ H => (.boxH (cs := [(vi a.f.Period), (vi a.f.Count), (vl (cL Span.cs) a.f.Core), (vl Granule.cs a.f.Odd), (vi a.m)]) H (by omega) (by omega) rfl rfl rfl fun σ H => (.assign (v := (vb false)) rfl rfl (.nila H fun H => (.then ?_)))))
 refine .Z0 12 rfl H fun b2 σ H => (.Z2 (off := 0) (fo := 0) H 0 rfl rfl rfl rfl rfl nofun rfl (.ZR (off := 0) (cs := (vF a.f)) H 0 rfl rfl rfl rfl rfl rfl rfl nofun rfl (.move (v := (vi gap)) rfl rfl (.int (m := gap) (m' := 1099511627776) (r := .int .i64 (w64 (gap - 1099511627776))) rfl rfl rfl rfl rfl ?_))))
 obtain ⟨x1, q1, h⟩ := bind_some h
 refine .call (ys := [(.agg (vF a.f)), (vi (w64 (gap - 1099511627776)))]) (r := (.tup [(vi x1.1), (vb x1.2.1), (vi x1.2.2)])) rfl (Z7W q1) rfl (.move (v := (.tup [(vi x1.1), (vb x1.2.1), (vi x1.2.2)])) rfl rfl (.extract (v := (vi x1.1)) rfl rfl rfl (.extract (v := (vb x1.2.1)) rfl rfl rfl (.extract (v := (vi x1.2.2)) rfl rfl rfl (.assign (v := (vi x1.1)) rfl rfl ?_)))))
 refine .assign (v := (vb x1.2.1)) rfl rfl (.assign (v := (vi x1.2.2)) rfl rfl (.nila H fun H => (.then (.Z0 12 rfl H fun b3 σ H => (.move (v := (vb x1.2.1)) rfl rfl ?_)))))
 refine .move (v := (vb x1.2.1)) rfl rfl ?_
 refine .mid 3 (K1 := fun e σ => Z4 e [(21, (vb (x1.2.1 && (x1.2.2 == 0)))), (2, (.ptr (b1 + 0) 5 0)), (5, (vi x1.1))] ∧ Has σ (b3 + 5) (b3 + 12) [.blk (b1 + 0) 82 [(vi a.f.Period), (vi a.f.Count), (vl (cL Span.cs) a.f.Core), (vl Granule.cs a.f.Odd), (vi a.m)]]) rfl ?_ ?_
 ·refine .split rfl rfl ?_ ?_ <;> intro hc1
  ·skip
   refine .wanted rfl rfl (.move (v := (vi x1.2.2)) rfl rfl (.wanted rfl rfl (.int (m := x1.2.2) (m' := 0) (r := .bool (x1.2.2 == 0)) rfl rfl rfl rfl rfl (.Zd (v := (vb (x1.2.2 == 0))) rfl rfl rfl (.nil ?_)))))
   exact ⟨⟨Z2E hc1, rfl, rfl, trivial⟩, H.weak (by omega) (Nat.le_refl _)⟩
  ·skip
   refine .pass rfl rfl rfl (.pass rfl rfl rfl (.Zf (v := (vb false)) rfl rfl rfl (.nil ?_)))
   exact ⟨⟨Z2H hc1, rfl, rfl, trivial⟩, H.weak (by omega) (Nat.le_refl _)⟩
 ·rintro e σ ⟨he, H⟩
  obtain ⟨e, rfl⟩ := he.ex
  refine .move (v := (vb (x1.2.1 && (x1.2.2 == 0)))) rfl rfl ?_
  refine .mid 5 (K1 := fun e σ => Z4 e [(27, (vb ((x1.2.1 && (x1.2.2 == 0)) && (decide (x1.1 ≥ a.m)))))] ∧ Has σ (b3 + 11) (b3 + 12) []) rfl ?_ ?_
  ·refine .split rfl rfl ?_ ?_ <;> intro hc2
   ·skip
    refine .wanted rfl rfl (.move (v := (vi x1.1)) rfl rfl (.wanted rfl rfl (.Z2 (off := 0) (fo := 4) H 0 rfl rfl rfl rfl rfl nofun rfl (.wanted rfl rfl (.ZA (off := 4) (v := (vi a.m)) H 0 rfl rfl rfl rfl rfl nofun rfl ?_)))))
    refine .wanted rfl rfl (.int (m := x1.1) (m' := a.m) (r := .bool (decide (x1.1 ≥ a.m))) rfl rfl rfl rfl rfl (.Zd (v := (vb (decide (x1.1 ≥ a.m)))) rfl rfl rfl (.nil ?_)))
    exact ⟨⟨Z2E hc2, trivial⟩, (H.erase 0).weak (by omega) (Nat.le_refl _)⟩
   ·skip
    refine .pass rfl rfl rfl (.pass rfl rfl rfl (.pass rfl rfl rfl (.pass rfl rfl rfl (.Zf (v := (vb false)) rfl rfl rfl (.nil ?_)))))
    exact ⟨⟨Z2H hc2, trivial⟩, (H.erase 0).weak (by omega) (Nat.le_refl _)⟩
  ·rintro e σ ⟨he, H⟩
   obtain ⟨e, rfl⟩ := he.ex
   refine .assign (v := (vb ((x1.2.1 && (x1.2.2 == 0)) && (decide (x1.1 ≥ a.m))))) rfl rfl (.nila H fun H => (.ret ?_))
   replace h := sj h; subst h
   exact (Ends.H (xs := [(vb ((x1.2.1 && (x1.2.2 == 0)) && (decide (x1.1 ≥ a.m))))]) (.inr rfl) H (.tmp (v := (vb ((x1.2.1 && (x1.2.2 == 0)) && (decide (x1.1 ≥ a.m))))) rfl .nil) (.one (.c (.v _))))

theorem Z1C {f : Form} {m : Int} {r : Bound} (h : Z0c f m = some r) : Fn CX 17 [(.agg (vs (Form.cs f))), (vi m)] (.agg (vs (Bound.cs r))) := by
 refine Fn.ends Try.func17 rfl rfl rfl rfl rfl rfl ?_
 have H : Hs (⟨0, fun _ => .none⟩ : Heap) [] := Has.nil (Nat.le_refl _)
 generalize (⟨0, fun _ => .none⟩ : Heap) = σ at H ⊢
 unfold Z0c at h
 refine .then (.Z0 2 rfl H fun b1 σ H => (.boxH (cs := (vF f)) H (by omega) (by omega) rfl rfl rfl fun σ H => (.Zs (cs := [(.v (.int .i8 0)), (vi 0)]) H (by omega) (by omega) rfl rfl fun σ H => (.nila H fun H => (.then ?_)))))
 refine .Z0 7 rfl H fun b2 σ H => (.ZR (off := 0) (cs := (vF f)) H 1 rfl rfl rfl rfl rfl rfl rfl nofun rfl (.move (v := (vi m)) rfl rfl (.max2 rfl rfl rfl (.min2 rfl rfl rfl (.Z0d (cs := [(vi f.Period), (vi f.Count), (vl (cL Span.cs) f.Core), (vl Granule.cs f.Odd), (vi (iMin (iMax m (-4611686018427387904)) 4611686018427387904))]) rfl rfl ?_)))))
 refine .Zs (cs := [(vi 0), (vi 0), .nils, .nils, (vi 0)]) H (by omega) (by omega) rfl rfl fun σ H => (.ZV (off := 0) (cells' := [(vi f.Period), (vi f.Count), (vl (cL Span.cs) f.Core), (vl Granule.cs f.Odd), (vi (iMin (iMax m (-4611686018427387904)) 4611686018427387904))]) H 0 rfl rfl rfl rfl rfl rfl rfl rfl rfl nofun fun σ H => (.nila H fun H => (.then (.Z0 6 rfl H fun b3 σ H => (.ZR (off := 0) (cs := [(vi f.Period), (vi f.Count), (vl (cL Span.cs) f.Core), (vl Granule.cs f.Odd), (vi (iMin (iMax m (-4611686018427387904)) 4611686018427387904))]) H 0 rfl rfl rfl rfl rfl rfl rfl nofun rfl ?_)))))
 refine .Z7j (fs := [(.agg [(vi f.Period), (vi f.Count), (vl (cL Span.cs) f.Core), (vl Granule.cs f.Odd), (vi (iMin (iMax m (-4611686018427387904)) 4611686018427387904))])]) (cs := []) rfl rfl rfl rfl ?_
 obtain ⟨x1, q1, h⟩ := bind_some h
 refine .callH (ys := [(vi 2199023255553), (.clo 46 [(.agg [(vi f.Period), (vi f.Count), (vl (cL Span.cs) f.Core), (vl Granule.cs f.Odd), (vi (iMin (iMax m (-4611686018427387904)) 4611686018427387904))])] [])]) (r := (vi x1)) H rfl (Z4E (C := []) rfl (fun _ => rfl) (fun z0 y hz => (CloH.clo (Fn.toH (Z5R hz) _))) q1) .nil nofun rfl fun σ H => (.min2 rfl rfl rfl (.int (m := (iMin x1 2199023255552)) (m' := 1099511627776) (r := .int .i64 (w64 ((iMin x1 2199023255552) - 1099511627776))) rfl rfl rfl rfl rfl (.assign (v := (vi (w64 ((iMin x1 2199023255552) - 1099511627776)))) rfl rfl (.nila H fun H => (.then ?_)))))
 refine .then (.Z0 2 rfl H fun b4 σ H => (.move (v := (vi (w64 ((iMin x1 2199023255552) - 1099511627776)))) rfl rfl (.int (m := (w64 ((iMin x1 2199023255552) - 1099511627776))) (m' := (-1099511627776)) (r := .bool ((w64 ((iMin x1 2199023255552) - 1099511627776)) == (-1099511627776))) rfl rfl rfl rfl rfl (.nila H fun H => ?_))))
 refine .whether (v := ((w64 ((iMin x1 2199023255552) - 1099511627776)) == (-1099511627776))) rfl ?_ ?_ <;> intro hc1
 ·replace h := Z8 hc1 h
  refine .then (.Z0 2 rfl H fun b5 σ H => (.Z0d (cs := [(.v (.int .i8 (-1))), (vi 0)]) rfl rfl (.ZV (off := 0) (cells' := [(.v (.int .i8 (-1))), (vi 0)]) H 1 rfl rfl rfl rfl rfl rfl rfl rfl rfl nofun fun σ H => (.nila H fun H => (.ret ?_)))))
  replace h := sj h; subst h
  exact (Ends.H (xs := [(.agg [(.v (.int .i8 (-1))), (vi 0)])]) (.inr rfl) H (.agg (cs := [(.v (.int .i8 (-1))), (vi 0)]) (off := 0) 1 rfl rfl rfl rfl rfl rfl rfl .nil) (.one (.p rfl)))
 ·replace h := Z7 hc1 h
  refine .skip (.then (.Z0 3 rfl H fun b6 σ H => (.move (v := (vi (w64 ((iMin x1 2199023255552) - 1099511627776)))) rfl rfl (.Z0d (cs := [(.v (.int .i8 0)), (vi (w64 ((iMin x1 2199023255552) - 1099511627776)))]) rfl rfl (.ZV (off := 0) (cells' := [(.v (.int .i8 0)), (vi (w64 ((iMin x1 2199023255552) - 1099511627776)))]) H 1 rfl rfl rfl rfl rfl rfl rfl rfl rfl nofun fun σ H => ?_)))))
  refine .nila H fun H => (.ret ?_)
  replace h := sj h; subst h
  exact (Ends.H (xs := [(.agg [(.v (.int .i8 0)), (vi (w64 ((iMin x1 2199023255552) - 1099511627776)))])]) (.inr rfl) H (.agg (cs := [(.v (.int .i8 0)), (vi (w64 ((iMin x1 2199023255552) - 1099511627776)))]) (off := 0) 1 rfl rfl rfl rfl rfl rfl rfl .nil) (.one (.p rfl)))

theorem Z4i {a : Bound} {r : Bool} (h : ZS a = r) : Fn CX 23 [(.agg (vs (Bound.cs a)))] (vb r) := by
 refine Fn.ends Try.func23 rfl rfl rfl rfl rfl rfl ?_
 have H : Hs (⟨0, fun _ => .none⟩ : Heap) [] := Has.nil (Nat.le_refl _)
 generalize (⟨0, fun _ => .none⟩ : Heap) = σ at H ⊢
 unfold ZS at h
 refine .then (.Z0 2 rfl H fun b1 σ H => (.boxH (cs := [(.v (.int .i8 a.Inf)), (vi a.N)]) H (by omega) (by omega) rfl rfl rfl fun σ H => (.assign (v := (vb false)) rfl rfl (.nila H fun H => (.then ?_)))))
 refine .Z0 19 rfl H fun b2 σ H => (.Z2 (off := 0) (fo := 0) H 0 rfl rfl rfl rfl rfl nofun rfl (.ZA (off := 0) (v := (.v (.int .i8 a.Inf))) H 0 rfl rfl rfl rfl rfl nofun rfl (.int (m := a.Inf) (m' := 0) (r := .bool (a.Inf == 0)) rfl rfl rfl rfl rfl (.move (v := (vb (a.Inf == 0))) rfl rfl ?_))))
 refine .mid 14 (K1 := fun e σ => Z4 e [(20, (vb ((a.Inf == 0) || (((a.Inf == 1) || (a.Inf == (-1))) && (a.N == 0)))))] ∧ Has σ (b2 + 18) (b2 + 19) []) rfl ?_ ?_
 ·refine .split rfl rfl ?_ ?_ <;> intro hc1
  ·skip
   refine .pass rfl rfl rfl (.pass rfl rfl rfl (.pass rfl rfl rfl (.pass rfl rfl rfl (.Z0R rfl rfl rfl (.Z0R rfl rfl rfl ?_)))))
   refine .Z0R rfl rfl rfl (.pass rfl rfl rfl (.pass rfl rfl rfl (.Z0R rfl rfl rfl (.Z0R rfl rfl rfl (.Z0R rfl rfl rfl ?_)))))
   refine .pass rfl rfl rfl (.Zd (v := (vb true)) rfl rfl rfl (.nil ?_))
   exact ⟨⟨or_T hc1, trivial⟩, (H.erase 0).weak (by omega) (Nat.le_refl _)⟩
  ·skip
   refine .wanted rfl rfl (.Z2 (off := 0) (fo := 0) H 0 rfl rfl rfl rfl rfl nofun rfl (.wanted rfl rfl (.ZA (off := 0) (v := (.v (.int .i8 a.Inf))) H 0 rfl rfl rfl rfl rfl nofun rfl (.wanted rfl rfl (.int (m := a.Inf) (m' := 1) (r := .bool (a.Inf == 1)) rfl rfl rfl rfl rfl ?_)))))
   refine .wanted rfl rfl (.move (v := (vb (a.Inf == 1))) rfl rfl ?_)
   refine .mid 4 (K1 := fun e σ => Z4 e [(14, (vb ((a.Inf == 1) || (a.Inf == (-1))))), (1, (.ptr (b1 + 0) 2 0)), (6, (vb false))] ∧ Has σ (b2 + 12) (b2 + 19) [.blk (b1 + 0) 32 [(.v (.int .i8 a.Inf)), (vi a.N)]]) rfl ?_ ?_
   ·refine .split rfl rfl ?_ ?_ <;> intro hc2
    ·skip
     refine .pass rfl rfl rfl (.pass rfl rfl rfl (.pass rfl rfl rfl (.wanted rfl rfl (.Zd (v := (vb true)) rfl rfl rfl (.nil ?_)))))
     exact ⟨⟨or_T hc2, rfl, rfl, trivial⟩, H.weak (by omega) (Nat.le_refl _)⟩
    ·skip
     refine .wanted rfl rfl (.Z2 (off := 0) (fo := 0) H 0 rfl rfl rfl rfl rfl nofun rfl (.wanted rfl rfl (.ZA (off := 0) (v := (.v (.int .i8 a.Inf))) H 0 rfl rfl rfl rfl rfl nofun rfl (.wanted rfl rfl (.int (m := a.Inf) (m' := (-1)) (r := .bool (a.Inf == (-1))) rfl rfl rfl rfl rfl ?_)))))
     refine .wanted rfl rfl (.Zf (v := (vb (a.Inf == (-1)))) rfl rfl rfl (.nil ?_))
     exact ⟨⟨or_F hc2, rfl, rfl, trivial⟩, H.weak (by omega) (Nat.le_refl _)⟩
   ·rintro e σ ⟨he, H⟩
    obtain ⟨e, rfl⟩ := he.ex
    refine .wanted rfl rfl (.move (v := (vb ((a.Inf == 1) || (a.Inf == (-1))))) rfl rfl ?_)
    refine .mid 4 (K1 := fun e σ => Z4 e [(19, (vb (((a.Inf == 1) || (a.Inf == (-1))) && (a.N == 0)))), (6, (vb false))] ∧ Has σ (b2 + 17) (b2 + 19) []) rfl ?_ ?_
    ·refine .split rfl rfl ?_ ?_ <;> intro hc3
     ·skip
      refine .wanted rfl rfl (.Z2 (off := 0) (fo := 1) H 0 rfl rfl rfl rfl rfl nofun rfl (.wanted rfl rfl (.ZA (off := 1) (v := (vi a.N)) H 0 rfl rfl rfl rfl rfl nofun rfl (.wanted rfl rfl (.int (m := a.N) (m' := 0) (r := .bool (a.N == 0)) rfl rfl rfl rfl rfl ?_)))))
      refine .wanted rfl rfl (.Zd (v := (vb (a.N == 0))) rfl rfl rfl (.nil ?_))
      exact ⟨⟨Z2E hc3, rfl, trivial⟩, (H.erase 0).weak (by omega) (Nat.le_refl _)⟩
     ·skip
      refine .pass rfl rfl rfl (.pass rfl rfl rfl (.pass rfl rfl rfl (.wanted rfl rfl (.Zf (v := (vb false)) rfl rfl rfl (.nil ?_)))))
      exact ⟨⟨Z2H hc3, rfl, trivial⟩, (H.erase 0).weak (by omega) (Nat.le_refl _)⟩
    ·rintro e σ ⟨he, H⟩
     obtain ⟨e, rfl⟩ := he.ex
     refine .Zf (v := (vb (((a.Inf == 1) || (a.Inf == (-1))) && (a.N == 0)))) rfl rfl rfl (.nil ?_)
     exact ⟨⟨or_F hc1, trivial⟩, H.weak (by omega) (Nat.le_refl _)⟩
 ·rintro e σ ⟨he, H⟩
  obtain ⟨e, rfl⟩ := he.ex
  refine .assign (v := (vb ((a.Inf == 0) || (((a.Inf == 1) || (a.Inf == (-1))) && (a.N == 0))))) rfl rfl (.nila H fun H => (.ret ?_))
  subst h
  exact (Ends.H (xs := [(vb ((a.Inf == 0) || (((a.Inf == 1) || (a.Inf == (-1))) && (a.N == 0))))]) (.inr rfl) H (.tmp (v := (vb ((a.Inf == 0) || (((a.Inf == 1) || (a.Inf == (-1))) && (a.N == 0))))) rfl .nil) (.one (.c (.v _))))

theorem safe_Sub_fn {a : Int} {b : Int} {r : Int × Int} (h : Z07 a b = r) : Fn CX 47 [(vi a), (vi b)] (.tup [(vi r.1), (vi r.2)]) := by
 refine Fn.ends Try.func47 rfl rfl rfl rfl rfl rfl ?_
 have H : Hs (⟨0, fun _ => .none⟩ : Heap) [] := Has.nil (Nat.le_refl _)
 generalize (⟨0, fun _ => .none⟩ : Heap) = σ at H ⊢
 unfold Z07 at h
 refine .then (.Z0 2 rfl H fun b1 σ H => (.assign (v := (vi 0)) rfl rfl (.assign (v := (vi 0)) rfl rfl (.nila H fun H => (.then ?_)))))
 refine .Z0 4 rfl H fun b2 σ H => (.move (v := (vi a)) rfl rfl (.move (v := (vi b)) rfl rfl (.int (m := a) (m' := b) (r := .int .i64 (w64 (a - b))) rfl rfl rfl rfl rfl (.assign (v := (vi (w64 (a - b)))) rfl rfl (.nila H fun H => ?_)))))
 refine .then (.then (.Z0 10 rfl H fun b3 σ H => (.move (v := (vi (w64 (a - b)))) rfl rfl (.move (v := (vi a)) rfl rfl (.int (m := (w64 (a - b))) (m' := a) (r := .bool (decide ((w64 (a - b)) < a))) rfl rfl rfl rfl rfl ?_)))))
 refine .move (v := (vi b)) rfl rfl (.int (m := b) (m' := 0) (r := .bool (decide (b > 0))) rfl rfl rfl rfl rfl (.neB (b := (decide ((w64 (a - b)) < a))) (b' := (decide (b > 0))) rfl rfl rfl rfl (.move (v := (vb ((decide ((w64 (a - b)) < a)) != (decide (b > 0))))) rfl rfl ?_)))
 refine .mid 3 (K1 := fun e σ => Z4 e [(19, (vb (((decide ((w64 (a - b)) < a)) != (decide (b > 0))) && (b != 0)))), (6, (vi (w64 (a - b))))] ∧ Has σ (b3 + 10) (b3 + 10) []) rfl ?_ ?_
 ·refine .split rfl rfl ?_ ?_ <;> intro hc1
  ·skip
   refine .wanted rfl rfl (.move (v := (vi b)) rfl rfl (.wanted rfl rfl (.int (m := b) (m' := 0) (r := .bool (b != 0)) rfl rfl rfl rfl rfl (.Zd (v := (vb (b != 0))) rfl rfl rfl (.nil ?_)))))
   exact ⟨⟨Z2E hc1, rfl, trivial⟩, H.weak (by omega) (Nat.le_refl _)⟩
  ·skip
   refine .pass rfl rfl rfl (.pass rfl rfl rfl (.Zf (v := (vb false)) rfl rfl rfl (.nil ?_)))
   exact ⟨⟨Z2H hc1, rfl, trivial⟩, H.weak (by omega) (Nat.le_refl _)⟩
 ·rintro e σ ⟨he, H⟩
  obtain ⟨e, rfl⟩ := he.ex
  refine .nila H fun H => ?_
  refine .whether (v := (((decide ((w64 (a - b)) < a)) != (decide (b > 0))) && (b != 0))) rfl ?_ ?_ <;> intro hc2
  ·replace h := Z8 hc2 h
   refine .then (.Z0 2 rfl H fun b4 σ H => (.assign (v := (vi 0)) rfl rfl (.assign (v := (vi 10)) rfl rfl (.nila H fun H => (.ret ?_)))))
   subst h
   exact (Ends.H (xs := [(vi 0), (vi 10)]) (.inr rfl) H (.tmp (v := (vi 0)) rfl (.tmp (v := (vi 10)) rfl .nil)) (.two (.cons (.c (.v _)) (.cons (.c (.v _)) .nil))))
  ·replace h := Z7 hc2 h
   refine .skip (.then (.Z0 3 rfl H fun b5 σ H => (.move (v := (vi (w64 (a - b)))) rfl rfl (.assign (v := (vi (w64 (a - b)))) rfl rfl (.assign (v := (vi 0)) rfl rfl ?_)))))
   refine .nila H fun H => (.ret ?_)
   subst h
   exact (Ends.H (xs := [(vi (w64 (a - b))), (vi 0)]) (.inr rfl) H (.tmp (v := (vi (w64 (a - b)))) rfl (.tmp (v := (vi 0)) rfl .nil)) (.two (.cons (.c (.v _)) (.cons (.c (.v _)) .nil))))

theorem Z6i {a : Bound} {r : Bound × Int} (h : ZE a = r) : Fn CX 20 [(.agg (vs (Bound.cs a)))] (.tup [(.agg (vs (Bound.cs r.1))), (vi r.2)]) := by
 refine Fn.ends Try.func20 rfl rfl rfl rfl rfl rfl ?_
 have H : Hs (⟨0, fun _ => .none⟩ : Heap) [] := Has.nil (Nat.le_refl _)
 generalize (⟨0, fun _ => .none⟩ : Heap) = σ at H ⊢
 unfold ZE at h
 refine .then (.Z0 3 rfl H fun b1 σ H => (.boxH (cs := [(.v (.int .i8 a.Inf)), (vi a.N)]) H (by omega) (by omega) rfl rfl rfl fun σ H => (.Zs (cs := [(.v (.int .i8 0)), (vi 0)]) H (by omega) (by omega) rfl rfl fun σ H => (.assign (v := (vi 0)) rfl rfl (.nila H fun H => ?_)))))
 refine .then (.then (.Z0 3 rfl H fun b2 σ H => (.ZR (off := 0) (cs := [(.v (.int .i8 a.Inf)), (vi a.N)]) H 1 rfl rfl rfl rfl rfl rfl rfl nofun rfl (.call (ys := [(.agg [(.v (.int .i8 a.Inf)), (vi a.N)])]) (r := (vb (ZS a))) rfl (Z4i (rfl : ZS a = _)) rfl (.not (b := (ZS a)) rfl rfl ?_)))))
 refine .nila H fun H => ?_
 refine .whether (v := (!(ZS a))) rfl ?_ ?_ <;> intro hc1
 ·replace h := Z8 hc1 h
  refine .then (.Z0 3 rfl H fun b3 σ H => (.Z0d (cs := [(.v (.int .i8 0)), (vi 0)]) rfl rfl (.ZV (off := 0) (cells' := [(.v (.int .i8 0)), (vi 0)]) H 0 rfl rfl rfl rfl rfl rfl rfl rfl rfl nofun fun σ H => (.assign (v := (vi 2)) rfl rfl (.nila H fun H => ?_)))))
  refine .ret ?_
  subst h
  exact (Ends.H (xs := [(.agg [(.v (.int .i8 0)), (vi 0)]), (vi 2)]) (.inr rfl) H (.agg (cs := [(.v (.int .i8 0)), (vi 0)]) (off := 0) 0 rfl rfl rfl rfl rfl rfl rfl (.tmp (v := (vi 2)) rfl .nil)) (.two (.cons (.p rfl) (.cons (.c (.v _)) .nil))))
 ·replace h := Z7 hc1 h
  refine .skip (.then (.Z0 8 rfl H fun b4 σ H => (.Z2 (off := 0) (fo := 1) H 1 rfl rfl rfl rfl rfl nofun rfl (.ZA (off := 1) (v := (vi a.N)) H 1 rfl rfl rfl rfl rfl nofun rfl (.call (ys := [(vi 0), (vi a.N)]) (r := (.tup [(vi (Z07 0 a.N).1), (vi (Z07 0 a.N).2)])) rfl (safe_Sub_fn rfl) rfl ?_)))))
  refine .move (v := (.tup [(vi (Z07 0 a.N).1), (vi (Z07 0 a.N).2)])) rfl rfl (.extract (v := (vi (Z07 0 a.N).1)) rfl rfl rfl (.extract (v := (vi (Z07 0 a.N).2)) rfl rfl rfl (.assign (v := (vi (Z07 0 a.N).1)) rfl rfl (.assign (v := (vi (Z07 0 a.N).2)) rfl rfl (.nila H fun H => ?_)))))
  refine .then (.then (.Z0 2 rfl H fun b5 σ H => (.move (v := (vi (Z07 0 a.N).2)) rfl rfl (.int (m := (Z07 0 a.N).2) (m' := 0) (r := .bool (((Z07 0 a.N).2) != 0)) rfl rfl rfl rfl rfl (.nila H fun H => ?_)))))
  refine .whether (v := (((Z07 0 a.N).2) != 0)) rfl ?_ ?_ <;> intro hc2
  ·replace h := Z8 hc2 h
   refine .then (.Z0 4 rfl H fun b6 σ H => (.Z0d (cs := [(.v (.int .i8 0)), (vi 0)]) rfl rfl (.move (v := (vi (Z07 0 a.N).2)) rfl rfl (.ZV (off := 0) (cells' := [(.v (.int .i8 0)), (vi 0)]) H 0 rfl rfl rfl rfl rfl rfl rfl rfl rfl nofun fun σ H => (.assign (v := (vi (Z07 0 a.N).2)) rfl rfl ?_)))))
   refine .nila H fun H => (.ret ?_)
   subst h
   exact (Ends.H (xs := [(.agg [(.v (.int .i8 0)), (vi 0)]), (vi (Z07 0 a.N).2)]) (.inr rfl) H (.agg (cs := [(.v (.int .i8 0)), (vi 0)]) (off := 0) 0 rfl rfl rfl rfl rfl rfl rfl (.tmp (v := (vi (Z07 0 a.N).2)) rfl .nil)) (.two (.cons (.p rfl) (.cons (.c (.v _)) .nil))))
  ·replace h := Z7 hc2 h
   refine .skip (.then (.Z0 7 rfl H fun b7 σ H => (.Z2 (off := 0) (fo := 0) H 1 rfl rfl rfl rfl rfl nofun rfl (.ZA (off := 0) (v := (.v (.int .i8 a.Inf))) H 1 rfl rfl rfl rfl rfl nofun rfl (.neg (m := a.Inf) rfl rfl ?_)))))
   refine .move (v := (vi (Z07 0 a.N).1)) rfl rfl (.Z0d (cs := [(.v (.int .i8 (IntKind.i8.wrap (0 - a.Inf)))), (vi (Z07 0 a.N).1)]) rfl rfl (.ZV (off := 0) (cells' := [(.v (.int .i8 (IntKind.i8.wrap (0 - a.Inf)))), (vi (Z07 0 a.N).1)]) H 0 rfl rfl rfl rfl rfl rfl rfl rfl rfl nofun fun σ H => (.assign (v := (vi 0)) rfl rfl (.nila H fun H => (.ret ?_)))))
   subst h
   exact (Ends.H (xs := [(.agg [(.v (.int .i8 (IntKind.i8.wrap (0 - a.Inf)))), (vi (Z07 0 a.N).1)]), (vi 0)]) (.inr rfl) H (.agg (cs := [(.v (.int .i8 (IntKind.i8.wrap (0 - a.Inf)))), (vi (Z07 0 a.N).1)]) (off := 0) 0 rfl rfl rfl rfl rfl rfl rfl (.tmp (v := (vi 0)) rfl .nil)) (.two (.cons (.p rfl) (.cons (.c (.v _)) .nil))))

theorem Z1e {f : Form} {n : Int} {r : Bound} (h : Z0h f n = some r) : Fn CX 18 [(.agg (vs (Form.cs f))), (vi n)] (.agg (vs (Bound.cs r))) := by
 refine Fn.ends Try.func18 rfl rfl rfl rfl rfl rfl ?_
 have H : Hs (⟨0, fun _ => .none⟩ : Heap) [] := Has.nil (Nat.le_refl _)
 generalize (⟨0, fun _ => .none⟩ : Heap) = σ at H ⊢
 unfold Z0h at h
 refine .then (.Z0 2 rfl H fun b1 σ H => (.boxH (cs := (vF f)) H (by omega) (by omega) rfl rfl rfl fun σ H => (.Zs (cs := [(.v (.int .i8 0)), (vi 0)]) H (by omega) (by omega) rfl rfl fun σ H => (.nila H fun H => (.then ?_)))))
 refine .Z0 12 rfl H fun b2 σ H => (.ZR (off := 0) (cs := (vF f)) H 1 rfl rfl rfl rfl rfl rfl rfl nofun rfl (.move (v := (vi n)) rfl rfl (.max2 rfl rfl rfl (.neg (m := (iMax n (-4611686018427387904))) rfl rfl ?_))))
 obtain ⟨x1, q1, h⟩ := bind_some h
 refine .call (ys := [(.agg (vF f)), (vi (w64 (0 - (iMax n (-4611686018427387904)))))]) (r := (.agg [(.v (.int .i8 x1.Inf)), (vi x1.N)])) rfl (Z1C q1) rfl (.call (ys := [(.agg [(.v (.int .i8 x1.Inf)), (vi x1.N)])]) (r := (.tup [(.agg [(.v (.int .i8 (ZE x1).1.Inf)), (vi (ZE x1).1.N)]), (vi (ZE x1).2)])) rfl (Z6i (rfl : ZE x1 = _)) rfl (.move (v := (.tup [(.agg [(.v (.int .i8 (ZE x1).1.Inf)), (vi (ZE x1).1.N)]), (vi (ZE x1).2)])) rfl rfl (.extract (v := (.agg [(.v (.int .i8 (ZE x1).1.Inf)), (vi (ZE x1).1.N)])) rfl rfl rfl (.extract (v := (vi (ZE x1).2)) rfl rfl rfl (.Zs (cs := [(.v (.int .i8 0)), (vi 0)]) H (by omega) (by omega) rfl rfl fun σ H => ?_)))))
 refine .ZV (off := 0) (cells' := [(.v (.int .i8 (ZE x1).1.Inf)), (vi (ZE x1).1.N)]) H 0 rfl rfl rfl rfl rfl rfl rfl rfl rfl nofun fun σ H => (.assign (v := (vi (ZE x1).2)) rfl rfl (.nila H fun H => (.then (.Z0 2 rfl H fun b3 σ H => (.ZR (off := 0) (cs := [(.v (.int .i8 (ZE x1).1.Inf)), (vi (ZE x1).1.N)]) H 0 rfl rfl rfl rfl rfl rfl rfl nofun rfl ?_)))))
 refine .ZV (off := 0) (cells' := [(.v (.int .i8 (ZE x1).1.Inf)), (vi (ZE x1).1.N)]) H 1 rfl rfl rfl rfl rfl rfl rfl rfl rfl nofun fun σ H => (.nila H fun H => (.ret ?_))
 replace h := sj h; subst h
 exact (Ends.H (xs := [(.agg [(.v (.int .i8 (ZE x1).1.Inf)), (vi (ZE x1).1.N)])]) (.inr rfl) H (.agg (cs := [(.v (.int .i8 (ZE x1).1.Inf)), (vi (ZE x1).1.N)]) (off := 0) 1 rfl rfl rfl rfl rfl rfl rfl .nil) (.one (.p rfl)))

theorem Z9n {f : Form} {r' : Range} {r : Bound × Bound} (h : Z3c f r' = some r) : Fn CX 16 [(.agg (vs (Form.cs f))), (.agg (vs (Range.cs r')))] (.tup [(.agg (vs (Bound.cs r.1))), (.agg (vs (Bound.cs r.2)))]) := by
 refine Fn.ends Try.func16 rfl rfl rfl rfl rfl rfl ?_
 have H : Hs (⟨0, fun _ => .none⟩ : Heap) [] := Has.nil (Nat.le_refl _)
 generalize (⟨0, fun _ => .none⟩ : Heap) = σ at H ⊢
 unfold Z3c at h
 refine .then (.Z0 4 rfl H fun b1 σ H => (.boxH (cs := (vF f)) H (by omega) (by omega) rfl rfl rfl fun σ H => (.boxH (cs := [(vi r'.Low), (vi r'.High), (vb r'.HasLow), (vb r'.HasHigh)]) H (by omega) (by omega) rfl rfl rfl fun σ H => (.Zs (cs := [(.v (.int .i8 0)), (vi 0)]) H (by omega) (by omega) rfl rfl fun σ H => (.Zs (cs := [(.v (.int .i8 0)), (vi 0)]) H (by omega) (by omega) rfl rfl fun σ H => ?_)))))
 refine .nila H fun H => (.then (.Z0 6 rfl H fun b2 σ H => (.Z0d (cs := [(.v (.int .i8 (-1))), (vi 0)]) rfl rfl (.Z0d (cs := [(.v (.int .i8 1)), (vi 0)]) rfl rfl (.Zs (cs := [(.v (.int .i8 0)), (vi 0)]) H (by omega) (by omega) rfl rfl fun σ H => ?_)))))
 refine .Zs (cs := [(.v (.int .i8 0)), (vi 0)]) H (by omega) (by omega) rfl rfl fun σ H => (.ZV (off := 0) (cells' := [(.v (.int .i8 (-1))), (vi 0)]) H 1 rfl rfl rfl rfl rfl rfl rfl rfl rfl nofun fun σ H => (.ZV (off := 0) (cells' := [(.v (.int .i8 1)), (vi 0)]) H 0 rfl rfl rfl rfl rfl rfl rfl rfl rfl nofun fun σ H => (.nila H fun H => (.then ?_))))
 obtain ⟨y1, hj1, h⟩ := bind_some h
 refine .mono (Q := fun x e σ => x = .normal ∧ Z4 e [(2, (.ptr (b1 + 0) 4 0)), (3, (.ptr (b1 + 1) 4 0)), (4, (.ptr (b1 + 2) 2 0)), (5, (.ptr (b1 + 3) 2 0)), (6, (.ptr (b2 + 2) 2 0)), (7, (.ptr (b2 + 3) 2 0))] ∧ Hs σ [.blk (b2 + 3) 32 [(.v (.int .i8 1)), (vi 0)], .blk (b2 + 2) 32 [(.v (.int .i8 y1.1)), (vi y1.2)], .blk (b1 + 3) 32 [(.v (.int .i8 0)), (vi 0)], .blk (b1 + 2) 32 [(.v (.int .i8 0)), (vi 0)], .blk (b1 + 1) 27 [(vi r'.Low), (vi r'.High), (vb r'.HasLow), (vb r'.HasHigh)], .blk (b1 + 0) 25 (vF f)]) ?_ ?_
 ·replace h := hj1
  refine .then (.Z0 2 rfl H fun b3 σ H => (.Z2 (off := 0) (fo := 2) H 4 rfl rfl rfl rfl rfl nofun rfl (.ZA (off := 2) (v := (vb r'.HasLow)) H 4 rfl rfl rfl rfl rfl nofun rfl (.nila H fun H => ?_))))
  refine .whether (v := r'.HasLow) rfl ?_ ?_ <;> intro hc1
  ·replace h := Z8 hc1 h
   refine .Z0 5 rfl H fun b4 σ H => (.ZR (off := 0) (cs := (vF f)) H 5 rfl rfl rfl rfl rfl rfl rfl nofun rfl (.Z2 (off := 0) (fo := 0) H 4 rfl rfl rfl rfl rfl nofun rfl (.ZA (off := 0) (v := (vi r'.Low)) H 4 rfl rfl rfl rfl rfl nofun rfl ?_)))
   obtain ⟨x1, q1, h⟩ := bind_some h
   refine .call (ys := [(.agg (vF f)), (vi r'.Low)]) (r := (.agg [(.v (.int .i8 x1.Inf)), (vi x1.N)])) rfl (Z1C q1) rfl (.ZV (off := 0) (cells' := [(.v (.int .i8 x1.Inf)), (vi x1.N)]) H 1 rfl rfl rfl rfl rfl rfl rfl rfl rfl nofun fun σ H => (.nila H fun H => ?_))
   replace h := sj h; subst h
   exact ⟨rfl, ⟨rfl, rfl, rfl, rfl, rfl, rfl, trivial⟩, H⟩
  ·replace h := Z7 hc1 h
   refine .skip ?_
   replace h := sj h; subst h
   exact ⟨rfl, ⟨rfl, rfl, rfl, rfl, rfl, rfl, trivial⟩, H⟩
 ·rintro x e σ ⟨rfl, he, H⟩
  obtain ⟨e, rfl⟩ := he.ex
  refine .then ?_
  obtain ⟨y2, hj2, h⟩ := bind_some h
  refine .mono (Q := fun x e σ => x = .normal ∧ Z4 e [(4, (.ptr (b1 + 2) 2 0)), (5, (.ptr (b1 + 3) 2 0)), (6, (.ptr (b2 + 2) 2 0)), (7, (.ptr (b2 + 3) 2 0))] ∧ Hs σ [.blk (b2 + 3) 32 [(.v (.int .i8 y2.1)), (vi y2.2)], .blk (b2 + 2) 32 [(.v (.int .i8 y1.1)), (vi y1.2)], .blk (b1 + 3) 32 [(.v (.int .i8 0)), (vi 0)], .blk (b1 + 2) 32 [(.v (.int .i8 0)), (vi 0)]]) ?_ ?_
  ·replace h := hj2
   refine .then (.Z0 2 rfl H fun b5 σ H => (.Z2 (off := 0) (fo := 3) H 4 rfl rfl rfl rfl rfl nofun rfl (.ZA (off := 3) (v := (vb r'.HasHigh)) H 4 rfl rfl rfl rfl rfl nofun rfl (.nila H fun H => ?_))))
   refine .whether (v := r'.HasHigh) rfl ?_ ?_ <;> intro hc2
   ·replace h := Z8 hc2 h
    refine .Z0 5 rfl H fun b6 σ H => (.ZR (off := 0) (cs := (vF f)) H 5 rfl rfl rfl rfl rfl rfl rfl nofun rfl (.Z2 (off := 0) (fo := 1) H 4 rfl rfl rfl rfl rfl nofun rfl (.ZA (off := 1) (v := (vi r'.High)) H 4 rfl rfl rfl rfl rfl nofun rfl ?_)))
    obtain ⟨x2, q2, h⟩ := bind_some h
    refine .call (ys := [(.agg (vF f)), (vi r'.High)]) (r := (.agg [(.v (.int .i8 x2.Inf)), (vi x2.N)])) rfl (Z1e q2) rfl (.ZV (off := 0) (cells' := [(.v (.int .i8 x2.Inf)), (vi x2.N)]) H 0 rfl rfl rfl rfl rfl rfl rfl rfl rfl nofun fun σ H => (.nila H fun H => ?_))
    replace h := sj h; subst h
    exact ⟨rfl, ⟨rfl, rfl, rfl, rfl, trivial⟩, ((H.erase 5).erase 4)⟩
   ·replace h := Z7 hc2 h
    refine .skip ?_
    replace h := sj h; subst h
    exact ⟨rfl, ⟨rfl, rfl, rfl, rfl, trivial⟩, ((H.erase 5).erase 4)⟩
  ·rintro x e σ ⟨rfl, he, H⟩
   obtain ⟨e, rfl⟩ := he.ex
   refine .then (.Z0u 4 rfl (by kernel_rfl) H fun b7 σ H B7 => (.ZR (off := 0) (cs := [(.v (.int .i8 y1.1)), (vi y1.2)]) H 1 rfl rfl rfl rfl rfl rfl rfl (fun _ => .inl ⟨B7 1 _ rfl _ rfl, nofun, (fun _ => by kernel_rfl)⟩) rfl (.ZR (off := 0) (cs := [(.v (.int .i8 y2.1)), (vi y2.2)]) H 0 rfl rfl rfl rfl rfl rfl rfl (fun _ => .inl ⟨B7 0 _ rfl _ rfl, nofun, (fun _ => by kernel_rfl)⟩) rfl (.ZV (off := 0) (cells' := [(.v (.int .i8 y1.1)), (vi y1.2)]) H 3 rfl rfl rfl rfl rfl rfl rfl rfl rfl (fun _ => .inl ⟨B7 3 _ rfl _ rfl, (fresh_else [1] (by kernel_rfl) (.cons rfl rfl (ne_one (H.ne (j := 3) (k := 0) rfl rfl rfl rfl rfl)) .nil))⟩) fun σ H => (.ZV (off := 0) (cells' := [(.v (.int .i8 y2.1)), (vi y2.2)]) H 2 rfl rfl rfl rfl rfl rfl rfl rfl rfl (fun _ => .inl ⟨B7 2 _ rfl _ rfl, (Z3m (by kernel_rfl))⟩) fun σ H => ?_)))))
   refine .nila H fun H => (.ret ?_)
   replace h := sj h; subst h
   exact (Ends.H (xs := [(.agg [(.v (.int .i8 y1.1)), (vi y1.2)]), (.agg [(.v (.int .i8 y2.1)), (vi y2.2)])]) (.inr rfl) H (.agg (cs := [(.v (.int .i8 y1.1)), (vi y1.2)]) (off := 0) 3 rfl rfl rfl rfl rfl rfl rfl (.agg (cs := [(.v (.int .i8 y2.1)), (vi y2.2)]) (off := 0) 2 rfl rfl rfl rfl rfl rfl rfl .nil)) (.two (.cons (.p rfl) (.cons (.p rfl) .nil))))

theorem Zt {n : Int} {r : Bound} (h : Z1 n = r) : Fn CX 42 [(vi n)] (.agg (vs (Bound.cs r))) := by
 refine Fn.ends Try.func42 rfl rfl rfl rfl rfl rfl ?_
 have H : Hs (⟨0, fun _ => .none⟩ : Heap) [] := Has.nil (Nat.le_refl _)
 generalize (⟨0, fun _ => .none⟩ : Heap) = σ at H ⊢
 unfold Z1 at h
 refine .then (.Z0 1 rfl H fun b1 σ H => (.Zs (cs := [(.v (.int .i8 0)), (vi 0)]) H (by omega) (by omega) rfl rfl fun σ H => (.nila H fun H => (.then (.Z0 3 rfl H fun b2 σ H => ?_)))))
 refine .move (v := (vi n)) rfl rfl (.Z0d (cs := [(.v (.int .i8 0)), (vi n)]) rfl rfl (.ZV (off := 0) (cells' := [(.v (.int .i8 0)), (vi n)]) H 0 rfl rfl rfl rfl rfl rfl rfl rfl rfl nofun fun σ H => (.nila H fun H => (.ret ?_))))
 subst h
 exact (Ends.H (xs := [(.agg [(.v (.int .i8 0)), (vi n)])]) (.inr rfl) H (.agg (cs := [(.v (.int .i8 0)), (vi n)]) (off := 0) 0 rfl rfl rfl rfl rfl rfl rfl .nil) (.one (.p rfl)))

theorem Z1o {low : Int} {high : Int} {r : Range} (h : Z6 low high = r) : Fn CX 28 [(vi low), (vi high)] (.agg (vs (Range.cs r))) := by
 refine Fn.ends Try.func28 rfl rfl rfl rfl rfl rfl ?_
 have H : Hs (⟨0, fun _ => .none⟩ : Heap) [] := Has.nil (Nat.le_refl _)
 generalize (⟨0, fun _ => .none⟩ : Heap) = σ at H ⊢
 unfold Z6 at h
 refine .then (.Z0 1 rfl H fun b1 σ H => (.Zs (cs := [(vi 0), (vi 0), (vb false), (vb false)]) H (by omega) (by omega) rfl rfl fun σ H => (.nila H fun H => (.then (.Z0 4 rfl H fun b2 σ H => ?_)))))
 refine .move (v := (vi low)) rfl rfl (.move (v := (vi high)) rfl rfl (.Z0d (cs := [(vi low), (vi high), (vb true), (vb true)]) rfl rfl (.ZV (off := 0) (cells' := [(vi low), (vi high), (vb true), (vb true)]) H 0 rfl rfl rfl rfl rfl rfl rfl rfl rfl nofun fun σ H => (.nila H fun H => (.ret ?_)))))
 subst h
 exact (Ends.H (xs := [(.agg [(vi low), (vi high), (vb true), (vb true)])]) (.inr rfl) H (.agg (cs := [(vi low), (vi high), (vb true), (vb true)]) (off := 0) 0 rfl rfl rfl rfl rfl rfl rfl .nil) (.one (.p rfl)))

theorem size_Up_fn {f : Form} {d : Int} {r : Int × Bool × Int} (h : Z7i f d = some r) : Fn CX 36 [(.agg (vs (Form.cs f))), (vi d)] (.tup [(vi r.1), (vb r.2.1), (vi r.2.2)]) := by
 refine Fn.ends Try.func36 rfl rfl rfl rfl rfl rfl ?_
 have H : Hs (⟨0, fun _ => .none⟩ : Heap) [] := Has.nil (Nat.le_refl _)
 generalize (⟨0, fun _ => .none⟩ : Heap) = σ at H ⊢
 unfold Z7i at h
 refine .then (.Z0 4 rfl H fun b1 σ H => (.boxH (cs := (vF f)) H (by omega) (by omega) rfl rfl rfl fun σ H => (.assign (v := (vi 0)) rfl rfl (.assign (v := (vb false)) rfl rfl (.assign (v := (vi 0)) rfl rfl ?_)))))
 refine .nila H fun H => (.then (.Z0 9 rfl H fun b2 σ H => (.ZR (off := 0) (cs := (vF f)) H 0 rfl rfl rfl rfl rfl rfl rfl nofun rfl (.move (v := (vi d)) rfl rfl ?_))))
 obtain ⟨x1, q1, h⟩ := bind_some h
 refine .call (ys := [(.agg (vF f)), (vi d), (vb true)]) (r := (.tup [(vi x1.1), (vb x1.2.1), (vi x1.2.2)])) rfl (Z8k q1) rfl (.extract (v := (vi x1.1)) rfl rfl rfl (.extract (v := (vb x1.2.1)) rfl rfl rfl (.extract (v := (vi x1.2.2)) rfl rfl rfl (.assign (v := (vi x1.1)) rfl rfl (.assign (v := (vb x1.2.1)) rfl rfl ?_)))))
 refine .assign (v := (vi x1.2.2)) rfl rfl (.nila H fun H => (.ret ?_))
 replace h := sj h; subst h
 exact (Ends.H (xs := [(vi x1.1), (vb x1.2.1), (vi x1.2.2)]) (.inr rfl) H (.tmp (v := (vi x1.1)) rfl (.tmp (v := (vb x1.2.1)) rfl (.tmp (v := (vi x1.2.2)) rfl .nil))) (.two (.cons (.c (.v _)) (.cons (.c (.v _)) (.cons (.c (.v _)) .nil)))))

theorem Z9b {f : Form} {low : Bound} {high : Bound} {r : Range × Bool × Int} (h : Z1W f low high = some r) : Fn CX 22 [(.agg (vs (Form.cs f))), (.agg (vs (Bound.cs low))), (.agg (vs (Bound.cs high)))] (.tup [(.agg (vs (Range.cs r.1))), (vb r.2.1), (vi r.2.2)]) := by
 refine Fn.ends Try.func22 rfl rfl rfl rfl rfl rfl ?_
 have H : Hs (⟨0, fun _ => .none⟩ : Heap) [] := Has.nil (Nat.le_refl _)
 generalize (⟨0, fun _ => .none⟩ : Heap) = σ at H ⊢
 unfold Z1W at h
 refine .then (.Z0 6 rfl H fun b1 σ H => (.boxH (cs := (vF f)) H (by omega) (by omega) rfl rfl rfl fun σ H => (.boxH (cs := [(.v (.int .i8 low.Inf)), (vi low.N)]) H (by omega) (by omega) rfl rfl rfl fun σ H => (.boxH (cs := [(.v (.int .i8 high.Inf)), (vi high.N)]) H (by omega) (by omega) rfl rfl rfl fun σ H => (.Zs (cs := [(vi 0), (vi 0), (vb false), (vb false)]) H (by omega) (by omega) rfl rfl fun σ H => ?_)))))
 refine .assign (v := (vb false)) rfl rfl (.assign (v := (vi 0)) rfl rfl (.nila H fun H => (.then (.then (.Z0 18 rfl H fun b2 σ H => ?_)))))
 refine .ZR (off := 0) (cs := [(.v (.int .i8 low.Inf)), (vi low.N)]) H 2 rfl rfl rfl rfl rfl rfl rfl nofun rfl (.call (ys := [(.agg [(.v (.int .i8 low.Inf)), (vi low.N)])]) (r := (vb (ZS low))) rfl (Z4i (rfl : ZS low = _)) rfl (.not (b := (ZS low)) rfl rfl (.move (v := (vb (!(ZS low)))) rfl rfl ?_)))
 refine .mid 4 (K1 := fun e σ => Z4 e [(23, (vb ((!(ZS low)) || (!(ZS high))))), (3, (.ptr (b1 + 0) 4 0)), (4, (.ptr (b1 + 1) 2 0)), (5, (.ptr (b1 + 2) 2 0)), (6, (.ptr (b1 + 3) 4 0))] ∧ Has σ (b2 + 8) (b2 + 18) [.blk (b1 + 3) 27 [(vi 0), (vi 0), (vb false), (vb false)], .blk (b1 + 2) 32 [(.v (.int .i8 high.Inf)), (vi high.N)], .blk (b1 + 1) 32 [(.v (.int .i8 low.Inf)), (vi low.N)], .blk (b1 + 0) 25 (vF f)]) rfl ?_ ?_
 ·refine .split rfl rfl ?_ ?_ <;> intro hc1
  ·skip
   refine .pass rfl rfl rfl (.pass rfl rfl rfl (.pass rfl rfl rfl (.Zd (v := (vb true)) rfl rfl rfl (.nil ?_))))
   exact ⟨⟨or_T hc1, rfl, rfl, rfl, rfl, trivial⟩, H.weak (by omega) (Nat.le_refl _)⟩
  ·skip
   refine .wanted rfl rfl (.ZR (off := 0) (cs := [(.v (.int .i8 high.Inf)), (vi high.N)]) H 1 rfl rfl rfl rfl rfl rfl rfl nofun rfl (.wanted rfl rfl (.call (ys := [(.agg [(.v (.int .i8 high.Inf)), (vi high.N)])]) (r := (vb (ZS high))) rfl (Z4i (rfl : ZS high = _)) rfl (.wanted rfl rfl (.not (b := (ZS high)) rfl rfl ?_)))))
   refine .Zf (v := (vb (!(ZS high)))) rfl rfl rfl (.nil ?_)
   exact ⟨⟨or_F hc1, rfl, rfl, rfl, rfl, trivial⟩, H.weak (by omega) (Nat.le_refl _)⟩
 ·rintro e σ ⟨he, H⟩
  obtain ⟨e, rfl⟩ := he.ex
  refine .move (v := (vb ((!(ZS low)) || (!(ZS high))))) rfl rfl ?_
  refine .mid 4 (K1 := fun e σ => Z4 e [(28, (vb (((!(ZS low)) || (!(ZS high))) || (low.Inf == 1)))), (3, (.ptr (b1 + 0) 4 0)), (4, (.ptr (b1 + 1) 2 0)), (5, (.ptr (b1 + 2) 2 0)), (6, (.ptr (b1 + 3) 4 0))] ∧ Has σ (b2 + 13) (b2 + 18) [.blk (b1 + 3) 27 [(vi 0), (vi 0), (vb false), (vb false)], .blk (b1 + 2) 32 [(.v (.int .i8 high.Inf)), (vi high.N)], .blk (b1 + 1) 32 [(.v (.int .i8 low.Inf)), (vi low.N)], .blk (b1 + 0) 25 (vF f)]) rfl ?_ ?_
  ·refine .split rfl rfl ?_ ?_ <;> intro hc2
   ·skip
    refine .pass rfl rfl rfl (.pass rfl rfl rfl (.pass rfl rfl rfl (.Zd (v := (vb true)) rfl rfl rfl (.nil ?_))))
    exact ⟨⟨or_T hc2, rfl, rfl, rfl, rfl, trivial⟩, H.weak (by omega) (Nat.le_refl _)⟩
   ·skip
    refine .wanted rfl rfl (.Z2 (off := 0) (fo := 0) H 2 rfl rfl rfl rfl rfl nofun rfl (.wanted rfl rfl (.ZA (off := 0) (v := (.v (.int .i8 low.Inf))) H 2 rfl rfl rfl rfl rfl nofun rfl (.wanted rfl rfl (.int (m := low.Inf) (m' := 1) (r := .bool (low.Inf == 1)) rfl rfl rfl rfl rfl ?_)))))
    refine .Zf (v := (vb (low.Inf == 1))) rfl rfl rfl (.nil ?_)
    exact ⟨⟨or_F hc2, rfl, rfl, rfl, rfl, trivial⟩, H.weak (by omega) (Nat.le_refl _)⟩
  ·rintro e σ ⟨he, H⟩
   obtain ⟨e, rfl⟩ := he.ex
   refine .move (v := (vb (((!(ZS low)) || (!(ZS high))) || (low.Inf == 1)))) rfl rfl ?_
   refine .mid 4 (K1 := fun e σ => Z4 e [(33, (vb ((((!(ZS low)) || (!(ZS high))) || (low.Inf == 1)) || (high.Inf == (-1))))), (3, (.ptr (b1 + 0) 4 0)), (4, (.ptr (b1 + 1) 2 0)), (5, (.ptr (b1 + 2) 2 0)), (6, (.ptr (b1 + 3) 4 0))] ∧ Has σ (b2 + 18) (b2 + 18) [.blk (b1 + 3) 27 [(vi 0), (vi 0), (vb false), (vb false)], .blk (b1 + 2) 32 [(.v (.int .i8 high.Inf)), (vi high.N)], .blk (b1 + 1) 32 [(.v (.int .i8 low.Inf)), (vi low.N)], .blk (b1 + 0) 25 (vF f)]) rfl ?_ ?_
   ·refine .split rfl rfl ?_ ?_ <;> intro hc3
    ·skip
     refine .pass rfl rfl rfl (.pass rfl rfl rfl (.pass rfl rfl rfl (.Zd (v := (vb true)) rfl rfl rfl (.nil ?_))))
     exact ⟨⟨or_T hc3, rfl, rfl, rfl, rfl, trivial⟩, H.weak (by omega) (Nat.le_refl _)⟩
    ·skip
     refine .wanted rfl rfl (.Z2 (off := 0) (fo := 0) H 1 rfl rfl rfl rfl rfl nofun rfl (.wanted rfl rfl (.ZA (off := 0) (v := (.v (.int .i8 high.Inf))) H 1 rfl rfl rfl rfl rfl nofun rfl (.wanted rfl rfl (.int (m := high.Inf) (m' := (-1)) (r := .bool (high.Inf == (-1))) rfl rfl rfl rfl rfl ?_)))))
     refine .Zf (v := (vb (high.Inf == (-1)))) rfl rfl rfl (.nil ?_)
     exact ⟨⟨or_F hc3, rfl, rfl, rfl, rfl, trivial⟩, H.weak (by omega) (Nat.le_refl _)⟩
   ·rintro e σ ⟨he, H⟩
    obtain ⟨e, rfl⟩ := he.ex
    refine .nila H fun H => ?_
    refine .whether (v := ((((!(ZS low)) || (!(ZS high))) || (low.Inf == 1)) || (high.Inf == (-1)))) rfl ?_ ?_ <;> intro hc4
    ·replace h := Z8 hc4 h
     refine .then (.Z0 4 rfl H fun b3 σ H => (.Z0d (cs := [(vi 0), (vi 0), (vb false), (vb false)]) rfl rfl (.ZV (off := 0) (cells' := [(vi 0), (vi 0), (vb false), (vb false)]) H 0 rfl rfl rfl rfl rfl rfl rfl rfl rfl nofun fun σ H => (.assign (v := (vb false)) rfl rfl (.assign (v := (vi 2)) rfl rfl ?_)))))
     refine .nila H fun H => (.ret ?_)
     replace h := sj h; subst h
     exact (Ends.H (xs := [(.agg [(vi 0), (vi 0), (vb false), (vb false)]), (vb false), (vi 2)]) (.inr rfl) H (.agg (cs := [(vi 0), (vi 0), (vb false), (vb false)]) (off := 0) 0 rfl rfl rfl rfl rfl rfl rfl (.tmp (v := (vb false)) rfl (.tmp (v := (vi 2)) rfl .nil))) (.two (.cons (.p rfl) (.cons (.c (.v _)) (.cons (.c (.v _)) .nil)))))
    ·replace h := Z7 hc4 h
     refine .skip (.then (.Z0 1 rfl H fun b4 σ H => (.Zs (cs := [(vi 0), (vi 0), (vb false), (vb false)]) H (by omega) (by omega) rfl rfl fun σ H => (.nila H fun H => (.then ?_)))))
     obtain ⟨y1, hj1, h⟩ := bind_some h
     refine .mono (Q := fun x e σ => (∃ a1, y1 = (.go a1) ∧ x = .normal ∧ Z4 e [(3, (.ptr (b1 + 0) 4 0)), (4, (.ptr (b1 + 1) 2 0)), (6, (.ptr (b1 + 3) 4 0)), (9, (.ptr (b4 + 0) 4 0))] ∧ Hs σ [.blk (b4 + 0) 27 [(vi 0), (vi a1.1), (vb false), (vb a1.2)], .blk (b1 + 3) 27 [(vi 0), (vi 0), (vb false), (vb false)], .blk (b1 + 1) 32 [(.v (.int .i8 low.Inf)), (vi low.N)], .blk (b1 + 0) 25 (vF f)]) ∨ (∃ r', y1 = (.ret r') ∧ x = .ret ∧ Ends CX Try.f22.results.toList (.tup [(.agg (vs (Range.cs r'.1))), (vb r'.2.1), (vi r'.2.2)]) x e σ)) ?_ ?_
     ·replace h := hj1
      refine .then (.Z0 8 rfl H fun b5 σ H => (.Z2 (off := 0) (fo := 0) H 2 rfl rfl rfl rfl rfl nofun rfl (.ZA (off := 0) (v := (.v (.int .i8 high.Inf))) H 2 rfl rfl rfl rfl rfl nofun rfl (.int (m := high.Inf) (m' := 0) (r := .bool (high.Inf == 0)) rfl rfl rfl rfl rfl (.move (v := (vb (high.Inf == 0))) rfl rfl ?_)))))
      refine .mid 4 (K1 := fun e σ => Z4 e [(42, (vb ((high.Inf == 0) && (decide (high.N ≤ 1099511627776))))), (3, (.ptr (b1 + 0) 4 0)), (4, (.ptr (b1 + 1) 2 0)), (5, (.ptr (b1 + 2) 2 0)), (6, (.ptr (b1 + 3) 4 0)), (9, (.ptr (b4 + 0) 4 0))] ∧ Has σ (b5 + 8) (b5 + 8) [.blk (b4 + 0) 27 [(vi 0), (vi 0), (vb false), (vb false)], .blk (b1 + 3) 27 [(vi 0), (vi 0), (vb false), (vb false)], .blk (b1 + 2) 32 [(.v (.int .i8 high.Inf)), (vi high.N)], .blk (b1 + 1) 32 [(.v (.int .i8 low.Inf)), (vi low.N)], .blk (b1 + 0) 25 (vF f)]) rfl ?_ ?_
      ·refine .split rfl rfl ?_ ?_ <;> intro hc5
       ·skip
        refine .wanted rfl rfl (.Z2 (off := 0) (fo := 1) H 2 rfl rfl rfl rfl rfl nofun rfl (.wanted rfl rfl (.ZA (off := 1) (v := (vi high.N)) H 2 rfl rfl rfl rfl rfl nofun rfl (.wanted rfl rfl (.int (m := high.N) (m' := 1099511627776) (r := .bool (decide (high.N ≤ 1099511627776))) rfl rfl rfl rfl rfl ?_)))))
        refine .Zd (v := (vb (decide (high.N ≤ 1099511627776)))) rfl rfl rfl (.nil ?_)
        exact ⟨⟨Z2E hc5, rfl, rfl, rfl, rfl, rfl, trivial⟩, H.weak (by omega) (Nat.le_refl _)⟩
       ·skip
        refine .pass rfl rfl rfl (.pass rfl rfl rfl (.pass rfl rfl rfl (.Zf (v := (vb false)) rfl rfl rfl (.nil ?_))))
        exact ⟨⟨Z2H hc5, rfl, rfl, rfl, rfl, rfl, trivial⟩, H.weak (by omega) (Nat.le_refl _)⟩
      ·rintro e σ ⟨he, H⟩
       obtain ⟨e, rfl⟩ := he.ex
       refine .nila H fun H => ?_
       refine .whether (v := ((high.Inf == 0) && (decide (high.N ≤ 1099511627776)))) rfl ?_ ?_ <;> intro hc6
       ·replace h := Z8 hc6 h
        refine .then (.Z0 12 rfl H fun b6 σ H => (.ZR (off := 0) (cs := (vF f)) H 4 rfl rfl rfl rfl rfl rfl rfl nofun rfl (.Z2 (off := 0) (fo := 1) H 2 rfl rfl rfl rfl rfl nofun rfl (.ZA (off := 1) (v := (vi high.N)) H 2 rfl rfl rfl rfl rfl nofun rfl (.max2 rfl rfl rfl ?_)))))
        obtain ⟨x1, q1, h⟩ := bind_some h
        refine .call (ys := [(.agg (vF f)), (vi (iMax high.N (-1099511627776)))]) (r := (.tup [(vi x1.1), (vb x1.2.1), (vi x1.2.2)])) rfl (Z7W q1) rfl (.move (v := (.tup [(vi x1.1), (vb x1.2.1), (vi x1.2.2)])) rfl rfl (.extract (v := (vi x1.1)) rfl rfl rfl (.extract (v := (vb x1.2.1)) rfl rfl rfl (.extract (v := (vi x1.2.2)) rfl rfl rfl (.assign (v := (vi x1.1)) rfl rfl ?_)))))
        refine .assign (v := (vb x1.2.1)) rfl rfl (.assign (v := (vi x1.2.2)) rfl rfl (.nila H fun H => (.then (.then (.Z0 2 rfl H fun b7 σ H => ?_)))))
        refine .move (v := (vb x1.2.1)) rfl rfl (.not (b := x1.2.1) rfl rfl (.nila H fun H => ?_))
        refine .whether (v := (!x1.2.1)) rfl ?_ ?_ <;> intro hc7
        ·replace h := Z8 hc7 h
         refine .then (.Z0 4 rfl H fun b8 σ H => (.Z0d (cs := [(vi 0), (vi 0), (vb false), (vb false)]) rfl rfl (.ZV (off := 0) (cells' := [(vi 0), (vi 0), (vb false), (vb false)]) H 1 rfl rfl rfl rfl rfl rfl rfl rfl rfl nofun fun σ H => (.assign (v := (vb false)) rfl rfl (.assign (v := (vi 0)) rfl rfl ?_)))))
         refine .nila H fun H => (.ret ?_)
         replace h := sj h; subst h
         exact (.inr ⟨_, rfl, rfl, (Ends.H (xs := [(.agg [(vi 0), (vi 0), (vb false), (vb false)]), (vb false), (vi 0)]) (.inr rfl) H (.agg (cs := [(vi 0), (vi 0), (vb false), (vb false)]) (off := 0) 1 rfl rfl rfl rfl rfl rfl rfl (.tmp (v := (vb false)) rfl (.tmp (v := (vi 0)) rfl .nil))) (.two (.cons (.p rfl) (.cons (.c (.v _)) (.cons (.c (.v _)) .nil)))))⟩)
        ·replace h := Z7 hc7 h
         refine .skip (.Z0 5 rfl H fun b9 σ H => (.move (v := (vi x1.1)) rfl rfl (.Z2 (off := 0) (fo := 1) H 0 rfl rfl rfl rfl rfl nofun rfl (.ZV (off := 1) (cells' := [(vi 0), (vi x1.1), (vb false), (vb false)]) H 0 rfl rfl rfl rfl rfl rfl rfl rfl rfl nofun fun σ H => (.Z2 (off := 0) (fo := 3) H 0 rfl rfl rfl rfl rfl nofun rfl ?_)))))
         refine .ZV (off := 3) (cells' := [(vi 0), (vi x1.1), (vb false), (vb true)]) H 0 rfl rfl rfl rfl rfl rfl rfl rfl rfl nofun fun σ H => (.nila H fun H => ?_)
         replace h := sj h; subst h
         exact (.inl ⟨_, rfl, rfl, ⟨rfl, rfl, rfl, rfl, trivial⟩, (H.erase 2)⟩)
       ·replace h := Z7 hc6 h
        refine .skip ?_
        replace h := sj h; subst h
        exact (.inl ⟨_, rfl, rfl, ⟨rfl, rfl, rfl, rfl, trivial⟩, (H.erase 2)⟩)
     ·rintro x e σ (⟨a2, rfl, rfl, he, H⟩ | ⟨r', rfl, rfl, hE⟩)
      ·skip
       replace h := jgo h
       obtain ⟨e, rfl⟩ := he.ex
       refine .then ?_
       obtain ⟨y2, hj2, h⟩ := bind_some h
       refine .mono (Q := fun x e σ => (∃ a3, y2 = (.go a3) ∧ x = .normal ∧ Z4 e [(6, (.ptr (b1 + 3) 4 0)), (9, (.ptr (b4 + 0) 4 0))] ∧ Hs σ [.blk (b4 + 0) 27 [(vi a3.1), (vi a2.1), (vb a3.2), (vb a2.2)], .blk (b1 + 3) 27 [(vi 0), (vi 0), (vb false), (vb false)]]) ∨ (∃ r', y2 = (.ret r') ∧ x = .ret ∧ Ends CX Try.f22.results.toList (.tup [(.agg (vs (Range.cs r'.1))), (vb r'.2.1), (vi r'.2.2)]) x e σ)) ?_ ?_
       ·replace h := hj2
        refine .then (.Z0 8 rfl H fun b10 σ H => (.Z2 (off := 0) (fo := 0) H 2 rfl rfl rfl rfl rfl nofun rfl (.ZA (off := 0) (v := (.v (.int .i8 low.Inf))) H 2 rfl rfl rfl rfl rfl nofun rfl (.int (m := low.Inf) (m' := 0) (r := .bool (low.Inf == 0)) rfl rfl rfl rfl rfl (.move (v := (vb (low.Inf == 0))) rfl rfl ?_)))))
        refine .mid 4 (K1 := fun e σ => Z4 e [(65, (vb ((low.Inf == 0) && (decide (low.N ≥ (-1099511627776)))))), (3, (.ptr (b1 + 0) 4 0)), (4, (.ptr (b1 + 1) 2 0)), (6, (.ptr (b1 + 3) 4 0)), (9, (.ptr (b4 + 0) 4 0))] ∧ Has σ (b10 + 8) (b10 + 8) [.blk (b4 + 0) 27 [(vi 0), (vi a2.1), (vb false), (vb a2.2)], .blk (b1 + 3) 27 [(vi 0), (vi 0), (vb false), (vb false)], .blk (b1 + 1) 32 [(.v (.int .i8 low.Inf)), (vi low.N)], .blk (b1 + 0) 25 (vF f)]) rfl ?_ ?_
        ·refine .split rfl rfl ?_ ?_ <;> intro hc8
         ·skip
          refine .wanted rfl rfl (.Z2 (off := 0) (fo := 1) H 2 rfl rfl rfl rfl rfl nofun rfl (.wanted rfl rfl (.ZA (off := 1) (v := (vi low.N)) H 2 rfl rfl rfl rfl rfl nofun rfl (.wanted rfl rfl (.int (m := low.N) (m' := (-1099511627776)) (r := .bool (decide (low.N ≥ (-1099511627776)))) rfl rfl rfl rfl rfl ?_)))))
          refine .Zd (v := (vb (decide (low.N ≥ (-1099511627776))))) rfl rfl rfl (.nil ?_)
          exact ⟨⟨Z2E hc8, rfl, rfl, rfl, rfl, trivial⟩, H.weak (by omega) (Nat.le_refl _)⟩
         ·skip
          refine .pass rfl rfl rfl (.pass rfl rfl rfl (.pass rfl rfl rfl (.Zf (v := (vb false)) rfl rfl rfl (.nil ?_))))
          exact ⟨⟨Z2H hc8, rfl, rfl, rfl, rfl, trivial⟩, H.weak (by omega) (Nat.le_refl _)⟩
        ·rintro e σ ⟨he, H⟩
         obtain ⟨e, rfl⟩ := he.ex
         refine .nila H fun H => ?_
         refine .whether (v := ((low.Inf == 0) && (decide (low.N ≥ (-1099511627776))))) rfl ?_ ?_ <;> intro hc9
         ·replace h := Z8 hc9 h
          refine .then (.Z0 12 rfl H fun b11 σ H => (.ZR (off := 0) (cs := (vF f)) H 3 rfl rfl rfl rfl rfl rfl rfl nofun rfl (.Z2 (off := 0) (fo := 1) H 2 rfl rfl rfl rfl rfl nofun rfl (.ZA (off := 1) (v := (vi low.N)) H 2 rfl rfl rfl rfl rfl nofun rfl (.min2 rfl rfl rfl ?_)))))
          obtain ⟨x2, q2, h⟩ := bind_some h
          refine .call (ys := [(.agg (vF f)), (vi (iMin low.N 1099511627776))]) (r := (.tup [(vi x2.1), (vb x2.2.1), (vi x2.2.2)])) rfl (size_Up_fn q2) rfl (.move (v := (.tup [(vi x2.1), (vb x2.2.1), (vi x2.2.2)])) rfl rfl (.extract (v := (vi x2.1)) rfl rfl rfl (.extract (v := (vb x2.2.1)) rfl rfl rfl (.extract (v := (vi x2.2.2)) rfl rfl rfl (.assign (v := (vi x2.1)) rfl rfl ?_)))))
          refine .assign (v := (vb x2.2.1)) rfl rfl (.assign (v := (vi x2.2.2)) rfl rfl (.nila H fun H => (.then (.then (.Z0 2 rfl H fun b12 σ H => ?_)))))
          refine .move (v := (vb x2.2.1)) rfl rfl (.not (b := x2.2.1) rfl rfl (.nila H fun H => ?_))
          refine .whether (v := (!x2.2.1)) rfl ?_ ?_ <;> intro hc10
          ·replace h := Z8 hc10 h
           refine .then (.Z0 4 rfl H fun b13 σ H => (.Z0d (cs := [(vi 0), (vi 0), (vb false), (vb false)]) rfl rfl (.ZV (off := 0) (cells' := [(vi 0), (vi 0), (vb false), (vb false)]) H 1 rfl rfl rfl rfl rfl rfl rfl rfl rfl nofun fun σ H => (.assign (v := (vb false)) rfl rfl (.assign (v := (vi 0)) rfl rfl ?_)))))
           refine .nila H fun H => (.ret ?_)
           replace h := sj h; subst h
           exact (.inr ⟨_, rfl, rfl, (Ends.H (xs := [(.agg [(vi 0), (vi 0), (vb false), (vb false)]), (vb false), (vi 0)]) (.inr rfl) H (.agg (cs := [(vi 0), (vi 0), (vb false), (vb false)]) (off := 0) 1 rfl rfl rfl rfl rfl rfl rfl (.tmp (v := (vb false)) rfl (.tmp (v := (vi 0)) rfl .nil))) (.two (.cons (.p rfl) (.cons (.c (.v _)) (.cons (.c (.v _)) .nil)))))⟩)
          ·replace h := Z7 hc10 h
           refine .skip (.Z0 5 rfl H fun b14 σ H => (.move (v := (vi x2.1)) rfl rfl (.Z2 (off := 0) (fo := 0) H 0 rfl rfl rfl rfl rfl nofun rfl (.ZV (off := 0) (cells' := [(vi x2.1), (vi a2.1), (vb false), (vb a2.2)]) H 0 rfl rfl rfl rfl rfl rfl rfl rfl rfl nofun fun σ H => (.Z2 (off := 0) (fo := 2) H 0 rfl rfl rfl rfl rfl nofun rfl ?_)))))
           refine .ZV (off := 2) (cells' := [(vi x2.1), (vi a2.1), (vb true), (vb a2.2)]) H 0 rfl rfl rfl rfl rfl rfl rfl rfl rfl nofun fun σ H => (.nila H fun H => ?_)
           replace h := sj h; subst h
           exact (.inl ⟨_, rfl, rfl, ⟨rfl, rfl, trivial⟩, ((H.erase 3).erase 2)⟩)
         ·replace h := Z7 hc9 h
          refine .skip ?_
          replace h := sj h; subst h
          exact (.inl ⟨_, rfl, rfl, ⟨rfl, rfl, trivial⟩, ((H.erase 3).erase 2)⟩)
       ·rintro x e σ (⟨a4, rfl, rfl, he, H⟩ | ⟨r', rfl, rfl, hE⟩)
        ·skip
         replace h := jgo h
         obtain ⟨e, rfl⟩ := he.ex
         refine .then (.Z0 4 rfl H fun b15 σ H => (.ZR (off := 0) (cs := [(vi a4.1), (vi a2.1), (vb a4.2), (vb a2.2)]) H 0 rfl rfl rfl rfl rfl rfl rfl nofun rfl (.ZV (off := 0) (cells' := [(vi a4.1), (vi a2.1), (vb a4.2), (vb a2.2)]) H 1 rfl rfl rfl rfl rfl rfl rfl rfl rfl nofun fun σ H => (.assign (v := (vb true)) rfl rfl (.assign (v := (vi 0)) rfl rfl ?_)))))
         refine .nila H fun H => (.ret ?_)
         replace h := sj h; subst h
         exact (Ends.H (xs := [(.agg [(vi a4.1), (vi a2.1), (vb a4.2), (vb a2.2)]), (vb true), (vi 0)]) (.inr rfl) H (.agg (cs := [(vi a4.1), (vi a2.1), (vb a4.2), (vb a2.2)]) (off := 0) 1 rfl rfl rfl rfl rfl rfl rfl (.tmp (v := (vb true)) rfl (.tmp (v := (vi 0)) rfl .nil))) (.two (.cons (.p rfl) (.cons (.c (.v _)) (.cons (.c (.v _)) .nil)))))
        ·skip
         replace h := jret h
         replace h := sj h; subst h
         exact hE
      ·skip
       replace h := jret h
       replace h := sj h; subst h
       exact hE

end Go.Dn

namespace Go.Dn
open Go Go.Proofs
set_option maxRecDepth 100000
set_option maxHeartbeats 4000000

theorem Z1X {f : Form} {low : Int} {high : Int} {want : Range} {r : Bool} (h : Z0b f low high want = some r) : Fn CX 43 [(.agg (vs (Form.cs f))), (vi low), (vi high), (.agg (vs (Range.cs want)))] (vb r) := by
 refine Fn.ends Try.func43 rfl rfl rfl rfl rfl rfl ?_
 have H : Hs (⟨0, fun _ => .none⟩ : Heap) [] := Has.nil (Nat.le_refl _)
 generalize (⟨0, fun _ => .none⟩ : Heap) = σ at H ⊢
 unfold Z0b at h
 refine .then (.Z0 3 rfl H fun b1 σ H => (.boxH (cs := (vF f)) H (by omega) (by omega) rfl rfl rfl fun σ H => (.boxH (cs := [(vi want.Low), (vi want.High), (vb want.HasLow), (vb want.HasHigh)]) H (by omega) (by omega) rfl rfl rfl fun σ H => (.assign (v := (vb false)) rfl rfl (.nila H fun H => ?_)))))
 refine .then (.Z0u 14 rfl (by kernel_rfl) H fun b2 σ H B2 => (.ZR (off := 0) (cs := (vF f)) H 1 rfl rfl rfl rfl rfl rfl rfl (fun _ => .inl ⟨B2 1 _ rfl _ rfl, nofun, (fun _ => by kernel_rfl)⟩) rfl (.move (v := (vi low)) rfl rfl (.call (ys := [(vi low)]) (r := (.agg [(.v (.int .i8 (Z1 low).Inf)), (vi (Z1 low).N)])) rfl (Zt rfl) rfl (.move (v := (vi high)) rfl rfl ?_)))))
 refine .call (ys := [(vi high)]) (r := (.agg [(.v (.int .i8 (Z1 high).Inf)), (vi (Z1 high).N)])) rfl (Zt rfl) rfl ?_
 obtain ⟨x1, q1, h⟩ := bind_some h
 refine .call (ys := [(.agg (vF f)), (.agg [(.v (.int .i8 (Z1 low).Inf)), (vi (Z1 low).N)]), (.agg [(.v (.int .i8 (Z1 high).Inf)), (vi (Z1 high).N)])]) (r := (.tup [(.agg [(vi x1.1.Low), (vi x1.1.High), (vb x1.1.HasLow), (vb x1.1.HasHigh)]), (vb x1.2.1), (vi x1.2.2)])) rfl (Z9b q1) rfl (.move (v := (.tup [(.agg [(vi x1.1.Low), (vi x1.1.High), (vb x1.1.HasLow), (vb x1.1.HasHigh)]), (vb x1.2.1), (vi x1.2.2)])) rfl rfl (.extract (v := (.agg [(vi x1.1.Low), (vi x1.1.High), (vb x1.1.HasLow), (vb x1.1.HasHigh)])) rfl rfl rfl (.extract (v := (vb x1.2.1)) rfl rfl rfl (.extract (v := (vi x1.2.2)) rfl rfl rfl (.Zs (cs := [(vi 0), (vi 0), (vb false), (vb false)]) H (by omega) (by omega) rfl rfl fun σ H => ?_)))))
 refine .ZV (off := 0) (cells' := [(vi x1.1.Low), (vi x1.1.High), (vb x1.1.HasLow), (vb x1.1.HasHigh)]) H 0 rfl rfl rfl rfl rfl rfl rfl rfl rfl (fun _ => .inr ⟨10, rfl, by kernel_rfl, by decide⟩) fun σ H => (.assign (v := (vb x1.2.1)) rfl rfl (.assign (v := (vi x1.2.2)) rfl rfl (.nila H fun H => (.then (.Z0 11 rfl H fun b3 σ H => ?_)))))
 refine .move (v := (vi x1.2.2)) rfl rfl (.int (m := x1.2.2) (m' := 0) (r := .bool (x1.2.2 == 0)) rfl rfl rfl rfl rfl (.move (v := (vb (x1.2.2 == 0))) rfl rfl ?_))
 refine .mid 2 (K1 := fun e σ => Z4 e [(26, (vb ((x1.2.2 == 0) && x1.2.1))), (7, (.ptr (b1 + 1) 4 0)), (9, (.ptr (b2 + 10) 4 0))] ∧ Has σ (b3 + 5) (b3 + 11) [.blk (b2 + 10) 27 [(vi x1.1.Low), (vi x1.1.High), (vb x1.1.HasLow), (vb x1.1.HasHigh)], .blk (b1 + 1) 27 [(vi want.Low), (vi want.High), (vb want.HasLow), (vb want.HasHigh)]]) rfl ?_ ?_
 ·refine .split rfl rfl ?_ ?_ <;> intro hc1
  ·skip
   refine .wanted rfl rfl (.move (v := (vb x1.2.1)) rfl rfl (.Zd (v := (vb x1.2.1)) rfl rfl rfl (.nil ?_)))
   exact ⟨⟨Z2E hc1, rfl, rfl, trivial⟩, (H.erase 2).weak (by omega) (Nat.le_refl _)⟩
  ·skip
   refine .pass rfl rfl rfl (.Zf (v := (vb false)) rfl rfl rfl (.nil ?_))
   exact ⟨⟨Z2H hc1, rfl, rfl, trivial⟩, (H.erase 2).weak (by omega) (Nat.le_refl _)⟩
 ·rintro e σ ⟨he, H⟩
  obtain ⟨e, rfl⟩ := he.ex
  refine .move (v := (vb ((x1.2.2 == 0) && x1.2.1))) rfl rfl ?_
  refine .mid 4 (K1 := fun e σ => Z4 e [(31, (vb (((x1.2.2 == 0) && x1.2.1) && ((x1.1.Low == want.Low) && ((x1.1.High == want.High) && ((x1.1.HasLow == want.HasLow) && ((x1.1.HasHigh == want.HasHigh) && true)))))))] ∧ Has σ (b3 + 10) (b3 + 11) []) rfl ?_ ?_
  ·refine .split rfl rfl ?_ ?_ <;> intro hc2
   ·skip
    refine .wanted rfl rfl (.ZR (off := 0) (cs := [(vi x1.1.Low), (vi x1.1.High), (vb x1.1.HasLow), (vb x1.1.HasHigh)]) H 0 rfl rfl rfl rfl rfl rfl rfl nofun rfl (.wanted rfl rfl (.ZR (off := 0) (cs := [(vi want.Low), (vi want.High), (vb want.HasLow), (vb want.HasHigh)]) H 1 rfl rfl rfl rfl rfl rfl rfl nofun rfl (.wanted rfl rfl (.binA (u := (.agg [(vi x1.1.Low), (vi x1.1.High), (vb x1.1.HasLow), (vb x1.1.HasHigh)])) (w := (.agg [(vi want.Low), (vi want.High), (vb want.HasLow), (vb want.HasHigh)])) (r := .bool ((x1.1.Low == want.Low) && ((x1.1.High == want.High) && ((x1.1.HasLow == want.HasLow) && ((x1.1.HasHigh == want.HasHigh) && true))))) rfl rfl (by kernel_rfl) (fun _ => Z2C rfl rfl rfl rfl) rfl ?_)))))
    refine .Zd (v := (vb ((x1.1.Low == want.Low) && ((x1.1.High == want.High) && ((x1.1.HasLow == want.HasLow) && ((x1.1.HasHigh == want.HasHigh) && true)))))) rfl rfl rfl (.nil ?_)
    exact ⟨⟨Z2E hc2, trivial⟩, ((H.erase 1).erase 0).weak (by omega) (Nat.le_refl _)⟩
   ·skip
    refine .pass rfl rfl rfl (.pass rfl rfl rfl (.pass rfl rfl rfl (.Zf (v := (vb false)) rfl rfl rfl (.nil ?_))))
    exact ⟨⟨Z2H hc2, trivial⟩, ((H.erase 1).erase 0).weak (by omega) (Nat.le_refl _)⟩
  ·rintro e σ ⟨he, H⟩
   obtain ⟨e, rfl⟩ := he.ex
   refine .assign (v := (vb (((x1.2.2 == 0) && x1.2.1) && ((x1.1.Low == want.Low) && ((x1.1.High == want.High) && ((x1.1.HasLow == want.HasLow) && ((x1.1.HasHigh == want.HasHigh) && true))))))) rfl rfl (.nila H fun H => (.ret ?_))
   replace h := sj h; subst h
   exact (Ends.H (xs := [(vb (((x1.2.2 == 0) && x1.2.1) && ((x1.1.Low == want.Low) && ((x1.1.High == want.High) && ((x1.1.HasLow == want.HasLow) && ((x1.1.HasHigh == want.HasHigh) && true))))))]) (.inr rfl) H (.tmp (v := (vb (((x1.2.2 == 0) && x1.2.1) && ((x1.1.Low == want.Low) && ((x1.1.High == want.High) && ((x1.1.HasLow == want.HasLow) && ((x1.1.HasHigh == want.HasHigh) && true))))))) rfl .nil) (.one (.c (.v _))))

theorem Z5z {r : Bool} (h : Z1Y = some r) : Fn CX 13 [] (vb r) := by
 refine Fn.ends Try.func13 rfl rfl rfl rfl rfl rfl ?_
 have H : Hs (⟨0, fun _ => .none⟩ : Heap) [] := Has.nil (Nat.le_refl _)
 generalize (⟨0, fun _ => .none⟩ : Heap) = σ at H ⊢
 unfold Z1Y at h
 refine .then (.Z0 1 rfl H fun b1 σ H => (.assign (v := (vb false)) rfl rfl (.nila H fun H => (.then (.Z0 6 rfl H fun b2 σ H => ?_)))))
 refine .Z0d (cs := [(vi 0), (vi 6)]) rfl rfl (.Z2i (sz := 2) ([(Span.mk 0 6)].map Span.cs) H (by omega) (by omega) rfl rfl rfl rfl rfl rfl rfl rfl rfl fun σ H => (.buildSF (sz := 1) ([[(Span.mk 0 6)]].map (cL Span.cs)) H (by omega) (by omega) rfl rfl (.exp (.c (.s 0 rfl)) .nil) rfl rfl rfl rfl rfl rfl rfl nofun fun σ H => (.Z0d (cs := [(vi 7), (vi 1), (.buf (b2 + 2) 1 1), .nils]) rfl rfl (.Zs (cs := [(vi 0), (vi 0), .nils, .nils]) H (by omega) (by omega) rfl rfl fun σ H => (.ZV (off := 0) (cells' := [(vi 7), (vi 1), (.buf (b2 + 2) 1 1), .nils]) H 0 rfl rfl rfl rfl rfl rfl rfl rfl rfl nofun fun σ H => ?_)))))
 refine .nila H fun H => (.then (.Z0 3 rfl H fun b3 σ H => (.call (ys := []) (r := (.agg (vF ZO))) rfl (Z6V rfl) rfl (.Zs (cs := [(vi 0), (vi 0), .nils, .nils]) H (by omega) (by omega) rfl rfl fun σ H => (.ZV (off := 0) (cells' := (vF ZO)) H 0 rfl rfl rfl rfl rfl rfl rfl rfl rfl nofun fun σ H => ?_)))))
 refine .nila H fun H => (.then (.Z0 7 rfl H fun b4 σ H => (.Z0d (cs := [(vi 5), (vi 6)]) rfl rfl (.Z2i (sz := 2) ([(Span.mk 5 6)].map Span.cs) H (by omega) (by omega) rfl rfl rfl rfl rfl rfl rfl rfl rfl fun σ H => (.Z0d (cs := [(vi 3), (.buf (b4 + 1) 1 2)]) rfl rfl ?_)))))
 refine .buildSF (sz := 2) ([(Granule.mk 3 [(Span.mk 5 6)])].map Granule.cs) H (by omega) (by omega) rfl rfl (.exp (.a (.cons (.v _) (.cons (.s 0 rfl) .nil))) .nil) rfl rfl rfl rfl rfl rfl rfl nofun fun σ H => (.Z0d (cs := [(vi 0), (vi 0), .nils, (.buf (b4 + 3) 1 2)]) rfl rfl (.Zs (cs := [(vi 0), (vi 0), .nils, .nils]) H (by omega) (by omega) rfl rfl fun σ H => (.ZV (off := 0) (cells' := [(vi 0), (vi 0), .nils, (.buf (b4 + 3) 1 2)]) H 0 rfl rfl rfl rfl rfl rfl rfl rfl rfl nofun fun σ H => (.nila H fun H => (.then ?_)))))
 refine .Z0 10 rfl H fun b5 σ H => (.ZR (off := 0) (cs := [(vi 7), (vi 1), (.buf (b2 + 2) 1 1), .nils]) H 4 rfl rfl rfl rfl rfl rfl rfl nofun rfl (.Z0d (cs := [(vi 1), (vi 0), (vb true), (vb false)]) rfl rfl ?_))
 obtain ⟨x1, q1, h⟩ := bind_some h
 refine .Z4z (xs := [(.agg [(vi 7), (vi 1), (.buf (b2 + 2) 1 1), .nils]), (.agg [(vi 1), (vi 0), (vb true), (vb false)])]) (ys := [(.agg (vs (Form.cs (Form.mk 7 1 [[(Span.mk 0 6)]] [])))), (.agg (vs (Range.cs (Range.mk 1 0 true false))))]) H rfl (.cons (.a (.cons (.v _) (.cons (.v _) (.cons (.s 5 rfl) (.cons (.n) .nil))))) (.cons (.p rfl) .nil)) (Z9n q1) rfl rfl nofun rfl fun σ H => (.move (v := (.tup [(.agg [(.v (.int .i8 x1.1.Inf)), (vi x1.1.N)]), (.agg [(.v (.int .i8 x1.2.Inf)), (vi x1.2.N)])])) rfl rfl (.extract (v := (.agg [(.v (.int .i8 x1.1.Inf)), (vi x1.1.N)])) rfl rfl rfl (.extract (v := (.agg [(.v (.int .i8 x1.2.Inf)), (vi x1.2.N)])) rfl rfl rfl (.Zs (cs := [(.v (.int .i8 0)), (vi 0)]) H (by omega) (by omega) rfl rfl fun σ H => (.Zs (cs := [(.v (.int .i8 0)), (vi 0)]) H (by omega) (by omega) rfl rfl fun σ H => ?_)))))
 refine .ZV (off := 0) (cells' := [(.v (.int .i8 x1.1.Inf)), (vi x1.1.N)]) H 1 rfl rfl rfl rfl rfl rfl rfl rfl rfl nofun fun σ H => (.ZV (off := 0) (cells' := [(.v (.int .i8 x1.2.Inf)), (vi x1.2.N)]) H 0 rfl rfl rfl rfl rfl rfl rfl rfl rfl nofun fun σ H => (.nila H fun H => (.then (.then (.Z0u 32 rfl (by kernel_rfl) H fun b6 σ H B6 => ?_)))))
 refine .ZR (off := 0) (cs := [(vi 7), (vi 1), (.buf (b2 + 2) 1 1), .nils]) H 6 rfl rfl rfl rfl rfl rfl rfl (fun _ => .inl ⟨B6 6 _ rfl _ rfl, nofun, (fun _ => by kernel_rfl)⟩) rfl ?_
 obtain ⟨x2, q2, h⟩ := bind_some h
 refine .Z4z (xs := [(.agg [(vi 7), (vi 1), (.buf (b2 + 2) 1 1), .nils]), (vi 1)]) (ys := [(.agg (vs (Form.cs (Form.mk 7 1 [[(Span.mk 0 6)]] [])))), (vi 1)]) H rfl (.cons (.a (.cons (.v _) (.cons (.v _) (.cons (.s 7 rfl) (.cons (.n) .nil))))) (.cons (.c (.v _)) .nil)) (Z1C q2) rfl rfl (fun _ => by kernel_rfl) rfl fun σ H => (.call (ys := [(vi 1)]) (r := (.agg [(.v (.int .i8 (Z1 1).Inf)), (vi (Z1 1).N)])) rfl (Zt rfl) rfl (.binA (u := (.agg [(.v (.int .i8 x2.Inf)), (vi x2.N)])) (w := (.agg [(.v (.int .i8 (Z1 1).Inf)), (vi (Z1 1).N)])) (r := .bool (!((x2.Inf == ((Z1 1).Inf)) && ((x2.N == ((Z1 1).N)) && true)))) rfl rfl (by kernel_rfl) (fun _ => Z2C rfl rfl rfl rfl) rfl (.move (v := (vb (!((x2.Inf == ((Z1 1).Inf)) && ((x2.N == ((Z1 1).N)) && true))))) rfl rfl ?_)))
 obtain ⟨y1, hj1, h⟩ := bind_some h
 refine .mid 5 (K1 := fun e σ => Z4 e [(31, (vb y1)), (1, (.ptr (b2 + 4) 4 0)), (2, (.ptr (b3 + 1) 4 0)), (3, (.ptr (b4 + 5) 4 0)), (4, (.ptr (b5 + 6) 2 0)), (5, (.ptr (b5 + 7) 2 0))] ∧ Has σ (b6 + 10) (b6 + 32) [.blk (b5 + 7) 32 [(.v (.int .i8 x1.2.Inf)), (vi x1.2.N)], .blk (b5 + 6) 32 [(.v (.int .i8 x1.1.Inf)), (vi x1.1.N)], .blk (b4 + 5) 25 [(vi 0), (vi 0), .nils, (.buf (b4 + 3) 1 2)], .sl (.buf (b4 + 3) 1 2) 76 2 ([(Granule.mk 3 [(Span.mk 5 6)])].map Granule.cs) true, .blk (b3 + 1) 25 (vF ZO), .blk (b2 + 4) 25 [(vi 7), (vi 1), (.buf (b2 + 2) 1 1), .nils], .sl (.buf (b2 + 2) 1 1) 41 1 ([[(Span.mk 0 6)]].map (cL Span.cs)) false]) rfl ?_ ?_
 ·refine .split rfl rfl ?_ ?_ <;> intro hc1
  ·replace h := Z8 hc1 hj1
   refine .pass rfl rfl rfl (.pass rfl rfl rfl (.pass rfl rfl rfl (.pass rfl rfl rfl (.Zd (v := (vb true)) rfl rfl rfl (.nil ?_)))))
   replace h := sj h; subst h
   exact ⟨⟨rfl, rfl, rfl, rfl, rfl, rfl, trivial⟩, ((H.erase 8).erase 4).weak (by omega) (Nat.le_refl _)⟩
  ·replace h := Z7 hc1 hj1
   refine .wanted rfl rfl (.ZR (off := 0) (cs := [(vi 7), (vi 1), (.buf (b2 + 2) 1 1), .nils]) H 6 rfl rfl rfl rfl rfl rfl rfl (fun _ => .inl ⟨B6 6 _ rfl _ rfl, nofun, (fun _ => by kernel_rfl)⟩) rfl (.wanted rfl rfl ?_))
   obtain ⟨x3, q3, h⟩ := bind_some h
   refine .Z4z (xs := [(.agg [(vi 7), (vi 1), (.buf (b2 + 2) 1 1), .nils]), (vi 0)]) (ys := [(.agg (vs (Form.cs (Form.mk 7 1 [[(Span.mk 0 6)]] [])))), (vi 0)]) H rfl (.cons (.a (.cons (.v _) (.cons (.v _) (.cons (.s 7 rfl) (.cons (.n) .nil))))) (.cons (.c (.v _)) .nil)) (Z1C q3) rfl rfl (fun _ => by kernel_rfl) rfl fun σ H => (.wanted rfl rfl (.call (ys := [(vi (-6))]) (r := (.agg [(.v (.int .i8 (Z1 (-6)).Inf)), (vi (Z1 (-6)).N)])) rfl (Zt rfl) rfl (.wanted rfl rfl (.binA (u := (.agg [(.v (.int .i8 x3.Inf)), (vi x3.N)])) (w := (.agg [(.v (.int .i8 (Z1 (-6)).Inf)), (vi (Z1 (-6)).N)])) (r := .bool (!((x3.Inf == ((Z1 (-6)).Inf)) && ((x3.N == ((Z1 (-6)).N)) && true)))) rfl rfl (by kernel_rfl) (fun _ => Z2C rfl rfl rfl rfl) rfl (.Zf (v := (vb (!((x3.Inf == ((Z1 (-6)).Inf)) && ((x3.N == ((Z1 (-6)).N)) && true))))) rfl rfl rfl ?_)))))
   refine .nil ?_
   replace h := sj h; subst h
   exact ⟨⟨rfl, rfl, rfl, rfl, rfl, rfl, trivial⟩, ((H.erase 8).erase 4).weak (by omega) (Nat.le_refl _)⟩
 ·rintro e σ ⟨he, H⟩
  obtain ⟨e, rfl⟩ := he.ex
  refine .move (v := (vb y1)) rfl rfl ?_
  obtain ⟨y2, hj2, h⟩ := bind_some h
  refine .mid 5 (K1 := fun e σ => Z4 e [(37, (vb y2)), (1, (.ptr (b2 + 4) 4 0)), (2, (.ptr (b3 + 1) 4 0)), (3, (.ptr (b4 + 5) 4 0)), (4, (.ptr (b5 + 6) 2 0)), (5, (.ptr (b5 + 7) 2 0))] ∧ Has σ (b6 + 16) (b6 + 32) [.blk (b5 + 7) 32 [(.v (.int .i8 x1.2.Inf)), (vi x1.2.N)], .blk (b5 + 6) 32 [(.v (.int .i8 x1.1.Inf)), (vi x1.1.N)], .blk (b4 + 5) 25 [(vi 0), (vi 0), .nils, (.buf (b4 + 3) 1 2)], .sl (.buf (b4 + 3) 1 2) 76 2 ([(Granule.mk 3 [(Span.mk 5 6)])].map Granule.cs) true, .blk (b3 + 1) 25 (vF ZO), .blk (b2 + 4) 25 [(vi 7), (vi 1), (.buf (b2 + 2) 1 1), .nils], .sl (.buf (b2 + 2) 1 1) 41 1 ([[(Span.mk 0 6)]].map (cL Span.cs)) false]) rfl ?_ ?_
  ·refine .split rfl rfl ?_ ?_ <;> intro hc2
   ·replace h := Z8 hc2 hj2
    refine .pass rfl rfl rfl (.pass rfl rfl rfl (.pass rfl rfl rfl (.pass rfl rfl rfl (.Zd (v := (vb true)) rfl rfl rfl (.nil ?_)))))
    replace h := sj h; subst h
    exact ⟨⟨rfl, rfl, rfl, rfl, rfl, rfl, trivial⟩, H.weak (by omega) (Nat.le_refl _)⟩
   ·replace h := Z7 hc2 hj2
    refine .wanted rfl rfl (.ZR (off := 0) (cs := [(vi 7), (vi 1), (.buf (b2 + 2) 1 1), .nils]) H 5 rfl rfl rfl rfl rfl rfl rfl (fun _ => .inl ⟨B6 6 _ rfl _ rfl, nofun, (fun _ => by kernel_rfl)⟩) rfl (.wanted rfl rfl ?_))
    obtain ⟨x4, q4, h⟩ := bind_some h
    refine .Z4z (xs := [(.agg [(vi 7), (vi 1), (.buf (b2 + 2) 1 1), .nils]), (vi 1)]) (ys := [(.agg (vs (Form.cs (Form.mk 7 1 [[(Span.mk 0 6)]] [])))), (vi 1)]) H rfl (.cons (.a (.cons (.v _) (.cons (.v _) (.cons (.s 6 rfl) (.cons (.n) .nil))))) (.cons (.c (.v _)) .nil)) (Z1e q4) rfl rfl (fun _ => by kernel_rfl) rfl fun σ H => (.wanted rfl rfl (.call (ys := [(vi 13)]) (r := (.agg [(.v (.int .i8 (Z1 13).Inf)), (vi (Z1 13).N)])) rfl (Zt rfl) rfl (.wanted rfl rfl (.binA (u := (.agg [(.v (.int .i8 x4.Inf)), (vi x4.N)])) (w := (.agg [(.v (.int .i8 (Z1 13).Inf)), (vi (Z1 13).N)])) (r := .bool (!((x4.Inf == ((Z1 13).Inf)) && ((x4.N == ((Z1 13).N)) && true)))) rfl rfl (by kernel_rfl) (fun _ => Z2C rfl rfl rfl rfl) rfl (.Zf (v := (vb (!((x4.Inf == ((Z1 13).Inf)) && ((x4.N == ((Z1 13).N)) && true))))) rfl rfl rfl ?_)))))
    refine .nil ?_
    replace h := sj h; subst h
    exact ⟨⟨rfl, rfl, rfl, rfl, rfl, rfl, trivial⟩, H.weak (by omega) (Nat.le_refl _)⟩
  ·rintro e σ ⟨he, H⟩
   obtain ⟨e, rfl⟩ := he.ex
   refine .move (v := (vb y2)) rfl rfl ?_
   obtain ⟨y3, hj3, h⟩ := bind_some h
   refine .mid 5 (K1 := fun e σ => Z4 e [(43, (vb y3)), (1, (.ptr (b2 + 4) 4 0)), (2, (.ptr (b3 + 1) 4 0)), (3, (.ptr (b4 + 5) 4 0)), (4, (.ptr (b5 + 6) 2 0)), (5, (.ptr (b5 + 7) 2 0))] ∧ Has σ (b6 + 22) (b6 + 32) [.blk (b5 + 7) 32 [(.v (.int .i8 x1.2.Inf)), (vi x1.2.N)], .blk (b5 + 6) 32 [(.v (.int .i8 x1.1.Inf)), (vi x1.1.N)], .blk (b4 + 5) 25 [(vi 0), (vi 0), .nils, (.buf (b4 + 3) 1 2)], .sl (.buf (b4 + 3) 1 2) 76 2 ([(Granule.mk 3 [(Span.mk 5 6)])].map Granule.cs) true, .blk (b3 + 1) 25 (vF ZO), .blk (b2 + 4) 25 [(vi 7), (vi 1), (.buf (b2 + 2) 1 1), .nils], .sl (.buf (b2 + 2) 1 1) 41 1 ([[(Span.mk 0 6)]].map (cL Span.cs)) false]) rfl ?_ ?_
   ·refine .split rfl rfl ?_ ?_ <;> intro hc3
    ·replace h := Z8 hc3 hj3
     refine .pass rfl rfl rfl (.pass rfl rfl rfl (.pass rfl rfl rfl (.pass rfl rfl rfl (.Zd (v := (vb true)) rfl rfl rfl (.nil ?_)))))
     replace h := sj h; subst h
     exact ⟨⟨rfl, rfl, rfl, rfl, rfl, rfl, trivial⟩, H.weak (by omega) (Nat.le_refl _)⟩
    ·replace h := Z7 hc3 hj3
     refine .wanted rfl rfl (.ZR (off := 0) (cs := [(vi 7), (vi 1), (.buf (b2 + 2) 1 1), .nils]) H 5 rfl rfl rfl rfl rfl rfl rfl (fun _ => .inl ⟨B6 6 _ rfl _ rfl, nofun, (fun _ => by kernel_rfl)⟩) rfl (.wanted rfl rfl ?_))
     obtain ⟨x5, q5, h⟩ := bind_some h
     refine .Z4z (xs := [(.agg [(vi 7), (vi 1), (.buf (b2 + 2) 1 1), .nils]), (vi 0)]) (ys := [(.agg (vs (Form.cs (Form.mk 7 1 [[(Span.mk 0 6)]] [])))), (vi 0)]) H rfl (.cons (.a (.cons (.v _) (.cons (.v _) (.cons (.s 6 rfl) (.cons (.n) .nil))))) (.cons (.c (.v _)) .nil)) (Z1e q5) rfl rfl (fun _ => by kernel_rfl) rfl fun σ H => (.wanted rfl rfl (.call (ys := [(vi 6)]) (r := (.agg [(.v (.int .i8 (Z1 6).Inf)), (vi (Z1 6).N)])) rfl (Zt rfl) rfl (.wanted rfl rfl (.binA (u := (.agg [(.v (.int .i8 x5.Inf)), (vi x5.N)])) (w := (.agg [(.v (.int .i8 (Z1 6).Inf)), (vi (Z1 6).N)])) (r := .bool (!((x5.Inf == ((Z1 6).Inf)) && ((x5.N == ((Z1 6).N)) && true)))) rfl rfl (by kernel_rfl) (fun _ => Z2C rfl rfl rfl rfl) rfl (.Zf (v := (vb (!((x5.Inf == ((Z1 6).Inf)) && ((x5.N == ((Z1 6).N)) && true))))) rfl rfl rfl ?_)))))
     refine .nil ?_
     replace h := sj h; subst h
     exact ⟨⟨rfl, rfl, rfl, rfl, rfl, rfl, trivial⟩, H.weak (by omega) (Nat.le_refl _)⟩
   ·rintro e σ ⟨he, H⟩
    obtain ⟨e, rfl⟩ := he.ex
    refine .move (v := (vb y3)) rfl rfl ?_
    refine .mid 4 (K1 := fun e σ => Z4 e [(48, (vb (y3 || (!((x1.1.Inf == ((Z1 1).Inf)) && ((x1.1.N == ((Z1 1).N)) && true)))))), (1, (.ptr (b2 + 4) 4 0)), (2, (.ptr (b3 + 1) 4 0)), (3, (.ptr (b4 + 5) 4 0)), (5, (.ptr (b5 + 7) 2 0))] ∧ Has σ (b6 + 27) (b6 + 32) [.blk (b5 + 7) 32 [(.v (.int .i8 x1.2.Inf)), (vi x1.2.N)], .blk (b4 + 5) 25 [(vi 0), (vi 0), .nils, (.buf (b4 + 3) 1 2)], .sl (.buf (b4 + 3) 1 2) 76 2 ([(Granule.mk 3 [(Span.mk 5 6)])].map Granule.cs) true, .blk (b3 + 1) 25 (vF ZO), .blk (b2 + 4) 25 [(vi 7), (vi 1), (.buf (b2 + 2) 1 1), .nils], .sl (.buf (b2 + 2) 1 1) 41 1 ([[(Span.mk 0 6)]].map (cL Span.cs)) false]) rfl ?_ ?_
    ·refine .split rfl rfl ?_ ?_ <;> intro hc4
     ·skip
      refine .pass rfl rfl rfl (.pass rfl rfl rfl (.pass rfl rfl rfl (.Zd (v := (vb true)) rfl rfl rfl (.nil ?_))))
      exact ⟨⟨or_T hc4, rfl, rfl, rfl, rfl, trivial⟩, (H.erase 1).weak (by omega) (Nat.le_refl _)⟩
     ·skip
      refine .wanted rfl rfl (.ZR (off := 0) (cs := [(.v (.int .i8 x1.1.Inf)), (vi x1.1.N)]) H 1 rfl rfl rfl rfl rfl rfl rfl (fun _ => .inl ⟨B6 1 _ rfl _ rfl, nofun, (fun _ => by kernel_rfl)⟩) rfl (.wanted rfl rfl (.call (ys := [(vi 1)]) (r := (.agg [(.v (.int .i8 (Z1 1).Inf)), (vi (Z1 1).N)])) rfl (Zt rfl) rfl (.wanted rfl rfl (.binA (u := (.agg [(.v (.int .i8 x1.1.Inf)), (vi x1.1.N)])) (w := (.agg [(.v (.int .i8 (Z1 1).Inf)), (vi (Z1 1).N)])) (r := .bool (!((x1.1.Inf == ((Z1 1).Inf)) && ((x1.1.N == ((Z1 1).N)) && true)))) rfl rfl (by kernel_rfl) (fun _ => Z2C rfl rfl rfl rfl) rfl ?_)))))
      refine .Zf (v := (vb (!((x1.1.Inf == ((Z1 1).Inf)) && ((x1.1.N == ((Z1 1).N)) && true))))) rfl rfl rfl (.nil ?_)
      exact ⟨⟨or_F hc4, rfl, rfl, rfl, rfl, trivial⟩, (H.erase 1).weak (by omega) (Nat.le_refl _)⟩
    ·rintro e σ ⟨he, H⟩
     obtain ⟨e, rfl⟩ := he.ex
     refine .move (v := (vb (y3 || (!((x1.1.Inf == ((Z1 1).Inf)) && ((x1.1.N == ((Z1 1).N)) && true)))))) rfl rfl ?_
     refine .mid 4 (K1 := fun e σ => Z4 e [(53, (vb ((y3 || (!((x1.1.Inf == ((Z1 1).Inf)) && ((x1.1.N == ((Z1 1).N)) && true)))) || (!((x1.2.Inf == 1) && ((x1.2.N == 0) && true)))))), (1, (.ptr (b2 + 4) 4 0)), (2, (.ptr (b3 + 1) 4 0)), (3, (.ptr (b4 + 5) 4 0))] ∧ Has σ (b6 + 32) (b6 + 32) [.blk (b4 + 5) 25 [(vi 0), (vi 0), .nils, (.buf (b4 + 3) 1 2)], .sl (.buf (b4 + 3) 1 2) 76 2 ([(Granule.mk 3 [(Span.mk 5 6)])].map Granule.cs) true, .blk (b3 + 1) 25 (vF ZO), .blk (b2 + 4) 25 [(vi 7), (vi 1), (.buf (b2 + 2) 1 1), .nils], .sl (.buf (b2 + 2) 1 1) 41 1 ([[(Span.mk 0 6)]].map (cL Span.cs)) false]) rfl ?_ ?_
     ·refine .split rfl rfl ?_ ?_ <;> intro hc5
      ·skip
       refine .pass rfl rfl rfl (.pass rfl rfl rfl (.pass rfl rfl rfl (.Zd (v := (vb true)) rfl rfl rfl (.nil ?_))))
       exact ⟨⟨or_T hc5, rfl, rfl, rfl, trivial⟩, (H.erase 0).weak (by omega) (Nat.le_refl _)⟩
      ·skip
       refine .wanted rfl rfl (.ZR (off := 0) (cs := [(.v (.int .i8 x1.2.Inf)), (vi x1.2.N)]) H 0 rfl rfl rfl rfl rfl rfl rfl (fun _ => .inl ⟨B6 0 _ rfl _ rfl, nofun, (fun _ => by kernel_rfl)⟩) rfl (.wanted rfl rfl (.Z0d (cs := [(.v (.int .i8 1)), (vi 0)]) rfl rfl (.wanted rfl rfl (.binA (u := (.agg [(.v (.int .i8 x1.2.Inf)), (vi x1.2.N)])) (w := (.agg [(.v (.int .i8 1)), (vi 0)])) (r := .bool (!((x1.2.Inf == 1) && ((x1.2.N == 0) && true)))) rfl rfl (by kernel_rfl) (fun _ => Z2C rfl rfl rfl rfl) rfl ?_)))))
       refine .Zf (v := (vb (!((x1.2.Inf == 1) && ((x1.2.N == 0) && true))))) rfl rfl rfl (.nil ?_)
       exact ⟨⟨or_F hc5, rfl, rfl, rfl, trivial⟩, (H.erase 0).weak (by omega) (Nat.le_refl _)⟩
     ·rintro e σ ⟨he, H⟩
      obtain ⟨e, rfl⟩ := he.ex
      refine .nila H fun H => ?_
      refine .whether (v := ((y3 || (!((x1.1.Inf == ((Z1 1).Inf)) && ((x1.1.N == ((Z1 1).N)) && true)))) || (!((x1.2.Inf == 1) && ((x1.2.N == 0) && true))))) rfl ?_ ?_ <;> intro hc6
      ·replace h := Z8 hc6 h
       refine .then (.Z0 1 rfl H fun b7 σ H => (.assign (v := (vb false)) rfl rfl (.nila H fun H => (.ret ?_))))
       replace h := sj h; subst h
       exact (Ends.H (xs := [(vb false)]) (.inr rfl) H (.tmp (v := (vb false)) rfl .nil) (.one (.c (.v _))))
      ·replace h := Z7 hc6 h
       refine .skip (.then (.Z0u 37 rfl (by kernel_rfl) H fun b8 σ H B8 => (.ZR (off := 0) (cs := [(vi 7), (vi 1), (.buf (b2 + 2) 1 1), .nils]) H 3 rfl rfl rfl rfl rfl rfl rfl (fun _ => .inl ⟨B8 3 _ rfl _ rfl, nofun, (fun _ => by kernel_rfl)⟩) rfl (.call (ys := [(vi 0), (vi 1)]) (r := (.agg [(vi (Z6 0 1).Low), (vi (Z6 0 1).High), (vb (Z6 0 1).HasLow), (vb (Z6 0 1).HasHigh)])) rfl (Z1o rfl) rfl ?_))))
       obtain ⟨x6, q6, h⟩ := bind_some h
       refine .Z4z (xs := [(.agg [(vi 7), (vi 1), (.buf (b2 + 2) 1 1), .nils]), (vi 1), (vi 6), (.agg [(vi (Z6 0 1).Low), (vi (Z6 0 1).High), (vb (Z6 0 1).HasLow), (vb (Z6 0 1).HasHigh)])]) (ys := [(.agg (vs (Form.cs (Form.mk 7 1 [[(Span.mk 0 6)]] [])))), (vi 1), (vi 6), (.agg (vs (Range.cs (Z6 0 1))))]) H rfl (.cons (.a (.cons (.v _) (.cons (.v _) (.cons (.s 4 rfl) (.cons (.n) .nil))))) (.cons (.c (.v _)) (.cons (.c (.v _)) (.cons (.p rfl) .nil)))) (Z1X q6) rfl rfl (fun _ => by kernel_rfl) rfl fun σ H => (.move (v := (vb x6)) rfl rfl ?_)
       obtain ⟨y4, hj4, h⟩ := bind_some h
       refine .mid 4 (K1 := fun e σ => Z4 e [(61, (vb y4)), (1, (.ptr (b2 + 4) 4 0)), (2, (.ptr (b3 + 1) 4 0)), (3, (.ptr (b4 + 5) 4 0))] ∧ Has σ (b8 + 8) (b8 + 37) [.blk (b4 + 5) 25 [(vi 0), (vi 0), .nils, (.buf (b4 + 3) 1 2)], .sl (.buf (b4 + 3) 1 2) 76 2 ([(Granule.mk 3 [(Span.mk 5 6)])].map Granule.cs) true, .blk (b3 + 1) 25 (vF ZO), .blk (b2 + 4) 25 [(vi 7), (vi 1), (.buf (b2 + 2) 1 1), .nils], .sl (.buf (b2 + 2) 1 1) 41 1 ([[(Span.mk 0 6)]].map (cL Span.cs)) false]) rfl ?_ ?_
       ·refine .split rfl rfl ?_ ?_ <;> intro hc7
        ·replace h := Z8 hc7 hj4
         refine .wanted rfl rfl (.ZR (off := 0) (cs := [(vi 7), (vi 1), (.buf (b2 + 2) 1 1), .nils]) H 3 rfl rfl rfl rfl rfl rfl rfl (fun _ => .inl ⟨B8 3 _ rfl _ rfl, nofun, (fun _ => by kernel_rfl)⟩) rfl (.wanted rfl rfl (.call (ys := [(vi 1), (vi 2)]) (r := (.agg [(vi (Z6 1 2).Low), (vi (Z6 1 2).High), (vb (Z6 1 2).HasLow), (vb (Z6 1 2).HasHigh)])) rfl (Z1o rfl) rfl (.wanted rfl rfl ?_))))
         obtain ⟨x7, q7, h⟩ := bind_some h
         refine .Z4z (xs := [(.agg [(vi 7), (vi 1), (.buf (b2 + 2) 1 1), .nils]), (vi 7), (vi 13), (.agg [(vi (Z6 1 2).Low), (vi (Z6 1 2).High), (vb (Z6 1 2).HasLow), (vb (Z6 1 2).HasHigh)])]) (ys := [(.agg (vs (Form.cs (Form.mk 7 1 [[(Span.mk 0 6)]] [])))), (vi 7), (vi 13), (.agg (vs (Range.cs (Z6 1 2))))]) H rfl (.cons (.a (.cons (.v _) (.cons (.v _) (.cons (.s 4 rfl) (.cons (.n) .nil))))) (.cons (.c (.v _)) (.cons (.c (.v _)) (.cons (.p rfl) .nil)))) (Z1X q7) rfl rfl (fun _ => by kernel_rfl) rfl fun σ H => (.Zd (v := (vb x7)) rfl rfl rfl (.nil ?_))
         replace h := sj h; subst h
         exact ⟨⟨rfl, rfl, rfl, rfl, trivial⟩, H.weak (by omega) (Nat.le_refl _)⟩
        ·replace h := Z7 hc7 hj4
         refine .pass rfl rfl rfl (.pass rfl rfl rfl (.pass rfl rfl rfl (.Zf (v := (vb false)) rfl rfl rfl (.nil ?_))))
         replace h := sj h; subst h
         exact ⟨⟨rfl, rfl, rfl, rfl, trivial⟩, H.weak (by omega) (Nat.le_refl _)⟩
       ·rintro e σ ⟨he, H⟩
        obtain ⟨e, rfl⟩ := he.ex
        refine .move (v := (vb y4)) rfl rfl ?_
        obtain ⟨y5, hj5, h⟩ := bind_some h
        refine .mid 4 (K1 := fun e σ => Z4 e [(66, (vb y5)), (2, (.ptr (b3 + 1) 4 0)), (3, (.ptr (b4 + 5) 4 0))] ∧ Has σ (b8 + 13) (b8 + 37) [.blk (b4 + 5) 25 [(vi 0), (vi 0), .nils, (.buf (b4 + 3) 1 2)], .sl (.buf (b4 + 3) 1 2) 76 2 ([(Granule.mk 3 [(Span.mk 5 6)])].map Granule.cs) true, .blk (b3 + 1) 25 (vF ZO)]) rfl ?_ ?_
        ·refine .split rfl rfl ?_ ?_ <;> intro hc8
         ·replace h := Z8 hc8 hj5
          refine .wanted rfl rfl (.ZR (off := 0) (cs := [(vi 7), (vi 1), (.buf (b2 + 2) 1 1), .nils]) H 3 rfl rfl rfl rfl rfl rfl rfl (fun _ => .inl ⟨B8 3 _ rfl _ rfl, nofun, (fun _ => by kernel_rfl)⟩) rfl (.wanted rfl rfl (.call (ys := [(vi (-1)), (vi 1)]) (r := (.agg [(vi (Z6 (-1) 1).Low), (vi (Z6 (-1) 1).High), (vb (Z6 (-1) 1).HasLow), (vb (Z6 (-1) 1).HasHigh)])) rfl (Z1o rfl) rfl (.wanted rfl rfl ?_))))
          obtain ⟨x8, q8, h⟩ := bind_some h
          refine .Z4z (xs := [(.agg [(vi 7), (vi 1), (.buf (b2 + 2) 1 1), .nils]), (vi (-6)), (vi 6), (.agg [(vi (Z6 (-1) 1).Low), (vi (Z6 (-1) 1).High), (vb (Z6 (-1) 1).HasLow), (vb (Z6 (-1) 1).HasHigh)])]) (ys := [(.agg (vs (Form.cs (Form.mk 7 1 [[(Span.mk 0 6)]] [])))), (vi (-6)), (vi 6), (.agg (vs (Range.cs (Z6 (-1) 1))))]) H rfl (.cons (.a (.cons (.v _) (.cons (.v _) (.cons (.s 4 rfl) (.cons (.n) .nil))))) (.cons (.c (.v _)) (.cons (.c (.v _)) (.cons (.p rfl) .nil)))) (Z1X q8) rfl rfl (fun _ => by kernel_rfl) rfl fun σ H => (.Zd (v := (vb x8)) rfl rfl rfl (.nil ?_))
          replace h := sj h; subst h
          exact ⟨⟨rfl, rfl, rfl, trivial⟩, ((H.erase 4).erase 3).weak (by omega) (Nat.le_refl _)⟩
         ·replace h := Z7 hc8 hj5
          refine .pass rfl rfl rfl (.pass rfl rfl rfl (.pass rfl rfl rfl (.Zf (v := (vb false)) rfl rfl rfl (.nil ?_))))
          replace h := sj h; subst h
          exact ⟨⟨rfl, rfl, rfl, trivial⟩, ((H.erase 4).erase 3).weak (by omega) (Nat.le_refl _)⟩
        ·rintro e σ ⟨he, H⟩
         obtain ⟨e, rfl⟩ := he.ex
         refine .move (v := (vb y5)) rfl rfl ?_
         obtain ⟨y6, hj6, h⟩ := bind_some h
         refine .mid 5 (K1 := fun e σ => Z4 e [(72, (vb y6)), (2, (.ptr (b3 + 1) 4 0)), (3, (.ptr (b4 + 5) 4 0))] ∧ Has σ (b8 + 19) (b8 + 37) [.blk (b4 + 5) 25 [(vi 0), (vi 0), .nils, (.buf (b4 + 3) 1 2)], .sl (.buf (b4 + 3) 1 2) 76 2 ([(Granule.mk 3 [(Span.mk 5 6)])].map Granule.cs) true, .blk (b3 + 1) 25 (vF ZO)]) rfl ?_ ?_
         ·refine .split rfl rfl ?_ ?_ <;> intro hc9
          ·replace h := Z8 hc9 hj6
           refine .wanted rfl rfl (.ZR (off := 0) (cs := (vF ZO)) H 2 rfl rfl rfl rfl rfl rfl rfl (fun _ => .inl ⟨B8 2 _ rfl _ rfl, nofun, (fun _ => by kernel_rfl)⟩) rfl (.wanted rfl rfl ?_))
           obtain ⟨x9, q9, h⟩ := bind_some h
           refine .call (ys := [(.agg (vF ZO)), (vi 1)]) (r := (.agg [(.v (.int .i8 x9.Inf)), (vi x9.N)])) rfl (Z1C q9) rfl (.wanted rfl rfl (.call (ys := [(vi 3)]) (r := (.agg [(.v (.int .i8 (Z1 3).Inf)), (vi (Z1 3).N)])) rfl (Zt rfl) rfl (.wanted rfl rfl (.binA (u := (.agg [(.v (.int .i8 x9.Inf)), (vi x9.N)])) (w := (.agg [(.v (.int .i8 (Z1 3).Inf)), (vi (Z1 3).N)])) (r := .bool ((x9.Inf == ((Z1 3).Inf)) && ((x9.N == ((Z1 3).N)) && true))) rfl rfl (by kernel_rfl) (fun _ => Z2C rfl rfl rfl rfl) rfl (.Zd (v := (vb ((x9.Inf == ((Z1 3).Inf)) && ((x9.N == ((Z1 3).N)) && true)))) rfl rfl rfl ?_)))))
           refine .nil ?_
           replace h := sj h; subst h
           exact ⟨⟨rfl, rfl, rfl, trivial⟩, H.weak (by omega) (Nat.le_refl _)⟩
          ·replace h := Z7 hc9 hj6
           refine .pass rfl rfl rfl (.pass rfl rfl rfl (.pass rfl rfl rfl (.pass rfl rfl rfl (.Zf (v := (vb false)) rfl rfl rfl (.nil ?_)))))
           replace h := sj h; subst h
           exact ⟨⟨rfl, rfl, rfl, trivial⟩, H.weak (by omega) (Nat.le_refl _)⟩
         ·rintro e σ ⟨he, H⟩
          obtain ⟨e, rfl⟩ := he.ex
          refine .move (v := (vb y6)) rfl rfl ?_
          obtain ⟨y7, hj7, h⟩ := bind_some h
          refine .mid 5 (K1 := fun e σ => Z4 e [(78, (vb y7)), (2, (.ptr (b3 + 1) 4 0)), (3, (.ptr (b4 + 5) 4 0))] ∧ Has σ (b8 + 25) (b8 + 37) [.blk (b4 + 5) 25 [(vi 0), (vi 0), .nils, (.buf (b4 + 3) 1 2)], .sl (.buf (b4 + 3) 1 2) 76 2 ([(Granule.mk 3 [(Span.mk 5 6)])].map Granule.cs) true, .blk (b3 + 1) 25 (vF ZO)]) rfl ?_ ?_
          ·refine .split rfl rfl ?_ ?_ <;> intro hc10
           ·replace h := Z8 hc10 hj7
            refine .wanted rfl rfl (.ZR (off := 0) (cs := (vF ZO)) H 2 rfl rfl rfl rfl rfl rfl rfl (fun _ => .inl ⟨B8 2 _ rfl _ rfl, nofun, (fun _ => by kernel_rfl)⟩) rfl (.wanted rfl rfl ?_))
            obtain ⟨x10, q10, h⟩ := bind_some h
            refine .call (ys := [(.agg (vF ZO)), (vi 1)]) (r := (.agg [(.v (.int .i8 x10.Inf)), (vi x10.N)])) rfl (Z1e q10) rfl (.wanted rfl rfl (.call (ys := [(vi 11)]) (r := (.agg [(.v (.int .i8 (Z1 11).Inf)), (vi (Z1 11).N)])) rfl (Zt rfl) rfl (.wanted rfl rfl (.binA (u := (.agg [(.v (.int .i8 x10.Inf)), (vi x10.N)])) (w := (.agg [(.v (.int .i8 (Z1 11).Inf)), (vi (Z1 11).N)])) (r := .bool ((x10.Inf == ((Z1 11).Inf)) && ((x10.N == ((Z1 11).N)) && true))) rfl rfl (by kernel_rfl) (fun _ => Z2C rfl rfl rfl rfl) rfl (.Zd (v := (vb ((x10.Inf == ((Z1 11).Inf)) && ((x10.N == ((Z1 11).N)) && true)))) rfl rfl rfl ?_)))))
            refine .nil ?_
            replace h := sj h; subst h
            exact ⟨⟨rfl, rfl, rfl, trivial⟩, H.weak (by omega) (Nat.le_refl _)⟩
           ·replace h := Z7 hc10 hj7
            refine .pass rfl rfl rfl (.pass rfl rfl rfl (.pass rfl rfl rfl (.pass rfl rfl rfl (.Zf (v := (vb false)) rfl rfl rfl (.nil ?_)))))
            replace h := sj h; subst h
            exact ⟨⟨rfl, rfl, rfl, trivial⟩, H.weak (by omega) (Nat.le_refl _)⟩
          ·rintro e σ ⟨he, H⟩
           obtain ⟨e, rfl⟩ := he.ex
           refine .move (v := (vb y7)) rfl rfl ?_
           obtain ⟨y8, hj8, h⟩ := bind_some h
           refine .mid 4 (K1 := fun e σ => Z4 e [(83, (vb y8)), (3, (.ptr (b4 + 5) 4 0))] ∧ Has σ (b8 + 30) (b8 + 37) [.blk (b4 + 5) 25 [(vi 0), (vi 0), .nils, (.buf (b4 + 3) 1 2)], .sl (.buf (b4 + 3) 1 2) 76 2 ([(Granule.mk 3 [(Span.mk 5 6)])].map Granule.cs) true]) rfl ?_ ?_
           ·refine .split rfl rfl ?_ ?_ <;> intro hc11
            ·replace h := Z8 hc11 hj8
             refine .wanted rfl rfl (.ZR (off := 0) (cs := (vF ZO)) H 2 rfl rfl rfl rfl rfl rfl rfl (fun _ => .inl ⟨B8 2 _ rfl _ rfl, nofun, (fun _ => by kernel_rfl)⟩) rfl (.wanted rfl rfl (.call (ys := [(vi 0), (vi 0)]) (r := (.agg [(vi (Z6 0 0).Low), (vi (Z6 0 0).High), (vb (Z6 0 0).HasLow), (vb (Z6 0 0).HasHigh)])) rfl (Z1o rfl) rfl (.wanted rfl rfl ?_))))
             obtain ⟨x11, q11, h⟩ := bind_some h
             refine .call (ys := [(.agg (vF ZO)), (vi 1), (vi 2), (.agg [(vi (Z6 0 0).Low), (vi (Z6 0 0).High), (vb (Z6 0 0).HasLow), (vb (Z6 0 0).HasHigh)])]) (r := (vb x11)) rfl (Z1X q11) rfl (.Zd (v := (vb x11)) rfl rfl rfl (.nil ?_))
             replace h := sj h; subst h
             exact ⟨⟨rfl, rfl, trivial⟩, (H.erase 2).weak (by omega) (Nat.le_refl _)⟩
            ·replace h := Z7 hc11 hj8
             refine .pass rfl rfl rfl (.pass rfl rfl rfl (.pass rfl rfl rfl (.Zf (v := (vb false)) rfl rfl rfl (.nil ?_))))
             replace h := sj h; subst h
             exact ⟨⟨rfl, rfl, trivial⟩, (H.erase 2).weak (by omega) (Nat.le_refl _)⟩
           ·rintro e σ ⟨he, H⟩
            obtain ⟨e, rfl⟩ := he.ex
            refine .move (v := (vb y8)) rfl rfl ?_
            obtain ⟨y9, hj9, h⟩ := bind_some h
            refine .mid 5 (K1 := fun e σ => Z4 e [(89, (vb y9))] ∧ Has σ (b8 + 36) (b8 + 37) []) rfl ?_ ?_
            ·refine .split rfl rfl ?_ ?_ <;> intro hc12
             ·replace h := Z8 hc12 hj9
              refine .wanted rfl rfl (.ZR (off := 0) (cs := [(vi 0), (vi 0), .nils, (.buf (b4 + 3) 1 2)]) H 0 rfl rfl rfl rfl rfl rfl rfl (fun _ => .inl ⟨B8 0 _ rfl _ rfl, nofun, (fun _ => by kernel_rfl)⟩) rfl (.wanted rfl rfl ?_))
              obtain ⟨x12, q12, h⟩ := bind_some h
              refine .Z4z (xs := [(.agg [(vi 0), (vi 0), .nils, (.buf (b4 + 3) 1 2)]), (vi 1)]) (ys := [(.agg (vs (Form.cs (Form.mk 0 0 [] [(Granule.mk 3 [(Span.mk 5 6)])])))), (vi 1)]) H rfl (.cons (.a (.cons (.v _) (.cons (.v _) (.cons (.n) (.cons (.s 1 rfl) .nil))))) (.cons (.c (.v _)) .nil)) (Z1C q12) rfl rfl (fun _ => by kernel_rfl) rfl fun σ H => (.wanted rfl rfl (.call (ys := [(vi 1099511627776)]) (r := (.agg [(.v (.int .i8 (Z1 1099511627776).Inf)), (vi (Z1 1099511627776).N)])) rfl (Zt rfl) rfl (.wanted rfl rfl (.binA (u := (.agg [(.v (.int .i8 x12.Inf)), (vi x12.N)])) (w := (.agg [(.v (.int .i8 (Z1 1099511627776).Inf)), (vi (Z1 1099511627776).N)])) (r := .bool ((x12.Inf == ((Z1 1099511627776).Inf)) && ((x12.N == ((Z1 1099511627776).N)) && true))) rfl rfl (by kernel_rfl) (fun _ => Z2C rfl rfl rfl rfl) rfl (.Zd (v := (vb ((x12.Inf == ((Z1 1099511627776).Inf)) && ((x12.N == ((Z1 1099511627776).N)) && true)))) rfl rfl rfl ?_)))))
              refine .nil ?_
              replace h := sj h; subst h
              exact ⟨⟨rfl, trivial⟩, ((H.erase 1).erase 0).weak (by omega) (Nat.le_refl _)⟩
             ·replace h := Z7 hc12 hj9
              refine .pass rfl rfl rfl (.pass rfl rfl rfl (.pass rfl rfl rfl (.pass rfl rfl rfl (.Zf (v := (vb false)) rfl rfl rfl (.nil ?_)))))
              replace h := sj h; subst h
              exact ⟨⟨rfl, trivial⟩, ((H.erase 1).erase 0).weak (by omega) (Nat.le_refl _)⟩
            ·rintro e σ ⟨he, H⟩
             obtain ⟨e, rfl⟩ := he.ex
             refine .assign (v := (vb y9)) rfl rfl (.nila H fun H => (.ret ?_))
             replace h := sj h; subst h
             exact (Ends.H (xs := [(vb y9)]) (.inr rfl) H (.tmp (v := (vb y9)) rfl .nil) (.one (.c (.v _))))

theorem Z1p {r : Bool} (h : ZK = r) : Fn CX 13 [] (vb r) := by
 subst h
 exact Z5z Z5d

theorem Z4u {f : Form} {n : Int} {r : Bool} (h : ZZ f n = some r) : Fn CX 4 [(.agg (vs (Form.cs f))), (vi n)] (vb r) := by
 refine Fn.ends Try.func4 rfl rfl rfl rfl rfl rfl ?_
 have H : Hs (⟨0, fun _ => .none⟩ : Heap) [] := Has.nil (Nat.le_refl _)
 generalize (⟨0, fun _ => .none⟩ : Heap) = σ at H ⊢
 unfold ZZ at h
 refine .then (.Z0 2 rfl H fun b1 σ H => (.boxH (cs := (vF f)) H (by omega) (by omega) rfl rfl rfl fun σ H => (.assign (v := (vb false)) rfl rfl (.nila H fun H => (.then ?_)))))
 refine .then (.Z0 14 rfl H fun b2 σ H => (.ZR (off := 0) (cs := (vF f)) H 0 rfl rfl rfl rfl rfl rfl rfl nofun rfl ?_))
 obtain ⟨x1, q1, h⟩ := bind_some h
 refine .call (ys := [(.agg (vF f))]) (r := (vb x1)) rfl (Z6T q1) rfl (.not (b := x1) rfl rfl (.move (v := (vb (!x1))) rfl rfl ?_))
 refine .mid 5 (K1 := fun e σ => Z4 e [(22, (vb ((!x1) || (decide ((f.Core.length : Int) > 6))))), (1, (vi n)), (2, (.ptr (b1 + 0) 4 0))] ∧ Has σ (b2 + 9) (b2 + 14) [.blk (b1 + 0) 25 (vF f)]) rfl ?_ ?_
 ·refine .split rfl rfl ?_ ?_ <;> intro hc1
  ·skip
   refine .pass rfl rfl rfl (.pass rfl rfl rfl (.pass rfl rfl rfl (.pass rfl rfl rfl (.Zd (v := (vb true)) rfl rfl rfl (.nil ?_)))))
   exact ⟨⟨or_T hc1, rfl, rfl, trivial⟩, H.weak (by omega) (Nat.le_refl _)⟩
  ·skip
   refine .wanted rfl rfl (.Z2 (off := 0) (fo := 2) H 0 rfl rfl rfl rfl rfl nofun rfl (.wanted rfl rfl (.ZA (off := 2) (v := (vl (cL Span.cs) f.Core)) H 0 rfl rfl rfl rfl rfl nofun rfl (.wanted rfl rfl (.Z0K (c := (cL Span.cs)) (xs := f.Core) rfl rfl rfl ?_)))))
   refine .wanted rfl rfl (.int (m := (f.Core.length : Int)) (m' := 6) (r := .bool (decide ((f.Core.length : Int) > 6))) rfl rfl rfl rfl rfl (.Zf (v := (vb (decide ((f.Core.length : Int) > 6)))) rfl rfl rfl (.nil ?_)))
   exact ⟨⟨or_F hc1, rfl, rfl, trivial⟩, H.weak (by omega) (Nat.le_refl _)⟩
 ·rintro e σ ⟨he, H⟩
  obtain ⟨e, rfl⟩ := he.ex
  refine .move (v := (vb ((!x1) || (decide ((f.Core.length : Int) > 6))))) rfl rfl ?_
  refine .mid 4 (K1 := fun e σ => Z4 e [(27, (vb (((!x1) || (decide ((f.Core.length : Int) > 6))) || (decide (f.Period > 1048576))))), (1, (vi n)), (2, (.ptr (b1 + 0) 4 0))] ∧ Has σ (b2 + 14) (b2 + 14) [.blk (b1 + 0) 25 (vF f)]) rfl ?_ ?_
  ·refine .split rfl rfl ?_ ?_ <;> intro hc2
   ·skip
    refine .pass rfl rfl rfl (.pass rfl rfl rfl (.pass rfl rfl rfl (.Zd (v := (vb true)) rfl rfl rfl (.nil ?_))))
    exact ⟨⟨or_T hc2, rfl, rfl, trivial⟩, H.weak (by omega) (Nat.le_refl _)⟩
   ·skip
    refine .wanted rfl rfl (.Z2 (off := 0) (fo := 0) H 0 rfl rfl rfl rfl rfl nofun rfl (.wanted rfl rfl (.ZA (off := 0) (v := (vi f.Period)) H 0 rfl rfl rfl rfl rfl nofun rfl (.wanted rfl rfl (.int (m := f.Period) (m' := 1048576) (r := .bool (decide (f.Period > 1048576))) rfl rfl rfl rfl rfl ?_)))))
    refine .Zf (v := (vb (decide (f.Period > 1048576)))) rfl rfl rfl (.nil ?_)
    exact ⟨⟨or_F hc2, rfl, rfl, trivial⟩, H.weak (by omega) (Nat.le_refl _)⟩
  ·rintro e σ ⟨he, H⟩
   obtain ⟨e, rfl⟩ := he.ex
   refine .nila H fun H => ?_
   refine .whether (v := (((!x1) || (decide ((f.Core.length : Int) > 6))) || (decide (f.Period > 1048576)))) rfl ?_ ?_ <;> intro hc3
   ·replace h := Z8 hc3 h
    refine .then (.Z0 2 rfl H fun b3 σ H => (.call (ys := []) (r := (vb ZK)) rfl (Z1p rfl) rfl (.assign (v := (vb ZK)) rfl rfl (.nila H fun H => (.ret ?_)))))
    replace h := sj h; subst h
    exact (Ends.H (xs := [(vb ZK)]) (.inr rfl) H (.tmp (v := (vb ZK)) rfl .nil) (.one (.c (.v _))))
   ·replace h := Z7 hc3 h
    refine .skip (.then (.Z0 3 rfl H fun b4 σ H => (.move (v := (vi n)) rfl rfl (.rem (m := n) (m' := 1099511627776) rfl rfl (by decide) rfl (.assign (v := (vi (n.tmod 1099511627776))) rfl rfl ?_)))))
    refine .nila H fun H => (.then (.Z0 11 rfl H fun b5 σ H => (.ZR (off := 0) (cs := (vF f)) H 0 rfl rfl rfl rfl rfl rfl rfl nofun rfl (.move (v := (vi (n.tmod 1099511627776))) rfl rfl (.neg (m := (n.tmod 1099511627776)) rfl rfl ?_)))))
    obtain ⟨x2, q2, h⟩ := bind_some h
    refine .call (ys := [(.agg (vF f)), (vi (w64 (0 - (n.tmod 1099511627776))))]) (r := (.agg [(.v (.int .i8 x2.Inf)), (vi x2.N)])) rfl (Z1C q2) rfl (.call (ys := [(.agg [(.v (.int .i8 x2.Inf)), (vi x2.N)])]) (r := (.tup [(.agg [(.v (.int .i8 (ZE x2).1.Inf)), (vi (ZE x2).1.N)]), (vi (ZE x2).2)])) rfl (Z6i (rfl : ZE x2 = _)) rfl (.move (v := (.tup [(.agg [(.v (.int .i8 (ZE x2).1.Inf)), (vi (ZE x2).1.N)]), (vi (ZE x2).2)])) rfl rfl (.extract (v := (.agg [(.v (.int .i8 (ZE x2).1.Inf)), (vi (ZE x2).1.N)])) rfl rfl rfl (.extract (v := (vi (ZE x2).2)) rfl rfl rfl (.Zs (cs := [(.v (.int .i8 0)), (vi 0)]) H (by omega) (by omega) rfl rfl fun σ H => ?_)))))
    refine .ZV (off := 0) (cells' := [(.v (.int .i8 (ZE x2).1.Inf)), (vi (ZE x2).1.N)]) H 0 rfl rfl rfl rfl rfl rfl rfl rfl rfl nofun fun σ H => (.assign (v := (vi (ZE x2).2)) rfl rfl (.nila H fun H => (.then (.then (.Z0u 9 rfl (by kernel_rfl) H fun b6 σ H B6 => ?_)))))
    refine .move (v := (vi (ZE x2).2)) rfl rfl (.int (m := (ZE x2).2) (m' := 0) (r := .bool (((ZE x2).2) != 0)) rfl rfl rfl rfl rfl (.move (v := (vb (((ZE x2).2) != 0))) rfl rfl ?_))
    obtain ⟨y1, hj1, h⟩ := bind_some h
    refine .mid 6 (K1 := fun e σ => Z4 e [(47, (vb y1)), (2, (.ptr (b1 + 0) 4 0)), (5, (vi (n.tmod 1099511627776)))] ∧ Has σ (b6 + 9) (b6 + 9) [.blk (b1 + 0) 25 (vF f)]) rfl ?_ ?_
    ·refine .split rfl rfl ?_ ?_ <;> intro hc4
     ·replace h := Z8 hc4 hj1
      refine .pass rfl rfl rfl (.pass rfl rfl rfl (.pass rfl rfl rfl (.pass rfl rfl rfl (.pass rfl rfl rfl (.Zd (v := (vb true)) rfl rfl rfl ?_)))))
      refine .nil ?_
      replace h := sj h; subst h
      exact ⟨⟨rfl, rfl, rfl, trivial⟩, (H.erase 0).weak (by omega) (Nat.le_refl _)⟩
     ·replace h := Z7 hc4 hj1
      refine .wanted rfl rfl (.ZR (off := 0) (cs := (vF f)) H 1 rfl rfl rfl rfl rfl rfl rfl (fun _ => .inl ⟨B6 1 _ rfl _ rfl, nofun, (fun _ => by kernel_rfl)⟩) rfl (.wanted rfl rfl (.move (v := (vi (n.tmod 1099511627776))) rfl rfl (.wanted rfl rfl ?_))))
      obtain ⟨x3, q3, h⟩ := bind_some h
      refine .call (ys := [(.agg (vF f)), (vi (n.tmod 1099511627776))]) (r := (.agg [(.v (.int .i8 x3.Inf)), (vi x3.N)])) rfl (Z1e q3) rfl (.wanted rfl rfl (.ZR (off := 0) (cs := [(.v (.int .i8 (ZE x2).1.Inf)), (vi (ZE x2).1.N)]) H 0 rfl rfl rfl rfl rfl rfl rfl (fun _ => .inl ⟨B6 0 _ rfl _ rfl, nofun, (fun _ => by kernel_rfl)⟩) rfl (.wanted rfl rfl (.binA (u := (.agg [(.v (.int .i8 x3.Inf)), (vi x3.N)])) (w := (.agg [(.v (.int .i8 (ZE x2).1.Inf)), (vi (ZE x2).1.N)])) (r := .bool (!((x3.Inf == ((ZE x2).1.Inf)) && ((x3.N == ((ZE x2).1.N)) && true)))) rfl rfl (by kernel_rfl) (fun _ => Z2C rfl rfl rfl rfl) rfl (.Zf (v := (vb (!((x3.Inf == ((ZE x2).1.Inf)) && ((x3.N == ((ZE x2).1.N)) && true))))) rfl rfl rfl ?_)))))
      refine .nil ?_
      replace h := sj h; subst h
      exact ⟨⟨rfl, rfl, rfl, trivial⟩, (H.erase 0).weak (by omega) (Nat.le_refl _)⟩
    ·rintro e σ ⟨he, H⟩
     obtain ⟨e, rfl⟩ := he.ex
     refine .nila H fun H => ?_
     refine .whether (v := y1) rfl ?_ ?_ <;> intro hc5
     ·replace h := Z8 hc5 h
      refine .then (.Z0 1 rfl H fun b7 σ H => (.assign (v := (vb false)) rfl rfl (.nila H fun H => (.ret ?_))))
      replace h := sj h; subst h
      exact (Ends.H (xs := [(vb false)]) (.inr rfl) H (.tmp (v := (vb false)) rfl .nil) (.one (.c (.v _))))
     ·replace h := Z7 hc5 h
      refine .skip (.then (.then (.Z0 9 rfl H fun b8 σ H => (.Z2 (off := 0) (fo := 3) H 0 rfl rfl rfl rfl rfl nofun rfl (.ZA (off := 3) (v := (vl Granule.cs f.Odd)) H 0 rfl rfl rfl rfl rfl nofun rfl ?_)))))
      refine .Z0K (c := Granule.cs) (xs := f.Odd) rfl rfl rfl (.int (m := (f.Odd.length : Int)) (m' := 0) (r := .bool (decide ((f.Odd.length : Int) > 0))) rfl rfl rfl rfl rfl (.move (v := (vb (decide ((f.Odd.length : Int) > 0)))) rfl rfl ?_))
      refine .mid 4 (K1 := fun e σ => Z4 e [(56, (vb ((decide ((f.Odd.length : Int) > 0)) || (f.Count == 0)))), (2, (.ptr (b1 + 0) 4 0)), (5, (vi (n.tmod 1099511627776)))] ∧ Has σ (b8 + 9) (b8 + 9) [.blk (b1 + 0) 25 (vF f)]) rfl ?_ ?_
      ·refine .split rfl rfl ?_ ?_ <;> intro hc6
       ·skip
        refine .pass rfl rfl rfl (.pass rfl rfl rfl (.pass rfl rfl rfl (.Zd (v := (vb true)) rfl rfl rfl (.nil ?_))))
        exact ⟨⟨or_T hc6, rfl, rfl, trivial⟩, H.weak (by omega) (Nat.le_refl _)⟩
       ·skip
        refine .wanted rfl rfl (.Z2 (off := 0) (fo := 1) H 0 rfl rfl rfl rfl rfl nofun rfl (.wanted rfl rfl (.ZA (off := 1) (v := (vi f.Count)) H 0 rfl rfl rfl rfl rfl nofun rfl (.wanted rfl rfl (.int (m := f.Count) (m' := 0) (r := .bool (f.Count == 0)) rfl rfl rfl rfl rfl ?_)))))
        refine .Zf (v := (vb (f.Count == 0))) rfl rfl rfl (.nil ?_)
        exact ⟨⟨or_F hc6, rfl, rfl, trivial⟩, H.weak (by omega) (Nat.le_refl _)⟩
      ·rintro e σ ⟨he, H⟩
       obtain ⟨e, rfl⟩ := he.ex
       refine .nila H fun H => ?_
       refine .whether (v := ((decide ((f.Odd.length : Int) > 0)) || (f.Count == 0))) rfl ?_ ?_ <;> intro hc7
       ·replace h := Z8 hc7 h
        refine .then (.Z0 2 rfl H fun b9 σ H => (.call (ys := []) (r := (vb ZK)) rfl (Z1p rfl) rfl (.assign (v := (vb ZK)) rfl rfl (.nila H fun H => (.ret ?_)))))
        replace h := sj h; subst h
        exact (Ends.H (xs := [(vb ZK)]) (.inr rfl) H (.tmp (v := (vb ZK)) rfl .nil) (.one (.c (.v _))))
       ·replace h := Z7 hc7 h
        refine .skip (.then (.Z0u 13 rfl (by kernel_rfl) H fun b10 σ H B10 => (.Z2 (off := 0) (fo := 0) H 0 rfl rfl rfl rfl rfl (fun _ => .inl ⟨B10 0 _ rfl _ rfl, nofun, (fun _ => by kernel_rfl)⟩) rfl (.loadHR (off := 0) (v := (vi f.Period)) H 0 rfl rfl rfl rfl rfl (fun _ => ⟨B10 0 _ rfl _ rfl, _, rfl, mem_one⟩) rfl (.int (m := 2) (m' := f.Period) (r := .int .i64 (w64 (2 * f.Period))) rfl rfl rfl rfl rfl ?_)))))
        refine .Z2 (off := 0) (fo := 1) H 0 rfl rfl rfl rfl rfl (fun _ => .inl ⟨B10 0 _ rfl _ rfl, nofun, (fun _ => by kernel_rfl)⟩) rfl (.loadHR (off := 1) (v := (vi f.Count)) H 0 rfl rfl rfl rfl rfl (fun _ => ⟨B10 0 _ rfl _ rfl, _, rfl, mem_one⟩) rfl (.int (m := 2) (m' := f.Count) (r := .int .i64 (w64 (2 * f.Count))) rfl rfl rfl rfl rfl (.Z2i (sz := 1) ([].map (cL Span.cs)) H (by omega) (by omega) rfl rfl rfl rfl rfl rfl rfl rfl rfl fun σ H => (.Z2 (off := 0) (fo := 2) H 1 rfl rfl rfl rfl rfl (fun _ => .inl ⟨B10 0 _ rfl _ rfl, nofun, (fun _ => by kernel_rfl)⟩) rfl (.ZA (off := 2) (v := (vl (cL Span.cs) f.Core)) H 1 rfl rfl rfl rfl rfl (fun _ => .inl ⟨B10 0 _ rfl _ rfl, nofun, (fun _ => by kernel_rfl)⟩) rfl ?_)))))
        obtain ⟨x4, q4, h⟩ := bind_some h
        refine .appendBt (c := (cL Span.cs)) (w := (vl (cL Span.cs) f.Core)) (xs := []) (ys := f.Core) H (by omega) (by omega) 0 rfl rfl rfl (.m (fun _ => rfl)) q4 rfl rfl rfl rfl rfl (fun h => ⟨(fun id ho => .inr ⟨6, (by cases ho; rfl), (fun h => nomatch h), by kernel_rfl, by decide⟩), (fun id ho => nomatch ho)⟩) rfl fun σ H => (.Z0d (cs := [(vi (w64 (2 * f.Period))), (vi (w64 (2 * f.Count))), (.buf (b10 + 6) x4.length 1), .nils]) rfl rfl (.Zs (cs := [(vi 0), (vi 0), .nils, .nils]) H (by omega) (by omega) rfl rfl fun σ H => (.ZV (off := 0) (cells' := [(vi (w64 (2 * f.Period))), (vi (w64 (2 * f.Count))), (.buf (b10 + 6) x4.length 1), .nils]) H 0 rfl rfl rfl rfl rfl rfl rfl rfl rfl (fun _ => .inr ⟨11, rfl, by kernel_rfl, by decide⟩) fun σ H => (.nila H fun H => (.then ?_)))))
        refine .then (.Z0 4 rfl H fun b11 σ H => (.Z2 (off := 0) (fo := 2) H 2 rfl rfl rfl rfl rfl nofun rfl (.ZA (off := 2) (v := (vl (cL Span.cs) f.Core)) H 2 rfl rfl rfl rfl rfl nofun rfl (.Z0K (c := (cL Span.cs)) (xs := f.Core) rfl rfl rfl (.move (v := (vi 0)) rfl rfl ?_)))))
        refine .nila H fun H => (.inBlock ?_)
        obtain ⟨y2, hj2, h⟩ := bind_some h
        obtain ⟨n1, hj2⟩ := Zb.1 hj2
        refine .mono (Runs.ZN hj2 (fun s1 e σ => ∃ (w4 : PV), Z4 e [(2, (.ptr (b1 + 0) 4 0)), (5, (vi (n.tmod 1099511627776))), (8, (.ptr (b10 + 11) 4 0)), (70, (vl (cL Span.cs) f.Core)), (71, (vi (f.Core.length : Int))), (72, (vi s1.1))] ∧ Hs σ [.blk (b10 + 11) 25 [(vi s1.2.1), (vi s1.2.2.1), w4, .nils], .sl w4 41 1 (s1.2.2.2.map (cL Span.cs)) true, .blk (b1 + 0) 25 (vF f)]) (fun y2 x e σ => ∃ (w5 : PV), x = .exit 0 ∧ Z4 e [(2, (.ptr (b1 + 0) 4 0)), (5, (vi (n.tmod 1099511627776))), (8, (.ptr (b10 + 11) 4 0))] ∧ Hs σ [.blk (b10 + 11) 25 [(vi y2.1), (vi y2.2.1), w5, .nils], .sl w5 41 1 (y2.2.2.map (cL Span.cs)) true, .blk (b1 + 0) 25 (vF f)]) ⟨(.buf (b10 + 6) x4.length 1), ⟨rfl, rfl, rfl, rfl, rfl, rfl, trivial⟩, H⟩ ?_) ?_
        ·intro s1 e σ hI z h
         obtain ⟨w4, he, H⟩ := hI
         obtain ⟨e, rfl⟩ := he.ex
         unfold ZZ.s0 at h
         refine .then (.Z0 1 rfl H fun b12 σ H => (.int (m := s1.1) (m' := (f.Core.length : Int)) (r := .bool (decide (s1.1 < (f.Core.length : Int)))) rfl rfl rfl rfl rfl (.nila H fun H => (.then ?_))))
         refine .whether (v := (decide (s1.1 < (f.Core.length : Int)))) rfl ?_ ?_ <;> intro hc8
         ·replace h := Z8 hc8 h
          refine .skip (.then (.inBlock (.then (.Z0 3 rfl H fun b13 σ H => ?_))))
          obtain ⟨x5, q5, h⟩ := bind_some h
          refine .Z03 (c := (cL Span.cs)) (u := x5) rfl rfl q5 rfl rfl rfl rfl (.Z1m (u := (.sl (x5.map Span.cs))) rfl rfl rfl rfl (.assign (v := (vl Span.cs x5)) rfl rfl (.nila H fun H => (.then (.Z0 1 rfl H fun b14 σ H => ?_)))))
          refine .assign (v := .nils) rfl rfl (.nila H fun H => (.then (.then (.Z0 3 rfl H fun b15 σ H => (.move (v := (vl Span.cs x5)) rfl rfl ?_)))))
          refine .Z0K (c := Span.cs) (xs := x5) rfl rfl rfl (.move (v := (vi 0)) rfl rfl (.nila H fun H => (.inBlock ?_)))
          replace H := H.pushNil 43 2 true
          obtain ⟨y3, hj3, h⟩ := bind_some h
          obtain ⟨n2, hj3⟩ := Zb.1 hj3
          refine .mono (Runs.ZN hj3 (fun s3 e σ => ∃ (w8 : PV), Z4 e [(2, (.ptr (b1 + 0) 4 0)), (5, (vi (n.tmod 1099511627776))), (8, (.ptr (b10 + 11) 4 0)), (11, w8), (70, (vl (cL Span.cs) f.Core)), (71, (vi (f.Core.length : Int))), (72, (vi s1.1)), (76, (vl Span.cs x5)), (77, (vi (x5.length : Int))), (78, (vi s3.1))] ∧ Hs σ [.sl w8 43 2 (s3.2.map Span.cs) true, .blk (b10 + 11) 25 [(vi s1.2.1), (vi s1.2.2.1), w4, .nils], .sl w4 41 1 (s1.2.2.2.map (cL Span.cs)) true, .blk (b1 + 0) 25 (vF f)]) (fun y3 x e σ => ∃ (w9 : PV), x = .exit 2 ∧ Z4 e [(2, (.ptr (b1 + 0) 4 0)), (5, (vi (n.tmod 1099511627776))), (8, (.ptr (b10 + 11) 4 0)), (11, w9), (70, (vl (cL Span.cs) f.Core)), (71, (vi (f.Core.length : Int))), (72, (vi s1.1))] ∧ Hs σ [.sl w9 43 2 (y3.map Span.cs) true, .blk (b10 + 11) 25 [(vi s1.2.1), (vi s1.2.2.1), w4, .nils], .sl w4 41 1 (s1.2.2.2.map (cL Span.cs)) true, .blk (b1 + 0) 25 (vF f)]) ⟨.nils, ⟨rfl, rfl, rfl, rfl, rfl, rfl, rfl, rfl, rfl, rfl, trivial⟩, H⟩ ?_) ?_
          ·intro s3 e σ hI z h
           obtain ⟨w8, he, H⟩ := hI
           obtain ⟨e, rfl⟩ := he.ex
           unfold ZZ.s1 at h
           refine .then (.Z0 1 rfl H fun b16 σ H => (.int (m := s3.1) (m' := (x5.length : Int)) (r := .bool (decide (s3.1 < (x5.length : Int)))) rfl rfl rfl rfl rfl (.nila H fun H => (.then ?_))))
           refine .whether (v := (decide (s3.1 < (x5.length : Int)))) rfl ?_ ?_ <;> intro hc9
           ·replace h := Z8 hc9 h
            refine .skip (.then (.inBlock (.then (.Z0 4 rfl H fun b17 σ H => ?_))))
            obtain ⟨x6, q6, h⟩ := bind_some h
            refine .Z03 (c := Span.cs) (u := x6) rfl rfl q6 rfl rfl rfl rfl (.Z2g (cs := [(.int .i64 x6.From), (.int .i64 x6.To)]) rfl rfl rfl rfl rfl rfl (.Zs (cs := [(vi 0), (vi 0)]) H (by omega) (by omega) rfl rfl fun σ H => (.ZV (off := 0) (cells' := [(vi x6.From), (vi x6.To)]) H 0 rfl rfl rfl rfl rfl rfl rfl rfl rfl nofun fun σ H => (.nila H fun H => (.Z0 15 rfl H fun b18 σ H => ?_)))))
            refine .move (v := w8) rfl rfl (.Z2 (off := 0) (fo := 0) H 0 rfl rfl rfl rfl rfl nofun rfl (.ZA (off := 0) (v := (vi x6.From)) H 0 rfl rfl rfl rfl rfl nofun rfl (.Z2 (off := 0) (fo := 0) H 4 rfl rfl rfl rfl rfl nofun rfl (.ZA (off := 0) (v := (vi f.Period)) H 4 rfl rfl rfl rfl rfl nofun rfl (.int (m := x6.From) (m' := f.Period) (r := .int .i64 (w64 (x6.From + f.Period))) rfl rfl rfl rfl rfl ?_)))))
            refine .Z2 (off := 0) (fo := 1) H 0 rfl rfl rfl rfl rfl nofun rfl (.ZA (off := 1) (v := (vi x6.To)) H 0 rfl rfl rfl rfl rfl nofun rfl (.Z2 (off := 0) (fo := 0) H 4 rfl rfl rfl rfl rfl nofun rfl (.ZA (off := 0) (v := (vi f.Period)) H 4 rfl rfl rfl rfl rfl nofun rfl (.int (m := x6.To) (m' := f.Period) (r := .int .i64 (w64 (x6.To + f.Period))) rfl rfl rfl rfl rfl (.Z0d (cs := [(vi (w64 (x6.From + f.Period))), (vi (w64 (x6.To + f.Period)))]) rfl rfl ?_)))))
            refine .Z2i (sz := 2) ([(Span.mk (w64 (x6.From + f.Period)) (w64 (x6.To + f.Period)))].map Span.cs) H (by omega) (by omega) rfl rfl rfl rfl rfl rfl rfl rfl rfl fun σ H => ?_
            obtain ⟨x7, q7, h⟩ := bind_some h
            refine .Z44 (c := Span.cs) (v := w8) (w := (.buf (b18 + 12) 1 2)) (xs := s3.2) (ys := [(Span.mk (w64 (x6.From + f.Period)) (w64 (x6.To + f.Period)))]) H (by omega) (by omega) 2 rfl rfl rfl (.s 0 rfl) q7 rfl rfl rfl rfl rfl nofun rfl fun w10 σ H => (.assign (v := w10) rfl rfl (.nila H fun H => (.Z0 2 rfl H fun b19 σ H => (.int (m := s3.1) (m' := 1) (r := .int .i64 (w64 (s3.1 + 1))) rfl rfl rfl rfl rfl (.move (v := (vi (w64 (s3.1 + 1)))) rfl rfl ?_)))))
            refine .nila H fun H => ?_
            replace h := sj h; subst h
            exact ⟨rfl, w10, ⟨rfl, rfl, rfl, rfl, rfl, rfl, rfl, rfl, rfl, rfl, trivial⟩, ((H.erase 1).erase 0)⟩
           ·replace h := Z7 hc9 h
            refine .exit ?_
            replace h := sj h; subst h
            exact ⟨nofun, ⟨w8, rfl, ⟨rfl, rfl, rfl, rfl, rfl, rfl, rfl, trivial⟩, H⟩⟩
          ·rintro x e σ ⟨w11, rfl, he, H⟩
           obtain ⟨e, rfl⟩ := he.ex
           refine .Z0 7 rfl H fun b20 σ H => (.Z2 (off := 0) (fo := 2) H 1 rfl rfl rfl rfl rfl nofun rfl (.ZA (off := 2) (v := w4) H 1 rfl rfl rfl rfl rfl nofun rfl (.move (v := w11) rfl rfl (.buildSF (sz := 1) ([y3].map (cL Span.cs)) H (by omega) (by omega) rfl rfl (.exp (.c (.s 0 rfl)) .nil) rfl rfl rfl rfl rfl rfl rfl nofun fun σ H => ?_))))
           obtain ⟨x8, q8, h⟩ := bind_some h
           refine .Z44 (c := (cL Span.cs)) (v := w4) (w := (.buf (b20 + 3) 1 1)) (xs := s1.2.2.2) (ys := [y3]) H (by omega) (by omega) 3 rfl rfl rfl (.s 0 rfl) q8 rfl rfl rfl rfl rfl nofun rfl fun w12 σ H => (.Z2 (off := 0) (fo := 2) H 2 rfl rfl rfl rfl rfl nofun rfl (.ZV (off := 2) (v := w12) (ys := [w12]) (cells' := [(vi s1.2.1), (vi s1.2.2.1), w12, .nils]) H 2 rfl rfl rfl rfl (H.slCells (k := 3) rfl) rfl rfl rfl rfl nofun fun σ H => (.nila H fun H => (.Z0 2 rfl H fun b21 σ H => (.int (m := s1.1) (m' := 1) (r := .int .i64 (w64 (s1.1 + 1))) rfl rfl rfl rfl rfl ?_)))))
           refine .move (v := (vi (w64 (s1.1 + 1)))) rfl rfl (.nila H fun H => ?_)
           replace h := sj h; subst h
           exact ⟨rfl, w12, ⟨rfl, rfl, rfl, rfl, rfl, rfl, trivial⟩, ((H.erase 1).erase 0)⟩
         ·replace h := Z7 hc8 h
          refine .exit ?_
          replace h := sj h; subst h
          exact ⟨nofun, ⟨w4, rfl, ⟨rfl, rfl, rfl, trivial⟩, H⟩⟩
        ·rintro x e σ ⟨w13, rfl, he, H⟩
         obtain ⟨e, rfl⟩ := he.ex
         refine .then (.then (.Z0 3 rfl H fun b22 σ H => (.ZR (off := 0) (cs := [(vi y2.1), (vi y2.2.1), w13, .nils]) H 0 rfl rfl rfl rfl rfl rfl rfl nofun rfl ?_)))
         obtain ⟨x9, q9, h⟩ := bind_some h
         refine .Z4z (xs := [(.agg [(vi y2.1), (vi y2.2.1), w13, .nils])]) (ys := [(.agg (vs (Form.cs (Form.mk y2.1 y2.2.1 y2.2.2 []))))]) H rfl (.cons (.a (.cons (.v _) (.cons (.v _) (.cons (.s 1 rfl) (.cons (.n) .nil))))) .nil) (Z6g q9) rfl rfl nofun rfl fun σ H => (.int (m := x9) (m' := 0) (r := .bool (x9 != 0)) rfl rfl rfl rfl rfl (.nila H fun H => ?_))
         refine .whether (v := (x9 != 0)) rfl ?_ ?_ <;> intro hc10
         ·replace h := Z8 hc10 h
          refine .then (.Z0 2 rfl H fun b23 σ H => (.call (ys := []) (r := (vb ZK)) rfl (Z1p rfl) rfl (.assign (v := (vb ZK)) rfl rfl (.nila H fun H => (.ret ?_)))))
          replace h := sj h; subst h
          exact (Ends.H (xs := [(vb ZK)]) (.inr rfl) H (.tmp (v := (vb ZK)) rfl .nil) (.one (.c (.v _))))
         ·replace h := Z7 hc10 h
          refine .skip (.then (.Z0u 20 rfl (by kernel_rfl) H fun b24 σ H B24 => (.ZR (off := 0) (cs := [(vi y2.1), (vi y2.2.1), w13, .nils]) H 0 rfl rfl rfl rfl rfl rfl rfl (fun _ => .inl ⟨B24 0 _ rfl _ rfl, nofun, (fun _ => by kernel_rfl)⟩) rfl (.move (v := (vi (n.tmod 1099511627776))) rfl rfl ?_))))
          obtain ⟨x10, q10, h⟩ := bind_some h
          refine .callZS (xs := [(.agg [(vi y2.1), (vi y2.2.1), w13, .nils]), (vi (n.tmod 1099511627776))]) (ys := [(.agg (vs (Form.cs (Form.mk y2.1 y2.2.1 y2.2.2 [])))), (vi (n.tmod 1099511627776))]) H rfl (.cons (.a (.cons (.v _) (.cons (.v _) (.cons (.s 1 rfl) (.cons (.n) .nil))))) (.cons (.c (.v _)) .nil)) (Z1C q10) rfl rfl (fun _ => by kernel_rfl) rfl (.ZR (off := 0) (cs := (vF f)) H 2 rfl rfl rfl rfl rfl rfl rfl (fun _ => .inl ⟨B24 2 _ rfl _ rfl, nofun, (fun _ => by kernel_rfl)⟩) rfl (.move (v := (vi (n.tmod 1099511627776))) rfl rfl ?_))
          obtain ⟨x11, q11, h⟩ := bind_some h
          refine .call (ys := [(.agg (vF f)), (vi (n.tmod 1099511627776))]) (r := (.agg [(.v (.int .i8 x11.Inf)), (vi x11.N)])) rfl (Z1C q11) rfl (.binA (u := (.agg [(.v (.int .i8 x10.Inf)), (vi x10.N)])) (w := (.agg [(.v (.int .i8 x11.Inf)), (vi x11.N)])) (r := .bool ((x10.Inf == x11.Inf) && ((x10.N == x11.N) && true))) rfl rfl (by kernel_rfl) (fun _ => Z2C rfl rfl rfl rfl) rfl (.move (v := (vb ((x10.Inf == x11.Inf) && ((x10.N == x11.N) && true)))) rfl rfl ?_))
          obtain ⟨y4, hj4, h⟩ := bind_some h
          refine .mid 8 (K1 := fun e σ => Z4 e [(123, (vb y4))] ∧ Has σ (b24 + 16) (b24 + 20) []) rfl ?_ ?_
          ·refine .split rfl rfl ?_ ?_ <;> intro hc11
           ·replace h := Z8 hc11 hj4
            refine .wanted rfl rfl (.ZR (off := 0) (cs := [(vi y2.1), (vi y2.2.1), w13, .nils]) H 0 rfl rfl rfl rfl rfl rfl rfl (fun _ => .inl ⟨B24 0 _ rfl _ rfl, nofun, (fun _ => by kernel_rfl)⟩) rfl (.wanted rfl rfl (.move (v := (vi (n.tmod 1099511627776))) rfl rfl (.wanted rfl rfl ?_))))
            obtain ⟨x12, q12, h⟩ := bind_some h
            refine .callZS (xs := [(.agg [(vi y2.1), (vi y2.2.1), w13, .nils]), (vi (n.tmod 1099511627776))]) (ys := [(.agg (vs (Form.cs (Form.mk y2.1 y2.2.1 y2.2.2 [])))), (vi (n.tmod 1099511627776))]) H rfl (.cons (.a (.cons (.v _) (.cons (.v _) (.cons (.s 1 rfl) (.cons (.n) .nil))))) (.cons (.c (.v _)) .nil)) (Z1e q12) rfl rfl (fun _ => by kernel_rfl) rfl (.wanted rfl rfl (.ZR (off := 0) (cs := (vF f)) H 2 rfl rfl rfl rfl rfl rfl rfl (fun _ => .inl ⟨B24 2 _ rfl _ rfl, nofun, (fun _ => by kernel_rfl)⟩) rfl (.wanted rfl rfl (.move (v := (vi (n.tmod 1099511627776))) rfl rfl (.wanted rfl rfl ?_)))))
            obtain ⟨x13, q13, h⟩ := bind_some h
            refine .call (ys := [(.agg (vF f)), (vi (n.tmod 1099511627776))]) (r := (.agg [(.v (.int .i8 x13.Inf)), (vi x13.N)])) rfl (Z1e q13) rfl (.wanted rfl rfl (.binA (u := (.agg [(.v (.int .i8 x12.Inf)), (vi x12.N)])) (w := (.agg [(.v (.int .i8 x13.Inf)), (vi x13.N)])) (r := .bool ((x12.Inf == x13.Inf) && ((x12.N == x13.N) && true))) rfl rfl (by kernel_rfl) (fun _ => Z2C rfl rfl rfl rfl) rfl (.Zd (v := (vb ((x12.Inf == x13.Inf) && ((x12.N == x13.N) && true)))) rfl rfl rfl (.nil ?_))))
            replace h := sj h; subst h
            exact ⟨⟨rfl, trivial⟩, (((H.erase 2).erase 1).erase 0).weak (by omega) (Nat.le_refl _)⟩
           ·replace h := Z7 hc11 hj4
            refine .pass rfl rfl rfl (.pass rfl rfl rfl (.pass rfl rfl rfl (.pass rfl rfl rfl (.pass rfl rfl rfl (.pass rfl rfl rfl ?_)))))
            refine .pass rfl rfl rfl (.Zf (v := (vb false)) rfl rfl rfl (.nil ?_))
            replace h := sj h; subst h
            exact ⟨⟨rfl, trivial⟩, (((H.erase 2).erase 1).erase 0).weak (by omega) (Nat.le_refl _)⟩
          ·rintro e σ ⟨he, H⟩
           obtain ⟨e, rfl⟩ := he.ex
           refine .move (v := (vb y4)) rfl rfl ?_
           refine .mid 2 (K1 := fun e σ => Z4 e [(126, (vb (y4 && ZK)))] ∧ Has σ (b24 + 19) (b24 + 20) []) rfl ?_ ?_
           ·refine .split rfl rfl ?_ ?_ <;> intro hc12
            ·skip
             refine .wanted rfl rfl (.call (ys := []) (r := (vb ZK)) rfl (Z1p rfl) rfl (.Zd (v := (vb ZK)) rfl rfl rfl (.nil ?_)))
             exact ⟨⟨Z2E hc12, trivial⟩, H.weak (by omega) (Nat.le_refl _)⟩
            ·skip
             refine .pass rfl rfl rfl (.Zf (v := (vb false)) rfl rfl rfl (.nil ?_))
             exact ⟨⟨Z2H hc12, trivial⟩, H.weak (by omega) (Nat.le_refl _)⟩
           ·rintro e σ ⟨he, H⟩
            obtain ⟨e, rfl⟩ := he.ex
            refine .assign (v := (vb (y4 && ZK))) rfl rfl (.nila H fun H => (.ret ?_))
            replace h := sj h; subst h
            exact (Ends.H (xs := [(vb (y4 && ZK))]) (.inr rfl) H (.tmp (v := (vb (y4 && ZK))) rfl .nil) (.one (.c (.v _))))

end Go.Dn

namespace Go.Dn
open Go

theorem Z1V {S R : Type} {step : S → Option (S ⊕ R)} (I : S → Prop) (m : S → Nat) (post : R → Prop)
  (h : ∀ s, I s → (∃ s', step s = some (.inl s') ∧ I s' ∧ m s' < m s) ∨ (∃ r, step s = some (.inr r) ∧ post r)) : ∀ s, I s → ∃ r, ZN step s = some r ∧ post r := by
 have key : ∀ n s, m s = n → I s → ∃ r, ZN step s = some r ∧ post r := by
  intro n
  induction n using Nat.strongRecOn with
  | _ n ih =>
   intro s hm hI
   rcases h s hI with ⟨s', h1, h2, h3⟩ | ⟨r, h1, h2⟩
   ·obtain ⟨r, q1, q2⟩ := ih (m s') (by omega) s' rfl h2
    exact ⟨r, by rw [Z27, h1]; exact q1, q2⟩
   ·exact ⟨r, by rw [Z27, h1], h2⟩
 exact fun s hI => key _ s rfl hI

theorem Z1K {S R : Type} {step : S → Option (S ⊕ R)} (I : S → R → Prop) (m : S → Nat)
  (h : ∀ s r, I s r → (∃ s', step s = some (.inl s') ∧ I s' r ∧ m s' < m s) ∨ step s = some (.inr r)) {s : S} {r : R} (hI : I s r) : ZN step s = some r := by
 obtain ⟨r', h1, h2⟩ := Z1V (I := fun s => I s r) m (fun r' => r' = r) (fun s hs => by
  rcases h s r hs with ⟨s', h1, h2, h3⟩ | h1
  ·exact .inl ⟨s', h1, h2, h3⟩
  ·exact .inr ⟨r, h1, rfl⟩) s hI
 rw [h1, h2]

theorem Z57 (a : Int) : IntKind.i64.wrap a = (a + 9223372036854775808) % 18446744073709551616 - 9223372036854775808 := by
 simp [IntKind.wrap, IntKind.bits, IntKind.signed]
 split <;> omega
theorem Z4w (a : Int) : IntKind.u64.wrap a = a % 18446744073709551616 := by
 simp [IntKind.wrap, IntKind.bits, IntKind.signed]
theorem ZQ {x : Int} (h : -9223372036854775808 ≤ x ∧ x ≤ 9223372036854775807) : w64 x = x := by
 unfold w64; rw [Z57]; omega
theorem Z84 : maxLen = 9223372036854775807 := rfl
theorem Z4V : room = 140737488355328 := rfl

theorem at?_lt {α : Type} {l : List α} {i : Int} (h0 : 0 ≤ i) (h : i < l.length) : at? l i = some (l[i.toNat]'(by omega)) := by
 unfold at?; rw [if_pos h0, List.getElem?_eq_getElem]
theorem at?_nat {α : Type} {l : List α} {k : Nat} (h : k < l.length) : at? l (k : Int) = some l[k] := by
 rw [at?_lt (by omega) (by omega)]; rfl
theorem app?_ok {α : Type} {b : Nat} {l m : List α} (h : (l.length + m.length) * b ≤ room) : app? b l m = some (l ++ m) := if_pos h
theorem nz?_ok {b : Int} (h : b ≠ 0) : nz? b = some () := if_neg h

theorem beq_t {a b : Int} (h : a = b) : (a == b) = true := by simp [h]
theorem beq_f {a b : Int} (h : a ≠ b) : (a == b) = false := by simp [h]
theorem bne_t {a b : Int} (h : a ≠ b) : (a != b) = true := by simp [h]
theorem bne_f {a b : Int} (h : a = b) : (a != b) = false := by simp [h]
theorem ibeq (a b : Int) : (a == b) = decide (a = b) := by by_cases h : a = b <;> simp [h]
theorem Ze {p : Prop} [Decidable p] (h : p) : decide p = true := by simp [h]
theorem Zm {p : Prop} [Decidable p] (h : ¬ p) : decide p = false := by simp [h]

theorem pickB {α : Type} (c : Bool) (a b : α) : (bif c then a else b) = if c = true then a else b := by cases c <;> rfl

theorem Z8M {α : Type} {l : List α} {good : Nat → α → Prop} (h : ¬ ∀ k x, l[k]? = some x → good k x) : ∃ (k : Nat) (x : α), l[k]? = some x ∧ ¬ good k x ∧ ∀ j y, j < k → l[j]? = some y → good j y := by
 have hex : ∃ k : Nat, ∃ x, l[k]? = some x ∧ ¬ good k x := by
  apply Classical.byContradiction
  intro hn
  exact h fun k x hk => Classical.byContradiction fun hg => hn ⟨k, x, hk, hg⟩
 obtain ⟨k, hk⟩ := hex
 induction k using Nat.strongRecOn with
 | _ k ih =>
  by_cases h : ∃ j, j < k ∧ ∃ x, l[j]? = some x ∧ ¬ good j x
  ·obtain ⟨j, hj, hx⟩ := h
   exact ih j hj hx
  ·obtain ⟨x, hx, hb⟩ := hk
   exact ⟨k, x, hx, hb, fun j y hj hy => Classical.byContradiction fun hg => h ⟨j, hj, y, hy, hg⟩⟩

theorem Z3a {α R : Type} {l : List α} {step : Int → Option (Int ⊕ R)} (good : Nat → α → Prop) {no yes : R}
  (hstep : ∀ (k : Nat) (x : α), l[k]? = some x → (∀ j y, j < k → l[j]? = some y → good j y) → (step (k : Int) = some (.inl ((k : Int) + 1)) ∧ good k x) ∨ (step (k : Int) = some (.inr no) ∧ ¬ good k x))
  (hend : step (l.length : Int) = some (.inr yes)) : (ZN step 0 = some yes ∧ ∀ k x, l[k]? = some x → good k x) ∨ (ZN step 0 = some no ∧ ¬ ∀ k x, l[k]? = some x → good k x) := by
 by_cases hall : ∀ k x, l[k]? = some x → good k x
 ·refine .inl ⟨?_, hall⟩
  refine Z1K (I := fun (s : Int) r => r = yes ∧ ∃ k : Nat, s = k ∧ k ≤ l.length) (fun s => (l.length - s.toNat)) ?_ ⟨rfl, 0, rfl, Nat.zero_le _⟩
  rintro s r ⟨rfl, k, rfl, hk⟩
  by_cases hlt : k < l.length
  ·rcases hstep k l[k] (List.getElem?_eq_getElem hlt) (fun j y _ hy => hall j y hy) with ⟨h1, _⟩ | ⟨_, h2⟩
   ·exact .inl ⟨_, h1, ⟨rfl, k + 1, by push_cast; rfl, hlt⟩, by simp; omega⟩
   ·exact absurd (hall k _ (List.getElem?_eq_getElem hlt)) h2
  ·have : k = l.length := by omega
   subst this
   exact .inr hend
 ·refine .inr ⟨?_, hall⟩
  obtain ⟨k0, x0, hx0, hb0, hgood⟩ := Z8M hall
  have hlt0 := (List.getElem?_eq_some_iff.1 hx0).1
  refine Z1K (I := fun (s : Int) r => r = no ∧ ∃ k : Nat, s = k ∧ k ≤ k0) (fun s => (l.length - s.toNat)) ?_ ⟨rfl, 0, rfl, Nat.zero_le _⟩
  rintro s r ⟨rfl, k, rfl, hk⟩
  by_cases hlt : k < k0
  ·have hkl : k < l.length := by omega
   rcases hstep k l[k] (List.getElem?_eq_getElem hkl) (fun j y hj hy => hgood j y (by omega) hy) with ⟨h1, _⟩ | ⟨_, h2⟩
   ·exact .inl ⟨_, h1, ⟨rfl, k + 1, by push_cast; rfl, hlt⟩, by simp; omega⟩
   ·exact absurd (hgood k _ hlt (List.getElem?_eq_getElem hkl)) h2
  ·have : k = k0 := by omega
   subst this
   rcases hstep k x0 hx0 hgood with ⟨_, h2⟩ | ⟨h1, _⟩
   ·exact absurd h2 hb0
   ·exact .inr h1

theorem fold_loop {α A R : Type} {l : List α} {step : A × Int → Option ((A × Int) ⊕ R)} (f : A → Nat → α → A) (fin : A → R) (I : Nat → A → Prop) {a0 : A} (h0 : I 0 a0)
  (hgo : ∀ (k : Nat) (x : α) (a : A), l[k]? = some x → I k a → step (a, (k : Int)) = some (.inl (f a k x, (k : Int) + 1)) ∧ I (k + 1) (f a k x))
  (hend : ∀ a, I l.length a → step (a, (l.length : Int)) = some (.inr (fin a))) : ∃ a, ZN step (a0, 0) = some (fin a) ∧ I l.length a := by
 obtain ⟨r, h1, a, rfl, h2⟩ := Z1V (step := step) (I := fun s => ∃ (k : Nat) (a : A), s = (a, (k : Int)) ∧ k ≤ l.length ∧ I k a) (fun s => l.length - s.2.toNat) (fun r => ∃ a, r = fin a ∧ I l.length a) (by
  rintro s ⟨k, a, rfl, hk, hI⟩
  by_cases hlt : k < l.length
  ·obtain ⟨q1, q2⟩ := hgo k l[k] a (List.getElem?_eq_getElem hlt) hI
   exact .inl ⟨_, q1, ⟨k + 1, _, by push_cast; rfl, hlt, q2⟩, by simp; omega⟩
  ·have : k = l.length := by omega
   subst this
   exact .inr ⟨_, hend a hI, a, rfl, hI⟩) (a0, 0) ⟨0, a0, rfl, Nat.zero_le _, h0⟩
 exact ⟨a, h1, h2⟩
end Go.Dn
