/- Part 4 of what the row stands on. -/
import Derived.Test.YtliohipholncpaaM3
set_option linter.unusedVariables false
set_option linter.unusedSimpArgs false
namespace Go.Dn
open Go Go.Proofs
set_option maxRecDepth 100000
set_option maxHeartbeats 4000000

theorem size_far_fn {g : Form} {d : Int} {up : Bool} {r : Int × Bool × Int} (h : size_far g d up = some r) : Fn CX 62 [(.agg (vs (Form.cs g))), (vi d), (vb up)] (.tup [(vi r.1), (vb r.2.1), (vi r.2.2)]) := by
 refine Fn.ends Try.func62 rfl rfl rfl rfl rfl rfl ?_
 have H : Hs (⟨0, fun _ => .none⟩ : Heap) [] := Has.nil (Nat.le_refl _)
 generalize (⟨0, fun _ => .none⟩ : Heap) = σ at H ⊢
 unfold size_far at h
 apply Runs.then
 refine .regionH 4 rfl H ?_; intro b1 σ H
 refine .boxH (cs := (vF g)) H (by omega) (by omega) rfl rfl rfl ?_; intro σ H
 refine .assign (v := (vi 0)) rfl rfl (.assign (v := (vb false)) rfl rfl (.assign (v := (vi 0)) rfl rfl ?_))
 apply Ops.nil
 replace H := H.all
 apply Runs.then
 apply Runs.then
 refine .regionH 3 rfl H ?_; intro b2 σ H
 refine .move (v := (vi d)) rfl rfl (.call (ys := [(vi d)]) (r := (vb (size_inRange d))) rfl (size_inRange_fn rfl) rfl (.not (b := (size_inRange d)) rfl rfl ?_))
 apply Ops.nil
 replace H := H.all
 refine .whether (v := (!(size_inRange d))) rfl ?_ ?_ <;> intro hc1
 ·replace h := cond_T hc1 h
  apply Runs.then
  refine .regionH 3 rfl H ?_; intro b3 σ H
  refine .assign (v := (vi 0)) rfl rfl (.assign (v := (vb false)) rfl rfl (.assign (v := (vi 2)) rfl rfl ?_))
  apply Ops.nil
  replace H := H.all
  apply Runs.ret
  replace h := Option.some.inj h; subst h
  exact (Ends.H (xs := [(vi 0), (vb false), (vi 2)]) (.inr rfl) H (.tmp (v := (vi 0)) rfl (.tmp (v := (vb false)) rfl (.tmp (v := (vi 2)) rfl .nil))) (.two (.cons (.c (.v _)) (.cons (.c (.v _)) (.cons (.c (.v _)) .nil)))))
 ·replace h := cond_F hc1 h
  apply Runs.skip
  apply Runs.then
  refine .regionH 4 rfl H ?_; intro b4 σ H
  refine .loadHA (off := 0) (cs := (vF g)) H 0 rfl rfl rfl rfl rfl rfl rfl nofun rfl ?_
  obtain ⟨x1, q1, h⟩ := bind_some h
  refine .call (ys := [(.agg (vF g))]) (r := (.agg (vG x1))) rfl (size_made_fn q1) rfl (.allocH (cs := [(vi 0), (vi 0), .nils, .nils, .nils]) H (by omega) (by omega) rfl rfl ?_); intro σ H
  refine .storeH (off := 0) (cells' := (vG x1)) H 0 rfl rfl rfl rfl rfl rfl rfl rfl rfl nofun ?_; intro σ H
  apply Ops.nil
  replace H := H.all
  apply Runs.then
  refine .regionH 1 rfl H ?_; intro b5 σ H
  refine .assign (v := (vi 1)) rfl rfl ?_
  apply Ops.nil
  replace H := H.all
  apply Runs.then
  obtain ⟨y1, hj1, h⟩ := bind_some h
  refine .mono (Q := fun x e σ => x = .normal ∧ EnvHas e [(1, (vi d)), (2, (vb up)), (9, (.ptr (b4 + 2) 5 0)), (10, (vi y1))] ∧ Hs σ [.blk (b4 + 2) 96 (vG x1)]) ?_ ?_
  ·replace h := hj1
   apply Runs.then
   refine .regionH 1 rfl H ?_; intro b6 σ H
   refine .move (v := (vb up)) rfl rfl ?_
   apply Ops.nil
   replace H := H.all
   refine .whether (v := up) rfl ?_ ?_ <;> intro hc2
   ·replace h := cond_T hc2 h
    refine .regionH 1 rfl H ?_; intro b7 σ H
    refine .assign (v := (vi (-1))) rfl rfl ?_
    apply Ops.nil
    replace H := H.all
    replace h := Option.some.inj h; subst h
    exact ⟨rfl, ⟨rfl, rfl, rfl, rfl, trivial⟩, (H.erase 1)⟩
   ·replace h := cond_F hc2 h
    apply Runs.skip
    replace h := Option.some.inj h; subst h
    exact ⟨rfl, ⟨rfl, rfl, rfl, rfl, trivial⟩, (H.erase 1)⟩
  ·rintro x e σ ⟨rfl, he, H⟩
   obtain ⟨e, rfl⟩ := he.ex
   apply Runs.then
   refine .regionH 1 rfl H ?_; intro b8 σ H
   refine .allocH (cs := [(vi 0), (vb false)]) H (by omega) (by omega) rfl rfl ?_; intro σ H
   apply Ops.nil
   replace H := H.all
   apply Runs.then
   apply Runs.then
   refine .regionH 4 rfl H ?_; intro b9 σ H
   refine .fieldAddrH (off := 0) (fo := 4) H 1 rfl rfl rfl rfl rfl nofun rfl (.loadH (off := 4) (v := (vl size_spot.cs x1.spots)) H 1 rfl rfl rfl rfl rfl nofun rfl (.lenPt (c := size_spot.cs) (xs := x1.spots) rfl rfl rfl (.move (v := (vi 0)) rfl rfl ?_)))
   apply Ops.nil
   replace H := H.all
   apply Runs.inBlock
   obtain ⟨y2, hj2, h⟩ := bind_some h
   obtain ⟨n1, hj2⟩ := loopO_iff.1 hj2
   refine .mono (Runs.loopO hj2 (fun s1 e σ => EnvHas e [(1, (vi d)), (2, (vb up)), (9, (.ptr (b4 + 2) 5 0)), (10, (vi y1)), (11, (.ptr (b8 + 0) 2 0)), (32, (vl size_spot.cs x1.spots)), (33, (vi (x1.spots.length : Int))), (34, (vi s1.1))] ∧ Hs σ [.blk (b8 + 0) 119 [(vi s1.2.1), (vb s1.2.2)], .blk (b4 + 2) 96 (vG x1)]) (fun y2 x e σ => x = .exit 0 ∧ EnvHas e [(1, (vi d)), (2, (vb up)), (9, (.ptr (b4 + 2) 5 0)), (10, (vi y1)), (11, (.ptr (b8 + 0) 2 0))] ∧ Hs σ [.blk (b8 + 0) 119 [(vi y2.1), (vb y2.2)], .blk (b4 + 2) 96 (vG x1)]) ⟨⟨rfl, rfl, rfl, rfl, rfl, rfl, rfl, rfl, trivial⟩, H⟩ ?_) ?_
   ·intro s1 e σ hI z h
    obtain ⟨he, H⟩ := hI
    obtain ⟨e, rfl⟩ := he.ex
    unfold size_far.s0 at h
    apply Runs.then
    refine .regionH 1 rfl H ?_; intro b10 σ H
    refine .int (m := s1.1) (m' := (x1.spots.length : Int)) (r := .bool (decide (s1.1 < (x1.spots.length : Int)))) rfl rfl rfl rfl rfl ?_
    apply Ops.nil
    replace H := H.all
    apply Runs.then
    refine .whether (v := (decide (s1.1 < (x1.spots.length : Int)))) rfl ?_ ?_ <;> intro hc3
    ·replace h := cond_T hc3 h
     apply Runs.skip
     apply Runs.then
     obtain ⟨y3, hj3, h⟩ := bind_some h
     refine .mono (Q := fun x e σ => x = .normal ∧ EnvHas e [(1, (vi d)), (2, (vb up)), (9, (.ptr (b4 + 2) 5 0)), (10, (vi y1)), (11, (.ptr (b8 + 0) 2 0)), (32, (vl size_spot.cs x1.spots)), (33, (vi (x1.spots.length : Int))), (34, (vi s1.1))] ∧ Hs σ [.blk (b8 + 0) 119 [(vi y3.1), (vb y3.2)], .blk (b4 + 2) 96 (vG x1)]) ?_ ?_
     ·replace h := hj3
      apply Runs.inBlock
      obtain ⟨y4, hj4, h⟩ := bind_some h
      refine .mono (Q := fun x e σ => x = .normal ∧ EnvHas e [(1, (vi d)), (2, (vb up)), (9, (.ptr (b4 + 2) 5 0)), (10, (vi y1)), (11, (.ptr (b8 + 0) 2 0)), (32, (vl size_spot.cs x1.spots)), (33, (vi (x1.spots.length : Int))), (34, (vi s1.1))] ∧ Hs σ [.blk (b8 + 0) 119 [(vi y4.1), (vb y4.2)], .blk (b4 + 2) 96 (vG x1)]) ?_ ?_
      ·replace h := hj4
       apply Runs.then
       refine .regionH 4 rfl H ?_; intro b11 σ H
       obtain ⟨x2, q2, h⟩ := bind_some h
       refine .indexP (c := size_spot.cs) (u := x2) rfl rfl q2 rfl rfl rfl rfl (.loadPA (cs := [(.int .i64 x2.index), (.int .i64 x2.place.first), (.int .i64 x2.place.last)]) rfl rfl rfl rfl rfl rfl (.allocH (cs := [(vi 0), (vi 0), (vi 0)]) H (by omega) (by omega) rfl rfl ?_)); intro σ H
       refine .storeH (off := 0) (cells' := [(vi x2.index), (vi x2.place.first), (vi x2.place.last)]) H 0 rfl rfl rfl rfl rfl rfl rfl rfl rfl nofun ?_; intro σ H
       apply Ops.nil
       replace H := H.all
       apply Runs.then
       refine .regionH 4 rfl H ?_; intro b12 σ H
       refine .fieldAddrH (off := 0) (fo := 1) H 0 rfl rfl rfl rfl rfl nofun rfl (.fieldAddrH (off := 1) (fo := 1) H 0 rfl rfl rfl rfl rfl nofun rfl (.loadH (off := 2) (v := (vi x2.place.last)) H 0 rfl rfl rfl rfl rfl nofun rfl (.assign (v := (vi x2.place.last)) rfl rfl ?_)))
       apply Ops.nil
       replace H := H.all
       apply Runs.then
       obtain ⟨y5, hj5, h⟩ := bind_some h
       refine .mono (Q := fun x e σ => x = .normal ∧ EnvHas e [(1, (vi d)), (2, (vb up)), (9, (.ptr (b4 + 2) 5 0)), (10, (vi y1)), (11, (.ptr (b8 + 0) 2 0)), (13, (.ptr (b11 + 2) 3 0)), (14, (vi y5)), (32, (vl size_spot.cs x1.spots)), (33, (vi (x1.spots.length : Int))), (34, (vi s1.1))] ∧ Hs σ [.blk (b11 + 2) 116 [(vi x2.index), (vi x2.place.first), (vi x2.place.last)], .blk (b8 + 0) 119 [(vi s1.2.1), (vb s1.2.2)], .blk (b4 + 2) 96 (vG x1)]) ?_ ?_
       ·replace h := hj5
        apply Runs.then
        refine .regionH 1 rfl H ?_; intro b13 σ H
        refine .move (v := (vb up)) rfl rfl ?_
        apply Ops.nil
        replace H := H.all
        refine .whether (v := up) rfl ?_ ?_ <;> intro hc4
        ·replace h := cond_T hc4 h
         refine .regionH 4 rfl H ?_; intro b14 σ H
         refine .fieldAddrH (off := 0) (fo := 1) H 0 rfl rfl rfl rfl rfl nofun rfl (.fieldAddrH (off := 1) (fo := 0) H 0 rfl rfl rfl rfl rfl nofun rfl (.loadH (off := 1) (v := (vi x2.place.first)) H 0 rfl rfl rfl rfl rfl nofun rfl (.assign (v := (vi x2.place.first)) rfl rfl ?_)))
         apply Ops.nil
         replace H := H.all
         replace h := Option.some.inj h; subst h
         exact ⟨rfl, ⟨rfl, rfl, rfl, rfl, rfl, rfl, rfl, rfl, rfl, rfl, trivial⟩, H⟩
        ·replace h := cond_F hc4 h
         apply Runs.skip
         replace h := Option.some.inj h; subst h
         exact ⟨rfl, ⟨rfl, rfl, rfl, rfl, rfl, rfl, rfl, rfl, rfl, rfl, trivial⟩, H⟩
       ·rintro x e σ ⟨rfl, he, H⟩
        obtain ⟨e, rfl⟩ := he.ex
        refine .drawnH 13 rfl (by kernel_rfl) H ?_; intro b15 σ H B15
        refine .move (v := (vi y1)) rfl rfl (.loadHA (off := 0) (cs := (vG x1)) H 2 rfl rfl rfl rfl rfl rfl rfl (fun _ => .inl ⟨B15 2 _ rfl _ rfl, nofun⟩) rfl (.move (v := (vi y5)) rfl rfl (.move (v := (vi d)) rfl rfl ?_)))
        refine .int (m := y5) (m' := d) (r := .int .i64 (w64 (y5 + d))) rfl rfl rfl rfl rfl (.move (v := (vb up)) rfl rfl ?_)
        obtain ⟨x3, q3, h⟩ := bind_some h
        refine .call (ys := [(.agg (vG x1)), (vi (w64 (y5 + d))), (vb up)]) (r := (vi x3)) rfl (size_form_core_fn q3) rfl (.fieldAddrH (off := 0) (fo := 0) H 0 rfl rfl rfl rfl rfl (fun _ => .inl ⟨B15 0 _ rfl _ rfl, nofun⟩) rfl (.loadH (off := 0) (v := (vi x2.index)) H 0 rfl rfl rfl rfl rfl (fun _ => .inl ⟨B15 0 _ rfl _ rfl, nofun⟩) rfl (.int (m := x3) (m' := x2.index) (r := .int .i64 (w64 (x3 - x2.index))) rfl rfl rfl rfl rfl ?_)))
        refine .int (m := y1) (m' := (w64 (x3 - x2.index))) (r := .int .i64 (w64 (y1 * (w64 (x3 - x2.index))))) rfl rfl rfl rfl rfl (.buildS (sz := 1) ([(w64 (y1 * (w64 (x3 - x2.index))))].map (cI .i64)) H (by omega) (by omega) rfl rfl rfl rfl rfl rfl rfl rfl rfl ?_); intro σ H
        obtain ⟨y6, hj6, h⟩ := bind_some h
        refine .callI (PostA := fun r A => r = (.tup []) ∧ A = [.sl (.buf (b15 + 11) 1 1) 3 1 (y6.1.map (cI .i64)) true, .blk (b11 + 2) 116 [(vi x2.index), (vi x2.place.first), (vi x2.place.last)], .blk (b8 + 0) 119 [(vi y6.2.1), (vb y6.2.2)], .blk (b4 + 2) 96 (vG x1)]) (cv := (.v (.fn 86))) (ys := [(.ptr (b8 + 0) 2 0), (.buf (b15 + 11) 1 1)]) (L := []) [.sl (.buf (b15 + 11) 1 1) 3 1 ([(w64 (y1 * (w64 (x3 - x2.index))))].map (cI .i64)) true, .blk (b11 + 2) 116 [(vi x2.index), (vi x2.place.first), (vi x2.place.last)], .blk (b8 + 0) 119 [(vi s1.2.1), (vb s1.2.2)], .blk (b4 + 2) 96 (vG x1)] H rfl rfl (fun T1 hT H => callI_of Try.func86 rfl (fun _ => rfl) rfl rfl rfl rfl ?_) (fun _ => by kernel_rfl) rfl ?_
        ·replace h := hj6
         apply Runs.then
         refine .regionH 3 rfl H ?_; intro b16 σ H
         refine .move (v := (.buf (b15 + 11) 1 1)) rfl rfl (.lenSt (c := (cI .i64)) (xs := [(w64 (y1 * (w64 (x3 - x2.index))))]) H 0 rfl rfl rfl nofun rfl (.move (v := (vi 0)) rfl rfl ?_))
         apply Ops.nil
         replace H := H.all
         apply Runs.inBlock
         obtain ⟨y7, hj7, h⟩ := bind_some h
         obtain ⟨n2, hj7⟩ := loopO_iff.1 hj7
         refine .mono (Runs.loopO hj7 (fun s2 e σ => EnvHas e [(0, (.ptr (b8 + 0) 2 0)), (6, (.buf (b15 + 11) 1 1)), (7, (vi s2.1)), (8, (vi s2.2.1))] ∧ Hs σ (.sl (.buf (b15 + 11) 1 1) 3 1 (s2.2.2.1.map (cI .i64)) true :: .blk (b11 + 2) 116 [(vi x2.index), (vi x2.place.first), (vi x2.place.last)] :: .blk (b8 + 0) 119 [(vi s2.2.2.2.1), (vb s2.2.2.2.2)] :: .blk (b4 + 2) 96 (vG x1) :: T1)) (fun y7 x e σ => x = .exit 0 ∧ EnvHas e [] ∧ Hs σ (.sl (.buf (b15 + 11) 1 1) 3 1 (y7.1.map (cI .i64)) true :: .blk (b11 + 2) 116 [(vi x2.index), (vi x2.place.first), (vi x2.place.last)] :: .blk (b8 + 0) 119 [(vi y7.2.1), (vb y7.2.2)] :: .blk (b4 + 2) 96 (vG x1) :: T1)) ⟨⟨rfl, rfl, rfl, rfl, trivial⟩, H⟩ ?_) ?_
         ·intro s2 e σ hI z h
          obtain ⟨he, H⟩ := hI
          obtain ⟨e, rfl⟩ := he.ex
          unfold size_far.s1 at h
          apply Runs.then
          refine .regionH 1 rfl H ?_; intro b17 σ H
          refine .int (m := s2.2.1) (m' := s2.1) (r := .bool (decide (s2.2.1 < s2.1))) rfl rfl rfl rfl rfl ?_
          apply Ops.nil
          replace H := H.all
          apply Runs.then
          refine .whether (v := (decide (s2.2.1 < s2.1))) rfl ?_ ?_ <;> intro hc5
          ·replace h := cond_T hc5 h
           apply Runs.skip
           apply Runs.then
           obtain ⟨y8, hj8, h⟩ := bind_some h
           refine .mono (Q := fun x e σ => x = .normal ∧ EnvHas e [(0, (.ptr (b8 + 0) 2 0)), (6, (.buf (b15 + 11) 1 1)), (7, (vi s2.1)), (8, (vi s2.2.1))] ∧ Hs σ (.sl (.buf (b15 + 11) 1 1) 3 1 (s2.2.2.1.map (cI .i64)) true :: .blk (b11 + 2) 116 [(vi x2.index), (vi x2.place.first), (vi x2.place.last)] :: .blk (b8 + 0) 119 [(vi y8.1), (vb y8.2)] :: .blk (b4 + 2) 96 (vG x1) :: T1)) ?_ ?_
           ·replace h := hj8
            apply Runs.inBlock
            obtain ⟨y9, hj9, h⟩ := bind_some h
            refine .mono (Q := fun x e σ => x = .normal ∧ EnvHas e [(0, (.ptr (b8 + 0) 2 0)), (6, (.buf (b15 + 11) 1 1)), (7, (vi s2.1)), (8, (vi s2.2.1))] ∧ Hs σ (.sl (.buf (b15 + 11) 1 1) 3 1 (s2.2.2.1.map (cI .i64)) true :: .blk (b11 + 2) 116 [(vi x2.index), (vi x2.place.first), (vi x2.place.last)] :: .blk (b8 + 0) 119 [(vi y9.1), (vb y9.2)] :: .blk (b4 + 2) 96 (vG x1) :: T1)) ?_ ?_
            ·replace h := hj9
             apply Runs.then
             refine .regionH 3 rfl H ?_; intro b18 σ H
             obtain ⟨x4, q4, h⟩ := bind_some h
             refine .indexS H 0 rfl rfl rfl (at?_map q4) rfl rfl nofun rfl ?_; intro id1 hv1
             refine .loadS (id := id1) (j := 0) (w := (.int .i64 x4)) H 0 rfl hv1 (by simp) (at?_map q4) rfl (by simp) rfl rfl rfl nofun rfl ?_
             refine .assign (v := (vi x4)) rfl rfl ?_
             apply Ops.nil
             replace H := H.all
             apply Runs.then
             refine .regionH 13 rfl H ?_; intro b19 σ H
             refine .move (v := (.ptr (b8 + 0) 2 0)) rfl rfl (.nilCheckH (off := 0) H 2 rfl rfl rfl nofun rfl (.fieldAddrH (off := 0) (fo := 1) H 2 rfl rfl rfl rfl rfl nofun rfl (.loadH (off := 1) (v := (vb s2.2.2.2.2)) H 2 rfl rfl rfl rfl rfl nofun rfl ?_)))
             refine .not (b := s2.2.2.2.2) rfl rfl (.move (v := (vb (!s2.2.2.2.2))) rfl rfl ?_)
             refine .mid 7 (K1 := fun e σ => EnvHas e [(24, (vb ((!s2.2.2.2.2) || (decide (x4 > s2.2.2.2.1))))), (0, (.ptr (b8 + 0) 2 0)), (5, (vi x4)), (6, (.buf (b15 + 11) 1 1)), (7, (vi s2.1)), (8, (vi s2.2.1))] ∧ Has σ (b19 + 13) (b19 + 13) (.sl (.buf (b15 + 11) 1 1) 3 1 (s2.2.2.1.map (cI .i64)) true :: .blk (b11 + 2) 116 [(vi x2.index), (vi x2.place.first), (vi x2.place.last)] :: .blk (b8 + 0) 119 [(vi s2.2.2.2.1), (vb s2.2.2.2.2)] :: .blk (b4 + 2) 96 (vG x1) :: T1)) rfl ?_ ?_
             ·refine .split rfl rfl ?_ ?_ <;> intro hc6
              ·skip
               refine .pass rfl rfl rfl (.pass rfl rfl rfl (.pass rfl rfl rfl (.pass rfl rfl rfl ?_)))
               refine .pass rfl rfl rfl (.pass rfl rfl rfl (.pickT (v := (vb true)) rfl rfl rfl ?_))
               apply Ops.nil
               exact ⟨⟨or_T hc6, rfl, rfl, rfl, rfl, rfl, trivial⟩, H.weak (by omega) (Nat.le_refl _)⟩
              ·skip
               refine .wanted rfl rfl (.move (v := (vi x4)) rfl rfl (.wanted rfl rfl (.move (v := (.ptr (b8 + 0) 2 0)) rfl rfl ?_)))
               refine .wanted rfl rfl (.nilCheckH (off := 0) H 2 rfl rfl rfl nofun rfl (.wanted rfl rfl (.fieldAddrH (off := 0) (fo := 0) H 2 rfl rfl rfl rfl rfl nofun rfl ?_)))
               refine .wanted rfl rfl (.loadH (off := 0) (v := (vi s2.2.2.2.1)) H 2 rfl rfl rfl rfl rfl nofun rfl (.wanted rfl rfl (.int (m := x4) (m' := s2.2.2.2.1) (r := .bool (decide (x4 > s2.2.2.2.1))) rfl rfl rfl rfl rfl ?_)))
               refine .pickF (v := (vb (decide (x4 > s2.2.2.2.1)))) rfl rfl rfl ?_
               apply Ops.nil
               exact ⟨⟨or_F hc6, rfl, rfl, rfl, rfl, rfl, trivial⟩, H.weak (by omega) (Nat.le_refl _)⟩
             ·rintro e σ ⟨he, H⟩
              obtain ⟨e, rfl⟩ := he.ex
              apply Ops.nil
              replace H := H.all
              refine .whether (v := ((!s2.2.2.2.2) || (decide (x4 > s2.2.2.2.1)))) rfl ?_ ?_ <;> intro hc7
              ·replace h := cond_T hc7 h
               refine .regionH 9 rfl H ?_; intro b20 σ H
               refine .move (v := (.ptr (b8 + 0) 2 0)) rfl rfl (.move (v := (.ptr (b8 + 0) 2 0)) rfl rfl (.move (v := (vi x4)) rfl rfl (.nilCheckH (off := 0) H 2 rfl rfl rfl nofun rfl ?_)))
               refine .fieldAddrH (off := 0) (fo := 0) H 2 rfl rfl rfl rfl rfl nofun rfl (.storeH (off := 0) (cells' := [(vi x4), (vb s2.2.2.2.2)]) H 2 rfl rfl rfl rfl rfl rfl rfl rfl rfl nofun ?_); intro σ H
               refine .nilCheckH (off := 0) H 2 rfl rfl rfl nofun rfl (.fieldAddrH (off := 0) (fo := 1) H 2 rfl rfl rfl rfl rfl nofun rfl (.storeH (off := 1) (cells' := [(vi x4), (vb true)]) H 2 rfl rfl rfl rfl rfl rfl rfl rfl rfl nofun ?_)); intro σ H
               apply Ops.nil
               replace H := H.all
               replace h := Option.some.inj h; subst h
               exact ⟨rfl, ⟨rfl, rfl, rfl, rfl, trivial⟩, H⟩
              ·replace h := cond_F hc7 h
               apply Runs.skip
               replace h := Option.some.inj h; subst h
               exact ⟨rfl, ⟨rfl, rfl, rfl, rfl, trivial⟩, H⟩
            ·rintro x e σ ⟨rfl, he, H⟩
             obtain ⟨e, rfl⟩ := he.ex
             replace h := Option.some.inj h; subst h
             exact ⟨rfl, ⟨rfl, rfl, rfl, rfl, trivial⟩, H⟩
           ·rintro x e σ ⟨rfl, he, H⟩
            obtain ⟨e, rfl⟩ := he.ex
            refine .regionH 2 rfl H ?_; intro b21 σ H
            refine .int (m := s2.2.1) (m' := 1) (r := .int .i64 (w64 (s2.2.1 + 1))) rfl rfl rfl rfl rfl (.move (v := (vi (w64 (s2.2.1 + 1)))) rfl rfl ?_)
            apply Ops.nil
            replace H := H.all
            replace h := Option.some.inj h; subst h
            exact ⟨rfl, ⟨rfl, rfl, rfl, rfl, trivial⟩, H⟩
          ·replace h := cond_F hc5 h
           apply Runs.exit
           replace h := Option.some.inj h; subst h
           exact ⟨nofun, ⟨rfl, trivial, H⟩⟩
         ·rintro x e σ ⟨rfl, he, H⟩
          obtain ⟨e, rfl⟩ := he.ex
          replace h := Option.some.inj h; subst h
          exact ⟨.inl rfl, _, resD_ok H .nil, _, ⟨rfl, rfl⟩, H⟩
        ·rintro _ _ σ ⟨rfl, rfl⟩ H
         apply Ops.nil
         replace H := H.all
         replace h := Option.some.inj h; subst h
         exact ⟨rfl, ⟨rfl, rfl, rfl, rfl, rfl, rfl, rfl, rfl, trivial⟩, ((H.erase 1).erase 0)⟩
      ·rintro x e σ ⟨rfl, he, H⟩
       obtain ⟨e, rfl⟩ := he.ex
       replace h := Option.some.inj h; subst h
       exact ⟨rfl, ⟨rfl, rfl, rfl, rfl, rfl, rfl, rfl, rfl, trivial⟩, H⟩
     ·rintro x e σ ⟨rfl, he, H⟩
      obtain ⟨e, rfl⟩ := he.ex
      refine .regionH 2 rfl H ?_; intro b22 σ H
      refine .int (m := s1.1) (m' := 1) (r := .int .i64 (w64 (s1.1 + 1))) rfl rfl rfl rfl rfl (.move (v := (vi (w64 (s1.1 + 1)))) rfl rfl ?_)
      apply Ops.nil
      replace H := H.all
      replace h := Option.some.inj h; subst h
      exact ⟨rfl, ⟨rfl, rfl, rfl, rfl, rfl, rfl, rfl, rfl, trivial⟩, H⟩
    ·replace h := cond_F hc3 h
     apply Runs.exit
     replace h := Option.some.inj h; subst h
     exact ⟨nofun, ⟨rfl, ⟨rfl, rfl, rfl, rfl, rfl, trivial⟩, H⟩⟩
   ·rintro x e σ ⟨rfl, he, H⟩
    obtain ⟨e, rfl⟩ := he.ex
    apply Runs.then
    apply Runs.then
    refine .regionH 5 rfl H ?_; intro b23 σ H
    refine .fieldAddrH (off := 0) (fo := 0) H 1 rfl rfl rfl rfl rfl nofun rfl (.fieldAddrH (off := 0) (fo := 3) H 1 rfl rfl rfl rfl rfl nofun rfl (.loadH (off := 3) (v := (vl Granule.cs x1.Form.Odd)) H 1 rfl rfl rfl rfl rfl nofun rfl (.lenPt (c := Granule.cs) (xs := x1.Form.Odd) rfl rfl rfl ?_)))
    refine .move (v := (vi 0)) rfl rfl ?_
    apply Ops.nil
    replace H := H.all
    apply Runs.inBlock
    obtain ⟨y10, hj10, h⟩ := bind_some h
    obtain ⟨n3, hj10⟩ := loopO_iff.1 hj10
    refine .mono (Runs.loopO hj10 (fun s3 e σ => EnvHas e [(1, (vi d)), (2, (vb up)), (9, (.ptr (b4 + 2) 5 0)), (10, (vi y1)), (11, (.ptr (b8 + 0) 2 0)), (61, (vl Granule.cs x1.Form.Odd)), (62, (vi (x1.Form.Odd.length : Int))), (63, (vi s3.1))] ∧ Hs σ [.blk (b8 + 0) 119 [(vi s3.2.1), (vb s3.2.2)], .blk (b4 + 2) 96 (vG x1)]) (fun y10 x e σ => x = .exit 2 ∧ EnvHas e [(10, (vi y1)), (11, (.ptr (b8 + 0) 2 0))] ∧ Hs σ [.blk (b8 + 0) 119 [(vi y10.1), (vb y10.2)]]) ⟨⟨rfl, rfl, rfl, rfl, rfl, rfl, rfl, rfl, trivial⟩, H⟩ ?_) ?_
    ·intro s3 e σ hI z h
     obtain ⟨he, H⟩ := hI
     obtain ⟨e, rfl⟩ := he.ex
     unfold size_far.s2 at h
     apply Runs.then
     refine .regionH 1 rfl H ?_; intro b24 σ H
     refine .int (m := s3.1) (m' := (x1.Form.Odd.length : Int)) (r := .bool (decide (s3.1 < (x1.Form.Odd.length : Int)))) rfl rfl rfl rfl rfl ?_
     apply Ops.nil
     replace H := H.all
     apply Runs.then
     refine .whether (v := (decide (s3.1 < (x1.Form.Odd.length : Int)))) rfl ?_ ?_ <;> intro hc8
     ·replace h := cond_T hc8 h
      apply Runs.skip
      apply Runs.then
      obtain ⟨y11, hj11, h⟩ := bind_some h
      refine .mono (Q := fun x e σ => x = .normal ∧ EnvHas e [(1, (vi d)), (2, (vb up)), (9, (.ptr (b4 + 2) 5 0)), (10, (vi y1)), (11, (.ptr (b8 + 0) 2 0)), (61, (vl Granule.cs x1.Form.Odd)), (62, (vi (x1.Form.Odd.length : Int))), (63, (vi s3.1))] ∧ Hs σ [.blk (b8 + 0) 119 [(vi y11.1), (vb y11.2)], .blk (b4 + 2) 96 (vG x1)]) ?_ ?_
      ·replace h := hj11
       apply Runs.inBlock
       obtain ⟨y12, hj12, h⟩ := bind_some h
       refine .mono (Q := fun x e σ => (∃ a1, y12 = (.go a1) ∧ x = .normal ∧ EnvHas e [(1, (vi d)), (2, (vb up)), (9, (.ptr (b4 + 2) 5 0)), (10, (vi y1)), (11, (.ptr (b8 + 0) 2 0)), (61, (vl Granule.cs x1.Form.Odd)), (62, (vi (x1.Form.Odd.length : Int))), (63, (vi s3.1))] ∧ Hs σ [.blk (b8 + 0) 119 [(vi a1.1), (vb a1.2)], .blk (b4 + 2) 96 (vG x1)]) ∨ (∃ a2, y12 = (.ret a2) ∧ x = .exit 3 ∧ EnvHas e [(1, (vi d)), (2, (vb up)), (9, (.ptr (b4 + 2) 5 0)), (10, (vi y1)), (11, (.ptr (b8 + 0) 2 0)), (61, (vl Granule.cs x1.Form.Odd)), (62, (vi (x1.Form.Odd.length : Int))), (63, (vi s3.1))] ∧ Hs σ [.blk (b8 + 0) 119 [(vi s3.2.1), (vb s3.2.2)], .blk (b4 + 2) 96 (vG x1)])) ?_ ?_
       ·replace h := hj12
        apply Runs.then
        refine .regionH 4 rfl H ?_; intro b25 σ H
        obtain ⟨x5, q5, h⟩ := bind_some h
        refine .indexP (c := Granule.cs) (u := x5) rfl rfl q5 rfl rfl rfl rfl (.loadPA (cs := [(.int .i64 x5.Index), (.sl (x5.Ticks.map Span.cs))]) rfl rfl rfl rfl rfl rfl (.allocH (cs := [(vi 0), .nils]) H (by omega) (by omega) rfl rfl ?_)); intro σ H
        refine .storeH (off := 0) (cells' := [(vi x5.Index), (vl Span.cs x5.Ticks)]) H 0 rfl rfl rfl rfl rfl rfl rfl rfl rfl nofun ?_; intro σ H
        apply Ops.nil
        replace H := H.all
        apply Runs.then
        refine .regionH 9 rfl H ?_; intro b26 σ H
        refine .fieldAddrH (off := 0) (fo := 1) H 0 rfl rfl rfl rfl rfl nofun rfl (.loadH (off := 1) (v := (vl Span.cs x5.Ticks)) H 0 rfl rfl rfl rfl rfl nofun rfl ?_)
        obtain ⟨x6, q6, h⟩ := bind_some h
        refine .call (ys := [(vl Span.cs x5.Ticks)]) (r := (.tup [(.agg [(vi x6.1.From), (vi x6.1.To)]), (vb x6.2)])) rfl (spans_Hull_fn q6) rfl (.move (v := (.tup [(.agg [(vi x6.1.From), (vi x6.1.To)]), (vb x6.2)])) rfl rfl (.extract (v := (.agg [(vi x6.1.From), (vi x6.1.To)])) rfl rfl rfl (.extract (v := (vb x6.2)) rfl rfl rfl ?_)))
        refine .allocH (cs := [(vi 0), (vi 0)]) H (by omega) (by omega) rfl rfl ?_; intro σ H
        refine .storeH (off := 0) (cells' := [(vi x6.1.From), (vi x6.1.To)]) H 0 rfl rfl rfl rfl rfl rfl rfl rfl rfl nofun ?_; intro σ H
        refine .assign (v := (vb x6.2)) rfl rfl ?_
        apply Ops.nil
        replace H := H.all
        apply Runs.then
        apply Runs.then
        refine .regionH 2 rfl H ?_; intro b27 σ H
        refine .move (v := (vb x6.2)) rfl rfl (.not (b := x6.2) rfl rfl ?_)
        apply Ops.nil
        replace H := H.all
        refine .whether (v := (!x6.2)) rfl ?_ ?_ <;> intro hc9
        ·replace h := cond_T hc9 h
         apply Runs.exit
         replace h := Option.some.inj h; subst h
         exact (.inr ⟨_, rfl, rfl, ⟨rfl, rfl, rfl, rfl, rfl, rfl, rfl, rfl, trivial⟩, ((H.erase 1).erase 0)⟩)
        ·replace h := cond_F hc9 h
         apply Runs.skip
         apply Runs.then
         refine .drawnH 6 rfl (by kernel_rfl) H ?_; intro b28 σ H B28
         refine .fieldAddrH (off := 0) (fo := 0) H 0 rfl rfl rfl rfl rfl (fun _ => .inl ⟨B28 0 _ rfl _ rfl, nofun⟩) rfl (.loadH (off := 0) (v := (vi x6.1.From)) H 0 rfl rfl rfl rfl rfl (fun _ => .inl ⟨B28 0 _ rfl _ rfl, nofun⟩) rfl (.fieldAddrH (off := 0) (fo := 1) H 0 rfl rfl rfl rfl rfl (fun _ => .inl ⟨B28 0 _ rfl _ rfl, nofun⟩) rfl (.loadH (off := 1) (v := (vi x6.1.To)) H 0 rfl rfl rfl rfl rfl (fun _ => .inl ⟨B28 0 _ rfl _ rfl, nofun⟩) rfl ?_)))
         refine .assign (v := (vi x6.1.From)) rfl rfl (.assign (v := (vi x6.1.To)) rfl rfl ?_)
         apply Ops.nil
         replace H := H.all
         apply Runs.then
         obtain ⟨y13, hj13, h⟩ := bind_some h
         refine .mono (Q := fun x e σ => x = .normal ∧ EnvHas e [(1, (vi d)), (2, (vb up)), (9, (.ptr (b4 + 2) 5 0)), (10, (vi y1)), (11, (.ptr (b8 + 0) 2 0)), (16, (.ptr (b25 + 2) 2 0)), (19, (vi y13.1)), (20, (vi y13.2)), (61, (vl Granule.cs x1.Form.Odd)), (62, (vi (x1.Form.Odd.length : Int))), (63, (vi s3.1))] ∧ Hs σ [.blk (b25 + 2) 76 [(vi x5.Index), (vl Span.cs x5.Ticks)], .blk (b8 + 0) 119 [(vi s3.2.1), (vb s3.2.2)], .blk (b4 + 2) 96 (vG x1)]) ?_ ?_
         ·replace h := hj13
          apply Runs.then
          refine .regionH 1 rfl H ?_; intro b29 σ H
          refine .move (v := (vb up)) rfl rfl ?_
          apply Ops.nil
          replace H := H.all
          refine .whether (v := up) rfl ?_ ?_ <;> intro hc10
          ·replace h := cond_T hc10 h
           refine .regionH 4 rfl H ?_; intro b30 σ H
           refine .move (v := (vi x6.1.To)) rfl rfl (.move (v := (vi x6.1.From)) rfl rfl (.assign (v := (vi x6.1.To)) rfl rfl (.assign (v := (vi x6.1.From)) rfl rfl ?_)))
           apply Ops.nil
           replace H := H.all
           replace h := Option.some.inj h; subst h
           exact ⟨rfl, ⟨rfl, rfl, rfl, rfl, rfl, rfl, rfl, rfl, rfl, rfl, rfl, trivial⟩, (H.erase 0)⟩
          ·replace h := cond_F hc10 h
           apply Runs.skip
           replace h := Option.some.inj h; subst h
           exact ⟨rfl, ⟨rfl, rfl, rfl, rfl, rfl, rfl, rfl, rfl, rfl, rfl, rfl, trivial⟩, (H.erase 0)⟩
         ·rintro x e σ ⟨rfl, he, H⟩
          obtain ⟨e, rfl⟩ := he.ex
          apply Runs.then
          obtain ⟨y14, hj14, h⟩ := bind_some h
          refine .mono (Q := fun x e σ => x = .normal ∧ EnvHas e [(1, (vi d)), (2, (vb up)), (9, (.ptr (b4 + 2) 5 0)), (10, (vi y1)), (11, (.ptr (b8 + 0) 2 0)), (16, (.ptr (b25 + 2) 2 0)), (19, (vi y13.1)), (61, (vl Granule.cs x1.Form.Odd)), (62, (vi (x1.Form.Odd.length : Int))), (63, (vi s3.1))] ∧ Hs σ [.blk (b25 + 2) 76 [(vi x5.Index), (vl Span.cs x5.Ticks)], .blk (b8 + 0) 119 [(vi y14.1), (vb y14.2)], .blk (b4 + 2) 96 (vG x1)]) ?_ ?_
          ·replace h := hj14
           apply Runs.then
           refine .regionH 11 rfl H ?_; intro b31 σ H
           refine .loadHA (off := 0) (cs := (vG x1)) H 2 rfl rfl rfl rfl rfl rfl rfl nofun rfl (.move (v := (vi y13.2)) rfl rfl (.move (v := (vi d)) rfl rfl (.int (m := y13.2) (m' := d) (r := .int .i64 (w64 (y13.2 + d))) rfl rfl rfl rfl rfl ?_)))
           refine .move (v := (vb up)) rfl rfl ?_
           obtain ⟨x7, q7, h⟩ := bind_some h
           refine .call (ys := [(.agg (vG x1)), (vi (w64 (y13.2 + d))), (vb up)]) (r := (.tup [(vi x7.1), (vb x7.2)])) rfl (size_form_reach_fn q7) rfl (.move (v := (.tup [(vi x7.1), (vb x7.2)])) rfl rfl (.extract (v := (vi x7.1)) rfl rfl rfl (.extract (v := (vb x7.2)) rfl rfl rfl ?_)))
           refine .assign (v := (vi x7.1)) rfl rfl (.assign (v := (vb x7.2)) rfl rfl ?_)
           apply Ops.nil
           replace H := H.all
           apply Runs.then
           refine .regionH 1 rfl H ?_; intro b32 σ H
           refine .move (v := (vb x7.2)) rfl rfl ?_
           apply Ops.nil
           replace H := H.all
           refine .whether (v := x7.2) rfl ?_ ?_ <;> intro hc11
           ·replace h := cond_T hc11 h
            refine .regionH 8 rfl H ?_; intro b33 σ H
            refine .move (v := (vi y1)) rfl rfl (.move (v := (vi x7.1)) rfl rfl (.fieldAddrH (off := 0) (fo := 0) H 0 rfl rfl rfl rfl rfl nofun rfl (.loadH (off := 0) (v := (vi x5.Index)) H 0 rfl rfl rfl rfl rfl nofun rfl ?_)))
            refine .int (m := x7.1) (m' := x5.Index) (r := .int .i64 (w64 (x7.1 - x5.Index))) rfl rfl rfl rfl rfl (.int (m := y1) (m' := (w64 (x7.1 - x5.Index))) (r := .int .i64 (w64 (y1 * (w64 (x7.1 - x5.Index))))) rfl rfl rfl rfl rfl (.buildS (sz := 1) ([(w64 (y1 * (w64 (x7.1 - x5.Index))))].map (cI .i64)) H (by omega) (by omega) rfl rfl rfl rfl rfl rfl rfl rfl rfl ?_)); intro σ H
            obtain ⟨y15, hj15, h⟩ := bind_some h
            refine .callI (PostA := fun r A => r = (.tup []) ∧ A = [.sl (.buf (b33 + 6) 1 1) 3 1 (y15.1.map (cI .i64)) true, .blk (b25 + 2) 76 [(vi x5.Index), (vl Span.cs x5.Ticks)], .blk (b8 + 0) 119 [(vi y15.2.1), (vb y15.2.2)], .blk (b4 + 2) 96 (vG x1)]) (cv := (.v (.fn 86))) (ys := [(.ptr (b8 + 0) 2 0), (.buf (b33 + 6) 1 1)]) (L := []) [.sl (.buf (b33 + 6) 1 1) 3 1 ([(w64 (y1 * (w64 (x7.1 - x5.Index))))].map (cI .i64)) true, .blk (b25 + 2) 76 [(vi x5.Index), (vl Span.cs x5.Ticks)], .blk (b8 + 0) 119 [(vi s3.2.1), (vb s3.2.2)], .blk (b4 + 2) 96 (vG x1)] H rfl rfl (fun T2 hT H => callI_of Try.func86 rfl (fun _ => rfl) rfl rfl rfl rfl ?_) nofun rfl ?_
            ·replace h := hj15
             apply Runs.then
             refine .regionH 3 rfl H ?_; intro b34 σ H
             refine .move (v := (.buf (b33 + 6) 1 1)) rfl rfl (.lenSt (c := (cI .i64)) (xs := [(w64 (y1 * (w64 (x7.1 - x5.Index))))]) H 0 rfl rfl rfl nofun rfl (.move (v := (vi 0)) rfl rfl ?_))
             apply Ops.nil
             replace H := H.all
             apply Runs.inBlock
             obtain ⟨y16, hj16, h⟩ := bind_some h
             obtain ⟨n4, hj16⟩ := loopO_iff.1 hj16
             refine .mono (Runs.loopO hj16 (fun s4 e σ => EnvHas e [(0, (.ptr (b8 + 0) 2 0)), (6, (.buf (b33 + 6) 1 1)), (7, (vi s4.1)), (8, (vi s4.2.1))] ∧ Hs σ (.sl (.buf (b33 + 6) 1 1) 3 1 (s4.2.2.1.map (cI .i64)) true :: .blk (b25 + 2) 76 [(vi x5.Index), (vl Span.cs x5.Ticks)] :: .blk (b8 + 0) 119 [(vi s4.2.2.2.1), (vb s4.2.2.2.2)] :: .blk (b4 + 2) 96 (vG x1) :: T2)) (fun y16 x e σ => x = .exit 0 ∧ EnvHas e [] ∧ Hs σ (.sl (.buf (b33 + 6) 1 1) 3 1 (y16.1.map (cI .i64)) true :: .blk (b25 + 2) 76 [(vi x5.Index), (vl Span.cs x5.Ticks)] :: .blk (b8 + 0) 119 [(vi y16.2.1), (vb y16.2.2)] :: .blk (b4 + 2) 96 (vG x1) :: T2)) ⟨⟨rfl, rfl, rfl, rfl, trivial⟩, H⟩ ?_) ?_
             ·intro s4 e σ hI z h
              obtain ⟨he, H⟩ := hI
              obtain ⟨e, rfl⟩ := he.ex
              unfold size_far.s3 at h
              apply Runs.then
              refine .regionH 1 rfl H ?_; intro b35 σ H
              refine .int (m := s4.2.1) (m' := s4.1) (r := .bool (decide (s4.2.1 < s4.1))) rfl rfl rfl rfl rfl ?_
              apply Ops.nil
              replace H := H.all
              apply Runs.then
              refine .whether (v := (decide (s4.2.1 < s4.1))) rfl ?_ ?_ <;> intro hc12
              ·replace h := cond_T hc12 h
               apply Runs.skip
               apply Runs.then
               obtain ⟨y17, hj17, h⟩ := bind_some h
               refine .mono (Q := fun x e σ => x = .normal ∧ EnvHas e [(0, (.ptr (b8 + 0) 2 0)), (6, (.buf (b33 + 6) 1 1)), (7, (vi s4.1)), (8, (vi s4.2.1))] ∧ Hs σ (.sl (.buf (b33 + 6) 1 1) 3 1 (s4.2.2.1.map (cI .i64)) true :: .blk (b25 + 2) 76 [(vi x5.Index), (vl Span.cs x5.Ticks)] :: .blk (b8 + 0) 119 [(vi y17.1), (vb y17.2)] :: .blk (b4 + 2) 96 (vG x1) :: T2)) ?_ ?_
               ·replace h := hj17
                apply Runs.inBlock
                obtain ⟨y18, hj18, h⟩ := bind_some h
                refine .mono (Q := fun x e σ => x = .normal ∧ EnvHas e [(0, (.ptr (b8 + 0) 2 0)), (6, (.buf (b33 + 6) 1 1)), (7, (vi s4.1)), (8, (vi s4.2.1))] ∧ Hs σ (.sl (.buf (b33 + 6) 1 1) 3 1 (s4.2.2.1.map (cI .i64)) true :: .blk (b25 + 2) 76 [(vi x5.Index), (vl Span.cs x5.Ticks)] :: .blk (b8 + 0) 119 [(vi y18.1), (vb y18.2)] :: .blk (b4 + 2) 96 (vG x1) :: T2)) ?_ ?_
                ·replace h := hj18
                 apply Runs.then
                 refine .regionH 3 rfl H ?_; intro b36 σ H
                 obtain ⟨x8, q8, h⟩ := bind_some h
                 refine .indexS H 0 rfl rfl rfl (at?_map q8) rfl rfl nofun rfl ?_; intro id2 hv2
                 refine .loadS (id := id2) (j := 0) (w := (.int .i64 x8)) H 0 rfl hv2 (by simp) (at?_map q8) rfl (by simp) rfl rfl rfl nofun rfl ?_
                 refine .assign (v := (vi x8)) rfl rfl ?_
                 apply Ops.nil
                 replace H := H.all
                 apply Runs.then
                 refine .regionH 13 rfl H ?_; intro b37 σ H
                 refine .move (v := (.ptr (b8 + 0) 2 0)) rfl rfl (.nilCheckH (off := 0) H 2 rfl rfl rfl nofun rfl (.fieldAddrH (off := 0) (fo := 1) H 2 rfl rfl rfl rfl rfl nofun rfl (.loadH (off := 1) (v := (vb s4.2.2.2.2)) H 2 rfl rfl rfl rfl rfl nofun rfl ?_)))
                 refine .not (b := s4.2.2.2.2) rfl rfl (.move (v := (vb (!s4.2.2.2.2))) rfl rfl ?_)
                 refine .mid 7 (K1 := fun e σ => EnvHas e [(24, (vb ((!s4.2.2.2.2) || (decide (x8 > s4.2.2.2.1))))), (0, (.ptr (b8 + 0) 2 0)), (5, (vi x8)), (6, (.buf (b33 + 6) 1 1)), (7, (vi s4.1)), (8, (vi s4.2.1))] ∧ Has σ (b37 + 13) (b37 + 13) (.sl (.buf (b33 + 6) 1 1) 3 1 (s4.2.2.1.map (cI .i64)) true :: .blk (b25 + 2) 76 [(vi x5.Index), (vl Span.cs x5.Ticks)] :: .blk (b8 + 0) 119 [(vi s4.2.2.2.1), (vb s4.2.2.2.2)] :: .blk (b4 + 2) 96 (vG x1) :: T2)) rfl ?_ ?_
                 ·refine .split rfl rfl ?_ ?_ <;> intro hc13
                  ·skip
                   refine .pass rfl rfl rfl (.pass rfl rfl rfl (.pass rfl rfl rfl (.pass rfl rfl rfl ?_)))
                   refine .pass rfl rfl rfl (.pass rfl rfl rfl (.pickT (v := (vb true)) rfl rfl rfl ?_))
                   apply Ops.nil
                   exact ⟨⟨or_T hc13, rfl, rfl, rfl, rfl, rfl, trivial⟩, H.weak (by omega) (Nat.le_refl _)⟩
                  ·skip
                   refine .wanted rfl rfl (.move (v := (vi x8)) rfl rfl (.wanted rfl rfl (.move (v := (.ptr (b8 + 0) 2 0)) rfl rfl ?_)))
                   refine .wanted rfl rfl (.nilCheckH (off := 0) H 2 rfl rfl rfl nofun rfl (.wanted rfl rfl (.fieldAddrH (off := 0) (fo := 0) H 2 rfl rfl rfl rfl rfl nofun rfl ?_)))
                   refine .wanted rfl rfl (.loadH (off := 0) (v := (vi s4.2.2.2.1)) H 2 rfl rfl rfl rfl rfl nofun rfl (.wanted rfl rfl (.int (m := x8) (m' := s4.2.2.2.1) (r := .bool (decide (x8 > s4.2.2.2.1))) rfl rfl rfl rfl rfl ?_)))
                   refine .pickF (v := (vb (decide (x8 > s4.2.2.2.1)))) rfl rfl rfl ?_
                   apply Ops.nil
                   exact ⟨⟨or_F hc13, rfl, rfl, rfl, rfl, rfl, trivial⟩, H.weak (by omega) (Nat.le_refl _)⟩
                 ·rintro e σ ⟨he, H⟩
                  obtain ⟨e, rfl⟩ := he.ex
                  apply Ops.nil
                  replace H := H.all
                  refine .whether (v := ((!s4.2.2.2.2) || (decide (x8 > s4.2.2.2.1)))) rfl ?_ ?_ <;> intro hc14
                  ·replace h := cond_T hc14 h
                   refine .regionH 9 rfl H ?_; intro b38 σ H
                   refine .move (v := (.ptr (b8 + 0) 2 0)) rfl rfl (.move (v := (.ptr (b8 + 0) 2 0)) rfl rfl (.move (v := (vi x8)) rfl rfl (.nilCheckH (off := 0) H 2 rfl rfl rfl nofun rfl ?_)))
                   refine .fieldAddrH (off := 0) (fo := 0) H 2 rfl rfl rfl rfl rfl nofun rfl (.storeH (off := 0) (cells' := [(vi x8), (vb s4.2.2.2.2)]) H 2 rfl rfl rfl rfl rfl rfl rfl rfl rfl nofun ?_); intro σ H
                   refine .nilCheckH (off := 0) H 2 rfl rfl rfl nofun rfl (.fieldAddrH (off := 0) (fo := 1) H 2 rfl rfl rfl rfl rfl nofun rfl (.storeH (off := 1) (cells' := [(vi x8), (vb true)]) H 2 rfl rfl rfl rfl rfl rfl rfl rfl rfl nofun ?_)); intro σ H
                   apply Ops.nil
                   replace H := H.all
                   replace h := Option.some.inj h; subst h
                   exact ⟨rfl, ⟨rfl, rfl, rfl, rfl, trivial⟩, H⟩
                  ·replace h := cond_F hc14 h
                   apply Runs.skip
                   replace h := Option.some.inj h; subst h
                   exact ⟨rfl, ⟨rfl, rfl, rfl, rfl, trivial⟩, H⟩
                ·rintro x e σ ⟨rfl, he, H⟩
                 obtain ⟨e, rfl⟩ := he.ex
                 replace h := Option.some.inj h; subst h
                 exact ⟨rfl, ⟨rfl, rfl, rfl, rfl, trivial⟩, H⟩
               ·rintro x e σ ⟨rfl, he, H⟩
                obtain ⟨e, rfl⟩ := he.ex
                refine .regionH 2 rfl H ?_; intro b39 σ H
                refine .int (m := s4.2.1) (m' := 1) (r := .int .i64 (w64 (s4.2.1 + 1))) rfl rfl rfl rfl rfl (.move (v := (vi (w64 (s4.2.1 + 1)))) rfl rfl ?_)
                apply Ops.nil
                replace H := H.all
                replace h := Option.some.inj h; subst h
                exact ⟨rfl, ⟨rfl, rfl, rfl, rfl, trivial⟩, H⟩
              ·replace h := cond_F hc12 h
               apply Runs.exit
               replace h := Option.some.inj h; subst h
               exact ⟨nofun, ⟨rfl, trivial, H⟩⟩
             ·rintro x e σ ⟨rfl, he, H⟩
              obtain ⟨e, rfl⟩ := he.ex
              replace h := Option.some.inj h; subst h
              exact ⟨.inl rfl, _, resD_ok H .nil, _, ⟨rfl, rfl⟩, H⟩
            ·rintro _ _ σ ⟨rfl, rfl⟩ H
             apply Ops.nil
             replace H := H.all
             replace h := Option.some.inj h; subst h
             exact ⟨rfl, ⟨rfl, rfl, rfl, rfl, rfl, rfl, rfl, rfl, rfl, rfl, trivial⟩, (H.erase 0)⟩
           ·replace h := cond_F hc11 h
            apply Runs.skip
            replace h := Option.some.inj h; subst h
            exact ⟨rfl, ⟨rfl, rfl, rfl, rfl, rfl, rfl, rfl, rfl, rfl, rfl, trivial⟩, H⟩
          ·rintro x e σ ⟨rfl, he, H⟩
           obtain ⟨e, rfl⟩ := he.ex
           apply Runs.then
           refine .regionH 12 rfl H ?_; intro b40 σ H
           refine .loadHA (off := 0) (cs := (vG x1)) H 2 rfl rfl rfl rfl rfl rfl rfl nofun rfl (.move (v := (vi y13.1)) rfl rfl (.move (v := (vi d)) rfl rfl (.int (m := y13.1) (m' := d) (r := .int .i64 (w64 (y13.1 - d))) rfl rfl rfl rfl rfl ?_)))
           refine .move (v := (vb up)) rfl rfl (.not (b := up) rfl rfl ?_)
           obtain ⟨x9, q9, h⟩ := bind_some h
           refine .call (ys := [(.agg (vG x1)), (vi (w64 (y13.1 - d))), (vb (!up))]) (r := (.tup [(vi x9.1), (vb x9.2)])) rfl (size_form_reach_fn q9) rfl (.move (v := (.tup [(vi x9.1), (vb x9.2)])) rfl rfl (.extract (v := (vi x9.1)) rfl rfl rfl (.extract (v := (vb x9.2)) rfl rfl rfl ?_)))
           refine .assign (v := (vi x9.1)) rfl rfl (.assign (v := (vb x9.2)) rfl rfl ?_)
           apply Ops.nil
           replace H := H.all
           apply Runs.then
           refine .regionH 1 rfl H ?_; intro b41 σ H
           refine .move (v := (vb x9.2)) rfl rfl ?_
           apply Ops.nil
           replace H := H.all
           refine .whether (v := x9.2) rfl ?_ ?_ <;> intro hc15
           ·replace h := cond_T hc15 h
            refine .regionH 8 rfl H ?_; intro b42 σ H
            refine .move (v := (vi y1)) rfl rfl (.fieldAddrH (off := 0) (fo := 0) H 0 rfl rfl rfl rfl rfl nofun rfl (.loadH (off := 0) (v := (vi x5.Index)) H 0 rfl rfl rfl rfl rfl nofun rfl (.move (v := (vi x9.1)) rfl rfl ?_)))
            refine .int (m := x5.Index) (m' := x9.1) (r := .int .i64 (w64 (x5.Index - x9.1))) rfl rfl rfl rfl rfl (.int (m := y1) (m' := (w64 (x5.Index - x9.1))) (r := .int .i64 (w64 (y1 * (w64 (x5.Index - x9.1))))) rfl rfl rfl rfl rfl (.buildS (sz := 1) ([(w64 (y1 * (w64 (x5.Index - x9.1))))].map (cI .i64)) H (by omega) (by omega) rfl rfl rfl rfl rfl rfl rfl rfl rfl ?_)); intro σ H
            obtain ⟨y19, hj19, h⟩ := bind_some h
            refine .callI (PostA := fun r A => r = (.tup []) ∧ A = [.sl (.buf (b42 + 6) 1 1) 3 1 (y19.1.map (cI .i64)) true, .blk (b25 + 2) 76 [(vi x5.Index), (vl Span.cs x5.Ticks)], .blk (b8 + 0) 119 [(vi y19.2.1), (vb y19.2.2)], .blk (b4 + 2) 96 (vG x1)]) (cv := (.v (.fn 86))) (ys := [(.ptr (b8 + 0) 2 0), (.buf (b42 + 6) 1 1)]) (L := []) [.sl (.buf (b42 + 6) 1 1) 3 1 ([(w64 (y1 * (w64 (x5.Index - x9.1))))].map (cI .i64)) true, .blk (b25 + 2) 76 [(vi x5.Index), (vl Span.cs x5.Ticks)], .blk (b8 + 0) 119 [(vi y14.1), (vb y14.2)], .blk (b4 + 2) 96 (vG x1)] H rfl rfl (fun T3 hT H => callI_of Try.func86 rfl (fun _ => rfl) rfl rfl rfl rfl ?_) nofun rfl ?_
            ·replace h := hj19
             apply Runs.then
             refine .regionH 3 rfl H ?_; intro b43 σ H
             refine .move (v := (.buf (b42 + 6) 1 1)) rfl rfl (.lenSt (c := (cI .i64)) (xs := [(w64 (y1 * (w64 (x5.Index - x9.1))))]) H 0 rfl rfl rfl nofun rfl (.move (v := (vi 0)) rfl rfl ?_))
             apply Ops.nil
             replace H := H.all
             apply Runs.inBlock
             obtain ⟨y20, hj20, h⟩ := bind_some h
             obtain ⟨n5, hj20⟩ := loopO_iff.1 hj20
             refine .mono (Runs.loopO hj20 (fun s5 e σ => EnvHas e [(0, (.ptr (b8 + 0) 2 0)), (6, (.buf (b42 + 6) 1 1)), (7, (vi s5.1)), (8, (vi s5.2.1))] ∧ Hs σ (.sl (.buf (b42 + 6) 1 1) 3 1 (s5.2.2.1.map (cI .i64)) true :: .blk (b25 + 2) 76 [(vi x5.Index), (vl Span.cs x5.Ticks)] :: .blk (b8 + 0) 119 [(vi s5.2.2.2.1), (vb s5.2.2.2.2)] :: .blk (b4 + 2) 96 (vG x1) :: T3)) (fun y20 x e σ => x = .exit 0 ∧ EnvHas e [] ∧ Hs σ (.sl (.buf (b42 + 6) 1 1) 3 1 (y20.1.map (cI .i64)) true :: .blk (b25 + 2) 76 [(vi x5.Index), (vl Span.cs x5.Ticks)] :: .blk (b8 + 0) 119 [(vi y20.2.1), (vb y20.2.2)] :: .blk (b4 + 2) 96 (vG x1) :: T3)) ⟨⟨rfl, rfl, rfl, rfl, trivial⟩, H⟩ ?_) ?_
             ·intro s5 e σ hI z h
              obtain ⟨he, H⟩ := hI
              obtain ⟨e, rfl⟩ := he.ex
              unfold size_far.s4 at h
              apply Runs.then
              refine .regionH 1 rfl H ?_; intro b44 σ H
              refine .int (m := s5.2.1) (m' := s5.1) (r := .bool (decide (s5.2.1 < s5.1))) rfl rfl rfl rfl rfl ?_
              apply Ops.nil
              replace H := H.all
              apply Runs.then
              refine .whether (v := (decide (s5.2.1 < s5.1))) rfl ?_ ?_ <;> intro hc16
              ·replace h := cond_T hc16 h
               apply Runs.skip
               apply Runs.then
               obtain ⟨y21, hj21, h⟩ := bind_some h
               refine .mono (Q := fun x e σ => x = .normal ∧ EnvHas e [(0, (.ptr (b8 + 0) 2 0)), (6, (.buf (b42 + 6) 1 1)), (7, (vi s5.1)), (8, (vi s5.2.1))] ∧ Hs σ (.sl (.buf (b42 + 6) 1 1) 3 1 (s5.2.2.1.map (cI .i64)) true :: .blk (b25 + 2) 76 [(vi x5.Index), (vl Span.cs x5.Ticks)] :: .blk (b8 + 0) 119 [(vi y21.1), (vb y21.2)] :: .blk (b4 + 2) 96 (vG x1) :: T3)) ?_ ?_
               ·replace h := hj21
                apply Runs.inBlock
                obtain ⟨y22, hj22, h⟩ := bind_some h
                refine .mono (Q := fun x e σ => x = .normal ∧ EnvHas e [(0, (.ptr (b8 + 0) 2 0)), (6, (.buf (b42 + 6) 1 1)), (7, (vi s5.1)), (8, (vi s5.2.1))] ∧ Hs σ (.sl (.buf (b42 + 6) 1 1) 3 1 (s5.2.2.1.map (cI .i64)) true :: .blk (b25 + 2) 76 [(vi x5.Index), (vl Span.cs x5.Ticks)] :: .blk (b8 + 0) 119 [(vi y22.1), (vb y22.2)] :: .blk (b4 + 2) 96 (vG x1) :: T3)) ?_ ?_
                ·replace h := hj22
                 apply Runs.then
                 refine .regionH 3 rfl H ?_; intro b45 σ H
                 obtain ⟨x10, q10, h⟩ := bind_some h
                 refine .indexS H 0 rfl rfl rfl (at?_map q10) rfl rfl nofun rfl ?_; intro id3 hv3
                 refine .loadS (id := id3) (j := 0) (w := (.int .i64 x10)) H 0 rfl hv3 (by simp) (at?_map q10) rfl (by simp) rfl rfl rfl nofun rfl ?_
                 refine .assign (v := (vi x10)) rfl rfl ?_
                 apply Ops.nil
                 replace H := H.all
                 apply Runs.then
                 refine .regionH 13 rfl H ?_; intro b46 σ H
                 refine .move (v := (.ptr (b8 + 0) 2 0)) rfl rfl (.nilCheckH (off := 0) H 2 rfl rfl rfl nofun rfl (.fieldAddrH (off := 0) (fo := 1) H 2 rfl rfl rfl rfl rfl nofun rfl (.loadH (off := 1) (v := (vb s5.2.2.2.2)) H 2 rfl rfl rfl rfl rfl nofun rfl ?_)))
                 refine .not (b := s5.2.2.2.2) rfl rfl (.move (v := (vb (!s5.2.2.2.2))) rfl rfl ?_)
                 refine .mid 7 (K1 := fun e σ => EnvHas e [(24, (vb ((!s5.2.2.2.2) || (decide (x10 > s5.2.2.2.1))))), (0, (.ptr (b8 + 0) 2 0)), (5, (vi x10)), (6, (.buf (b42 + 6) 1 1)), (7, (vi s5.1)), (8, (vi s5.2.1))] ∧ Has σ (b46 + 13) (b46 + 13) (.sl (.buf (b42 + 6) 1 1) 3 1 (s5.2.2.1.map (cI .i64)) true :: .blk (b25 + 2) 76 [(vi x5.Index), (vl Span.cs x5.Ticks)] :: .blk (b8 + 0) 119 [(vi s5.2.2.2.1), (vb s5.2.2.2.2)] :: .blk (b4 + 2) 96 (vG x1) :: T3)) rfl ?_ ?_
                 ·refine .split rfl rfl ?_ ?_ <;> intro hc17
                  ·skip
                   refine .pass rfl rfl rfl (.pass rfl rfl rfl (.pass rfl rfl rfl (.pass rfl rfl rfl ?_)))
                   refine .pass rfl rfl rfl (.pass rfl rfl rfl (.pickT (v := (vb true)) rfl rfl rfl ?_))
                   apply Ops.nil
                   exact ⟨⟨or_T hc17, rfl, rfl, rfl, rfl, rfl, trivial⟩, H.weak (by omega) (Nat.le_refl _)⟩
                  ·skip
                   refine .wanted rfl rfl (.move (v := (vi x10)) rfl rfl (.wanted rfl rfl (.move (v := (.ptr (b8 + 0) 2 0)) rfl rfl ?_)))
                   refine .wanted rfl rfl (.nilCheckH (off := 0) H 2 rfl rfl rfl nofun rfl (.wanted rfl rfl (.fieldAddrH (off := 0) (fo := 0) H 2 rfl rfl rfl rfl rfl nofun rfl ?_)))
                   refine .wanted rfl rfl (.loadH (off := 0) (v := (vi s5.2.2.2.1)) H 2 rfl rfl rfl rfl rfl nofun rfl (.wanted rfl rfl (.int (m := x10) (m' := s5.2.2.2.1) (r := .bool (decide (x10 > s5.2.2.2.1))) rfl rfl rfl rfl rfl ?_)))
                   refine .pickF (v := (vb (decide (x10 > s5.2.2.2.1)))) rfl rfl rfl ?_
                   apply Ops.nil
                   exact ⟨⟨or_F hc17, rfl, rfl, rfl, rfl, rfl, trivial⟩, H.weak (by omega) (Nat.le_refl _)⟩
                 ·rintro e σ ⟨he, H⟩
                  obtain ⟨e, rfl⟩ := he.ex
                  apply Ops.nil
                  replace H := H.all
                  refine .whether (v := ((!s5.2.2.2.2) || (decide (x10 > s5.2.2.2.1)))) rfl ?_ ?_ <;> intro hc18
                  ·replace h := cond_T hc18 h
                   refine .regionH 9 rfl H ?_; intro b47 σ H
                   refine .move (v := (.ptr (b8 + 0) 2 0)) rfl rfl (.move (v := (.ptr (b8 + 0) 2 0)) rfl rfl (.move (v := (vi x10)) rfl rfl (.nilCheckH (off := 0) H 2 rfl rfl rfl nofun rfl ?_)))
                   refine .fieldAddrH (off := 0) (fo := 0) H 2 rfl rfl rfl rfl rfl nofun rfl (.storeH (off := 0) (cells' := [(vi x10), (vb s5.2.2.2.2)]) H 2 rfl rfl rfl rfl rfl rfl rfl rfl rfl nofun ?_); intro σ H
                   refine .nilCheckH (off := 0) H 2 rfl rfl rfl nofun rfl (.fieldAddrH (off := 0) (fo := 1) H 2 rfl rfl rfl rfl rfl nofun rfl (.storeH (off := 1) (cells' := [(vi x10), (vb true)]) H 2 rfl rfl rfl rfl rfl rfl rfl rfl rfl nofun ?_)); intro σ H
                   apply Ops.nil
                   replace H := H.all
                   replace h := Option.some.inj h; subst h
                   exact ⟨rfl, ⟨rfl, rfl, rfl, rfl, trivial⟩, H⟩
                  ·replace h := cond_F hc18 h
                   apply Runs.skip
                   replace h := Option.some.inj h; subst h
                   exact ⟨rfl, ⟨rfl, rfl, rfl, rfl, trivial⟩, H⟩
                ·rintro x e σ ⟨rfl, he, H⟩
                 obtain ⟨e, rfl⟩ := he.ex
                 replace h := Option.some.inj h; subst h
                 exact ⟨rfl, ⟨rfl, rfl, rfl, rfl, trivial⟩, H⟩
               ·rintro x e σ ⟨rfl, he, H⟩
                obtain ⟨e, rfl⟩ := he.ex
                refine .regionH 2 rfl H ?_; intro b48 σ H
                refine .int (m := s5.2.1) (m' := 1) (r := .int .i64 (w64 (s5.2.1 + 1))) rfl rfl rfl rfl rfl (.move (v := (vi (w64 (s5.2.1 + 1)))) rfl rfl ?_)
                apply Ops.nil
                replace H := H.all
                replace h := Option.some.inj h; subst h
                exact ⟨rfl, ⟨rfl, rfl, rfl, rfl, trivial⟩, H⟩
              ·replace h := cond_F hc16 h
               apply Runs.exit
               replace h := Option.some.inj h; subst h
               exact ⟨nofun, ⟨rfl, trivial, H⟩⟩
             ·rintro x e σ ⟨rfl, he, H⟩
              obtain ⟨e, rfl⟩ := he.ex
              replace h := Option.some.inj h; subst h
              exact ⟨.inl rfl, _, resD_ok H .nil, _, ⟨rfl, rfl⟩, H⟩
            ·rintro _ _ σ ⟨rfl, rfl⟩ H
             apply Ops.nil
             replace H := H.all
             replace h := Option.some.inj h; subst h
             exact (.inl ⟨_, rfl, rfl, ⟨rfl, rfl, rfl, rfl, rfl, rfl, rfl, rfl, trivial⟩, ((H.erase 1).erase 0)⟩)
           ·replace h := cond_F hc15 h
            apply Runs.skip
            replace h := Option.some.inj h; subst h
            exact (.inl ⟨_, rfl, rfl, ⟨rfl, rfl, rfl, rfl, rfl, rfl, rfl, rfl, trivial⟩, (H.erase 0)⟩)
       ·rintro x e σ (⟨a3, rfl, rfl, he, H⟩ | ⟨a4, rfl, rfl, he, H⟩)
        ·skip
         replace h := jgo h
         obtain ⟨e, rfl⟩ := he.ex
         replace h := Option.some.inj h; subst h
         exact ⟨rfl, ⟨rfl, rfl, rfl, rfl, rfl, rfl, rfl, rfl, trivial⟩, H⟩
        ·skip
         replace h := jret h
         obtain ⟨e, rfl⟩ := he.ex
         replace h := Option.some.inj h; subst h
         exact ⟨rfl, ⟨rfl, rfl, rfl, rfl, rfl, rfl, rfl, rfl, trivial⟩, H⟩
      ·rintro x e σ ⟨rfl, he, H⟩
       obtain ⟨e, rfl⟩ := he.ex
       refine .regionH 2 rfl H ?_; intro b49 σ H
       refine .int (m := s3.1) (m' := 1) (r := .int .i64 (w64 (s3.1 + 1))) rfl rfl rfl rfl rfl (.move (v := (vi (w64 (s3.1 + 1)))) rfl rfl ?_)
       apply Ops.nil
       replace H := H.all
       replace h := Option.some.inj h; subst h
       exact ⟨rfl, ⟨rfl, rfl, rfl, rfl, rfl, rfl, rfl, rfl, trivial⟩, H⟩
     ·replace h := cond_F hc8 h
      apply Runs.exit
      replace h := Option.some.inj h; subst h
      exact ⟨nofun, ⟨rfl, ⟨rfl, rfl, trivial⟩, (H.erase 1)⟩⟩
    ·rintro x e σ ⟨rfl, he, H⟩
     obtain ⟨e, rfl⟩ := he.ex
     apply Runs.then
     refine .drawnH 9 rfl (by kernel_rfl) H ?_; intro b50 σ H B50
     refine .move (v := (vi y1)) rfl rfl (.fieldAddrH (off := 0) (fo := 0) H 0 rfl rfl rfl rfl rfl (fun _ => .inl ⟨B50 0 _ rfl _ rfl, nofun⟩) rfl (.loadH (off := 0) (v := (vi y10.1)) H 0 rfl rfl rfl rfl rfl (fun _ => .inl ⟨B50 0 _ rfl _ rfl, nofun⟩) rfl (.int (m := y1) (m' := y10.1) (r := .int .i64 (w64 (y1 * y10.1))) rfl rfl rfl rfl rfl ?_)))
     refine .fieldAddrH (off := 0) (fo := 1) H 0 rfl rfl rfl rfl rfl (fun _ => .inl ⟨B50 0 _ rfl _ rfl, nofun⟩) rfl (.loadH (off := 1) (v := (vb y10.2)) H 0 rfl rfl rfl rfl rfl (fun _ => .inl ⟨B50 0 _ rfl _ rfl, nofun⟩) rfl (.assign (v := (vi (w64 (y1 * y10.1)))) rfl rfl (.assign (v := (vb y10.2)) rfl rfl ?_)))
     refine .assign (v := (vi 0)) rfl rfl ?_
     apply Ops.nil
     replace H := H.all
     apply Runs.ret
     replace h := Option.some.inj h; subst h
     exact (Ends.H (xs := [(vi (w64 (y1 * y10.1))), (vb y10.2), (vi 0)]) (.inr rfl) H (.tmp (v := (vi (w64 (y1 * y10.1)))) rfl (.tmp (v := (vb y10.2)) rfl (.tmp (v := (vi 0)) rfl .nil))) (.two (.cons (.c (.v _)) (.cons (.c (.v _)) (.cons (.c (.v _)) .nil)))))

theorem size_Down_fn {f : Form} {d : Int} {r : Int × Bool × Int} (h : size_Down f d = some r) : Fn CX 34 [(.agg (vs (Form.cs f))), (vi d)] (.tup [(vi r.1), (vb r.2.1), (vi r.2.2)]) := by
 refine Fn.ends Try.func34 rfl rfl rfl rfl rfl rfl ?_
 have H : Hs (⟨0, fun _ => .none⟩ : Heap) [] := Has.nil (Nat.le_refl _)
 generalize (⟨0, fun _ => .none⟩ : Heap) = σ at H ⊢
 unfold size_Down at h
 apply Runs.then
 refine .regionH 4 rfl H ?_; intro b1 σ H
 refine .boxH (cs := (vF f)) H (by omega) (by omega) rfl rfl rfl ?_; intro σ H
 refine .assign (v := (vi 0)) rfl rfl (.assign (v := (vb false)) rfl rfl (.assign (v := (vi 0)) rfl rfl ?_))
 apply Ops.nil
 replace H := H.all
 apply Runs.then
 refine .regionH 9 rfl H ?_; intro b2 σ H
 refine .loadHA (off := 0) (cs := (vF f)) H 0 rfl rfl rfl rfl rfl rfl rfl nofun rfl (.move (v := (vi d)) rfl rfl ?_)
 obtain ⟨x1, q1, h⟩ := bind_some h
 refine .call (ys := [(.agg (vF f)), (vi d), (vb false)]) (r := (.tup [(vi x1.1), (vb x1.2.1), (vi x1.2.2)])) rfl (size_far_fn q1) rfl (.extract (v := (vi x1.1)) rfl rfl rfl (.extract (v := (vb x1.2.1)) rfl rfl rfl (.extract (v := (vi x1.2.2)) rfl rfl rfl ?_)))
 refine .assign (v := (vi x1.1)) rfl rfl (.assign (v := (vb x1.2.1)) rfl rfl (.assign (v := (vi x1.2.2)) rfl rfl ?_))
 apply Ops.nil
 replace H := H.all
 apply Runs.ret
 replace h := Option.some.inj h; subst h
 exact (Ends.H (xs := [(vi x1.1), (vb x1.2.1), (vi x1.2.2)]) (.inr rfl) H (.tmp (v := (vi x1.1)) rfl (.tmp (v := (vb x1.2.1)) rfl (.tmp (v := (vi x1.2.2)) rfl .nil))) (.two (.cons (.c (.v _)) (.cons (.c (.v _)) (.cons (.c (.v _)) .nil)))))

theorem carry_asked_reached_fn {a : carry_asked} {gap : Int} {r : Bool} (h : carry_asked_reached a gap = some r) : Fn CX 46 [(.agg (vs (carry_asked.cs a))), (vi gap)] (vb r) := by
 refine Fn.ends Try.func46 rfl rfl rfl rfl rfl rfl ?_
 have H : Hs (⟨0, fun _ => .none⟩ : Heap) [] := Has.nil (Nat.le_refl _)
 generalize (⟨0, fun _ => .none⟩ : Heap) = σ at H ⊢
 unfold carry_asked_reached at h
 apply Runs.then
 refine .regionH 2 rfl H ?_; intro b1 σ H
 refine .boxH (cs := [(vi a.f.Period), (vi a.f.Count), (vl (cL Span.cs) a.f.Core), (vl Granule.cs a.f.Odd), (vi a.m)]) H (by omega) (by omega) rfl rfl rfl ?_; intro σ H
 refine .assign (v := (vb false)) rfl rfl ?_
 apply Ops.nil
 replace H := H.all
 apply Runs.then
 refine .regionH 12 rfl H ?_; intro b2 σ H
 refine .fieldAddrH (off := 0) (fo := 0) H 0 rfl rfl rfl rfl rfl nofun rfl (.loadHA (off := 0) (cs := (vF a.f)) H 0 rfl rfl rfl rfl rfl rfl rfl nofun rfl (.move (v := (vi gap)) rfl rfl (.int (m := gap) (m' := 1099511627776) (r := .int .i64 (w64 (gap - 1099511627776))) rfl rfl rfl rfl rfl ?_)))
 obtain ⟨x1, q1, h⟩ := bind_some h
 refine .call (ys := [(.agg (vF a.f)), (vi (w64 (gap - 1099511627776)))]) (r := (.tup [(vi x1.1), (vb x1.2.1), (vi x1.2.2)])) rfl (size_Down_fn q1) rfl (.move (v := (.tup [(vi x1.1), (vb x1.2.1), (vi x1.2.2)])) rfl rfl (.extract (v := (vi x1.1)) rfl rfl rfl (.extract (v := (vb x1.2.1)) rfl rfl rfl ?_)))
 refine .extract (v := (vi x1.2.2)) rfl rfl rfl (.assign (v := (vi x1.1)) rfl rfl (.assign (v := (vb x1.2.1)) rfl rfl (.assign (v := (vi x1.2.2)) rfl rfl ?_)))
 apply Ops.nil
 replace H := H.all
 apply Runs.then
 refine .regionH 12 rfl H ?_; intro b3 σ H
 refine .move (v := (vb x1.2.1)) rfl rfl (.move (v := (vb x1.2.1)) rfl rfl ?_)
 refine .mid 3 (K1 := fun e σ => EnvHas e [(21, (vb (x1.2.1 && (x1.2.2 == 0)))), (2, (.ptr (b1 + 0) 5 0)), (5, (vi x1.1))] ∧ Has σ (b3 + 5) (b3 + 12) [.blk (b1 + 0) 82 [(vi a.f.Period), (vi a.f.Count), (vl (cL Span.cs) a.f.Core), (vl Granule.cs a.f.Odd), (vi a.m)]]) rfl ?_ ?_
 ·refine .split rfl rfl ?_ ?_ <;> intro hc1
  ·skip
   refine .wanted rfl rfl (.move (v := (vi x1.2.2)) rfl rfl (.wanted rfl rfl (.int (m := x1.2.2) (m' := 0) (r := .bool (x1.2.2 == 0)) rfl rfl rfl rfl rfl ?_)))
   refine .pickT (v := (vb (x1.2.2 == 0))) rfl rfl rfl ?_
   apply Ops.nil
   exact ⟨⟨and_T hc1, rfl, rfl, trivial⟩, H.weak (by omega) (Nat.le_refl _)⟩
  ·skip
   refine .pass rfl rfl rfl (.pass rfl rfl rfl (.pickF (v := (vb false)) rfl rfl rfl ?_))
   apply Ops.nil
   exact ⟨⟨and_F hc1, rfl, rfl, trivial⟩, H.weak (by omega) (Nat.le_refl _)⟩
 ·rintro e σ ⟨he, H⟩
  obtain ⟨e, rfl⟩ := he.ex
  refine .move (v := (vb (x1.2.1 && (x1.2.2 == 0)))) rfl rfl ?_
  refine .mid 5 (K1 := fun e σ => EnvHas e [(27, (vb ((x1.2.1 && (x1.2.2 == 0)) && (decide (x1.1 ≥ a.m)))))] ∧ Has σ (b3 + 11) (b3 + 12) []) rfl ?_ ?_
  ·refine .split rfl rfl ?_ ?_ <;> intro hc2
   ·skip
    refine .wanted rfl rfl (.move (v := (vi x1.1)) rfl rfl (.wanted rfl rfl (.fieldAddrH (off := 0) (fo := 4) H 0 rfl rfl rfl rfl rfl nofun rfl ?_)))
    refine .wanted rfl rfl (.loadH (off := 4) (v := (vi a.m)) H 0 rfl rfl rfl rfl rfl nofun rfl (.wanted rfl rfl (.int (m := x1.1) (m' := a.m) (r := .bool (decide (x1.1 ≥ a.m))) rfl rfl rfl rfl rfl ?_)))
    refine .pickT (v := (vb (decide (x1.1 ≥ a.m)))) rfl rfl rfl ?_
    apply Ops.nil
    exact ⟨⟨and_T hc2, trivial⟩, (H.erase 0).weak (by omega) (Nat.le_refl _)⟩
   ·skip
    refine .pass rfl rfl rfl (.pass rfl rfl rfl (.pass rfl rfl rfl (.pass rfl rfl rfl ?_)))
    refine .pickF (v := (vb false)) rfl rfl rfl ?_
    apply Ops.nil
    exact ⟨⟨and_F hc2, trivial⟩, (H.erase 0).weak (by omega) (Nat.le_refl _)⟩
  ·rintro e σ ⟨he, H⟩
   obtain ⟨e, rfl⟩ := he.ex
   refine .assign (v := (vb ((x1.2.1 && (x1.2.2 == 0)) && (decide (x1.1 ≥ a.m))))) rfl rfl ?_
   apply Ops.nil
   replace H := H.all
   apply Runs.ret
   replace h := Option.some.inj h; subst h
   exact (Ends.H (xs := [(vb ((x1.2.1 && (x1.2.2 == 0)) && (decide (x1.1 ≥ a.m))))]) (.inr rfl) H (.tmp (v := (vb ((x1.2.1 && (x1.2.2 == 0)) && (decide (x1.1 ≥ a.m))))) rfl .nil) (.one (.c (.v _))))

theorem carry_Low_fn {f : Form} {m : Int} {r : Bound} (h : carry_Low f m = some r) : Fn CX 17 [(.agg (vs (Form.cs f))), (vi m)] (.agg (vs (Bound.cs r))) := by
 refine Fn.ends Try.func17 rfl rfl rfl rfl rfl rfl ?_
 have H : Hs (⟨0, fun _ => .none⟩ : Heap) [] := Has.nil (Nat.le_refl _)
 generalize (⟨0, fun _ => .none⟩ : Heap) = σ at H ⊢
 unfold carry_Low at h
 apply Runs.then
 refine .regionH 2 rfl H ?_; intro b1 σ H
 refine .boxH (cs := (vF f)) H (by omega) (by omega) rfl rfl rfl ?_; intro σ H
 refine .allocH (cs := [(.v (.int .i8 0)), (vi 0)]) H (by omega) (by omega) rfl rfl ?_; intro σ H
 apply Ops.nil
 replace H := H.all
 apply Runs.then
 refine .regionH 7 rfl H ?_; intro b2 σ H
 refine .loadHA (off := 0) (cs := (vF f)) H 1 rfl rfl rfl rfl rfl rfl rfl nofun rfl (.move (v := (vi m)) rfl rfl (.max2 rfl rfl rfl (.min2 rfl rfl rfl ?_)))
 refine .buildA (cs := [(vi f.Period), (vi f.Count), (vl (cL Span.cs) f.Core), (vl Granule.cs f.Odd), (vi (iMin (iMax m (-4611686018427387904)) 4611686018427387904))]) rfl rfl (.allocH (cs := [(vi 0), (vi 0), .nils, .nils, (vi 0)]) H (by omega) (by omega) rfl rfl ?_); intro σ H
 refine .storeH (off := 0) (cells' := [(vi f.Period), (vi f.Count), (vl (cL Span.cs) f.Core), (vl Granule.cs f.Odd), (vi (iMin (iMax m (-4611686018427387904)) 4611686018427387904))]) H 0 rfl rfl rfl rfl rfl rfl rfl rfl rfl nofun ?_; intro σ H
 apply Ops.nil
 replace H := H.all
 apply Runs.then
 refine .regionH 6 rfl H ?_; intro b3 σ H
 refine .loadHA (off := 0) (cs := [(vi f.Period), (vi f.Count), (vl (cL Span.cs) f.Core), (vl Granule.cs f.Odd), (vi (iMin (iMax m (-4611686018427387904)) 4611686018427387904))]) H 0 rfl rfl rfl rfl rfl rfl rfl nofun rfl (.makeClo (fs := [(.agg [(vi f.Period), (vi f.Count), (vl (cL Span.cs) f.Core), (vl Granule.cs f.Odd), (vi (iMin (iMax m (-4611686018427387904)) 4611686018427387904))])]) (cs := []) rfl rfl rfl rfl ?_)
 obtain ⟨x1, q1, h⟩ := bind_some h
 refine .callH (ys := [(vi 2199023255553), (.clo 46 [(.agg [(vi f.Period), (vi f.Count), (vl (cL Span.cs) f.Core), (vl Granule.cs f.Odd), (vi (iMin (iMax m (-4611686018427387904)) 4611686018427387904))])] [])]) (r := (vi x1)) H rfl (sort_Search_fn (C := []) rfl (fun _ => rfl) (fun z0 y hz => (CloH.clo (Fn.toH (carry_asked_reached_fn hz) _))) q1) .nil nofun rfl ?_; intro σ H
 refine .min2 rfl rfl rfl (.int (m := (iMin x1 2199023255552)) (m' := 1099511627776) (r := .int .i64 (w64 ((iMin x1 2199023255552) - 1099511627776))) rfl rfl rfl rfl rfl (.assign (v := (vi (w64 ((iMin x1 2199023255552) - 1099511627776)))) rfl rfl ?_))
 apply Ops.nil
 replace H := H.all
 apply Runs.then
 apply Runs.then
 refine .regionH 2 rfl H ?_; intro b4 σ H
 refine .move (v := (vi (w64 ((iMin x1 2199023255552) - 1099511627776)))) rfl rfl (.int (m := (w64 ((iMin x1 2199023255552) - 1099511627776))) (m' := (-1099511627776)) (r := .bool ((w64 ((iMin x1 2199023255552) - 1099511627776)) == (-1099511627776))) rfl rfl rfl rfl rfl ?_)
 apply Ops.nil
 replace H := H.all
 refine .whether (v := ((w64 ((iMin x1 2199023255552) - 1099511627776)) == (-1099511627776))) rfl ?_ ?_ <;> intro hc1
 ·replace h := cond_T hc1 h
  apply Runs.then
  refine .regionH 2 rfl H ?_; intro b5 σ H
  refine .buildA (cs := [(.v (.int .i8 (-1))), (vi 0)]) rfl rfl (.storeH (off := 0) (cells' := [(.v (.int .i8 (-1))), (vi 0)]) H 1 rfl rfl rfl rfl rfl rfl rfl rfl rfl nofun ?_); intro σ H
  apply Ops.nil
  replace H := H.all
  apply Runs.ret
  replace h := Option.some.inj h; subst h
  exact (Ends.H (xs := [(.agg [(.v (.int .i8 (-1))), (vi 0)])]) (.inr rfl) H (.agg (cs := [(.v (.int .i8 (-1))), (vi 0)]) (off := 0) 1 rfl rfl rfl rfl rfl rfl rfl .nil) (.one (.p rfl)))
 ·replace h := cond_F hc1 h
  apply Runs.skip
  apply Runs.then
  refine .regionH 3 rfl H ?_; intro b6 σ H
  refine .move (v := (vi (w64 ((iMin x1 2199023255552) - 1099511627776)))) rfl rfl (.buildA (cs := [(.v (.int .i8 0)), (vi (w64 ((iMin x1 2199023255552) - 1099511627776)))]) rfl rfl (.storeH (off := 0) (cells' := [(.v (.int .i8 0)), (vi (w64 ((iMin x1 2199023255552) - 1099511627776)))]) H 1 rfl rfl rfl rfl rfl rfl rfl rfl rfl nofun ?_)); intro σ H
  apply Ops.nil
  replace H := H.all
  apply Runs.ret
  replace h := Option.some.inj h; subst h
  exact (Ends.H (xs := [(.agg [(.v (.int .i8 0)), (vi (w64 ((iMin x1 2199023255552) - 1099511627776)))])]) (.inr rfl) H (.agg (cs := [(.v (.int .i8 0)), (vi (w64 ((iMin x1 2199023255552) - 1099511627776)))]) (off := 0) 1 rfl rfl rfl rfl rfl rfl rfl .nil) (.one (.p rfl)))

theorem safe_Right_fn {a : Bound} {r : Bool} (h : safe_Right a = r) : Fn CX 23 [(.agg (vs (Bound.cs a)))] (vb r) := by
 refine Fn.ends Try.func23 rfl rfl rfl rfl rfl rfl ?_
 have H : Hs (⟨0, fun _ => .none⟩ : Heap) [] := Has.nil (Nat.le_refl _)
 generalize (⟨0, fun _ => .none⟩ : Heap) = σ at H ⊢
 unfold safe_Right at h
 apply Runs.then
 refine .regionH 2 rfl H ?_; intro b1 σ H
 refine .boxH (cs := [(.v (.int .i8 a.Inf)), (vi a.N)]) H (by omega) (by omega) rfl rfl rfl ?_; intro σ H
 refine .assign (v := (vb false)) rfl rfl ?_
 apply Ops.nil
 replace H := H.all
 apply Runs.then
 refine .regionH 19 rfl H ?_; intro b2 σ H
 refine .fieldAddrH (off := 0) (fo := 0) H 0 rfl rfl rfl rfl rfl nofun rfl (.loadH (off := 0) (v := (.v (.int .i8 a.Inf))) H 0 rfl rfl rfl rfl rfl nofun rfl (.int (m := a.Inf) (m' := 0) (r := .bool (a.Inf == 0)) rfl rfl rfl rfl rfl (.move (v := (vb (a.Inf == 0))) rfl rfl ?_)))
 refine .mid 14 (K1 := fun e σ => EnvHas e [(20, (vb ((a.Inf == 0) || (((a.Inf == 1) || (a.Inf == (-1))) && (a.N == 0)))))] ∧ Has σ (b2 + 18) (b2 + 19) []) rfl ?_ ?_
 ·refine .split rfl rfl ?_ ?_ <;> intro hc1
  ·skip
   refine .pass rfl rfl rfl (.pass rfl rfl rfl (.pass rfl rfl rfl (.pass rfl rfl rfl ?_)))
   refine .passU rfl rfl rfl (.passU rfl rfl rfl (.passU rfl rfl rfl (.pass rfl rfl rfl ?_)))
   refine .pass rfl rfl rfl (.passU rfl rfl rfl (.passU rfl rfl rfl (.passU rfl rfl rfl ?_)))
   refine .pass rfl rfl rfl (.pickT (v := (vb true)) rfl rfl rfl ?_)
   apply Ops.nil
   exact ⟨⟨or_T hc1, trivial⟩, (H.erase 0).weak (by omega) (Nat.le_refl _)⟩
  ·skip
   refine .wanted rfl rfl (.fieldAddrH (off := 0) (fo := 0) H 0 rfl rfl rfl rfl rfl nofun rfl (.wanted rfl rfl (.loadH (off := 0) (v := (.v (.int .i8 a.Inf))) H 0 rfl rfl rfl rfl rfl nofun rfl ?_)))
   refine .wanted rfl rfl (.int (m := a.Inf) (m' := 1) (r := .bool (a.Inf == 1)) rfl rfl rfl rfl rfl (.wanted rfl rfl (.move (v := (vb (a.Inf == 1))) rfl rfl ?_)))
   refine .mid 4 (K1 := fun e σ => EnvHas e [(14, (vb ((a.Inf == 1) || (a.Inf == (-1))))), (1, (.ptr (b1 + 0) 2 0)), (6, (vb false))] ∧ Has σ (b2 + 12) (b2 + 19) [.blk (b1 + 0) 32 [(.v (.int .i8 a.Inf)), (vi a.N)]]) rfl ?_ ?_
   ·refine .split rfl rfl ?_ ?_ <;> intro hc2
    ·skip
     refine .pass rfl rfl rfl (.pass rfl rfl rfl (.pass rfl rfl rfl (.wanted rfl rfl ?_)))
     refine .pickT (v := (vb true)) rfl rfl rfl ?_
     apply Ops.nil
     exact ⟨⟨or_T hc2, rfl, rfl, trivial⟩, H.weak (by omega) (Nat.le_refl _)⟩
    ·skip
     refine .wanted rfl rfl (.fieldAddrH (off := 0) (fo := 0) H 0 rfl rfl rfl rfl rfl nofun rfl (.wanted rfl rfl (.loadH (off := 0) (v := (.v (.int .i8 a.Inf))) H 0 rfl rfl rfl rfl rfl nofun rfl ?_)))
     refine .wanted rfl rfl (.int (m := a.Inf) (m' := (-1)) (r := .bool (a.Inf == (-1))) rfl rfl rfl rfl rfl (.wanted rfl rfl (.pickF (v := (vb (a.Inf == (-1)))) rfl rfl rfl ?_)))
     apply Ops.nil
     exact ⟨⟨or_F hc2, rfl, rfl, trivial⟩, H.weak (by omega) (Nat.le_refl _)⟩
   ·rintro e σ ⟨he, H⟩
    obtain ⟨e, rfl⟩ := he.ex
    refine .wanted rfl rfl (.move (v := (vb ((a.Inf == 1) || (a.Inf == (-1))))) rfl rfl ?_)
    refine .mid 4 (K1 := fun e σ => EnvHas e [(19, (vb (((a.Inf == 1) || (a.Inf == (-1))) && (a.N == 0)))), (6, (vb false))] ∧ Has σ (b2 + 17) (b2 + 19) []) rfl ?_ ?_
    ·refine .split rfl rfl ?_ ?_ <;> intro hc3
     ·skip
      refine .wanted rfl rfl (.fieldAddrH (off := 0) (fo := 1) H 0 rfl rfl rfl rfl rfl nofun rfl (.wanted rfl rfl (.loadH (off := 1) (v := (vi a.N)) H 0 rfl rfl rfl rfl rfl nofun rfl ?_)))
      refine .wanted rfl rfl (.int (m := a.N) (m' := 0) (r := .bool (a.N == 0)) rfl rfl rfl rfl rfl (.wanted rfl rfl (.pickT (v := (vb (a.N == 0))) rfl rfl rfl ?_)))
      apply Ops.nil
      exact ⟨⟨and_T hc3, rfl, trivial⟩, (H.erase 0).weak (by omega) (Nat.le_refl _)⟩
     ·skip
      refine .pass rfl rfl rfl (.pass rfl rfl rfl (.pass rfl rfl rfl (.wanted rfl rfl ?_)))
      refine .pickF (v := (vb false)) rfl rfl rfl ?_
      apply Ops.nil
      exact ⟨⟨and_F hc3, rfl, trivial⟩, (H.erase 0).weak (by omega) (Nat.le_refl _)⟩
    ·rintro e σ ⟨he, H⟩
     obtain ⟨e, rfl⟩ := he.ex
     refine .pickF (v := (vb (((a.Inf == 1) || (a.Inf == (-1))) && (a.N == 0)))) rfl rfl rfl ?_
     apply Ops.nil
     exact ⟨⟨or_F hc1, trivial⟩, H.weak (by omega) (Nat.le_refl _)⟩
 ·rintro e σ ⟨he, H⟩
  obtain ⟨e, rfl⟩ := he.ex
  refine .assign (v := (vb ((a.Inf == 0) || (((a.Inf == 1) || (a.Inf == (-1))) && (a.N == 0))))) rfl rfl ?_
  apply Ops.nil
  replace H := H.all
  apply Runs.ret
  subst h
  exact (Ends.H (xs := [(vb ((a.Inf == 0) || (((a.Inf == 1) || (a.Inf == (-1))) && (a.N == 0))))]) (.inr rfl) H (.tmp (v := (vb ((a.Inf == 0) || (((a.Inf == 1) || (a.Inf == (-1))) && (a.N == 0))))) rfl .nil) (.one (.c (.v _))))

theorem safe_Sub_fn {a : Int} {b : Int} {r : Int × Int} (h : safe_Sub a b = r) : Fn CX 47 [(vi a), (vi b)] (.tup [(vi r.1), (vi r.2)]) := by
 refine Fn.ends Try.func47 rfl rfl rfl rfl rfl rfl ?_
 have H : Hs (⟨0, fun _ => .none⟩ : Heap) [] := Has.nil (Nat.le_refl _)
 generalize (⟨0, fun _ => .none⟩ : Heap) = σ at H ⊢
 unfold safe_Sub at h
 apply Runs.then
 refine .regionH 2 rfl H ?_; intro b1 σ H
 refine .assign (v := (vi 0)) rfl rfl (.assign (v := (vi 0)) rfl rfl ?_)
 apply Ops.nil
 replace H := H.all
 apply Runs.then
 refine .regionH 4 rfl H ?_; intro b2 σ H
 refine .move (v := (vi a)) rfl rfl (.move (v := (vi b)) rfl rfl (.int (m := a) (m' := b) (r := .int .i64 (w64 (a - b))) rfl rfl rfl rfl rfl (.assign (v := (vi (w64 (a - b)))) rfl rfl ?_)))
 apply Ops.nil
 replace H := H.all
 apply Runs.then
 apply Runs.then
 refine .regionH 10 rfl H ?_; intro b3 σ H
 refine .move (v := (vi (w64 (a - b)))) rfl rfl (.move (v := (vi a)) rfl rfl (.int (m := (w64 (a - b))) (m' := a) (r := .bool (decide ((w64 (a - b)) < a))) rfl rfl rfl rfl rfl (.move (v := (vi b)) rfl rfl ?_)))
 refine .int (m := b) (m' := 0) (r := .bool (decide (b > 0))) rfl rfl rfl rfl rfl (.neB (b := (decide ((w64 (a - b)) < a))) (b' := (decide (b > 0))) rfl rfl rfl rfl (.move (v := (vb ((decide ((w64 (a - b)) < a)) != (decide (b > 0))))) rfl rfl ?_))
 refine .mid 3 (K1 := fun e σ => EnvHas e [(19, (vb (((decide ((w64 (a - b)) < a)) != (decide (b > 0))) && (b != 0)))), (6, (vi (w64 (a - b))))] ∧ Has σ (b3 + 10) (b3 + 10) []) rfl ?_ ?_
 ·refine .split rfl rfl ?_ ?_ <;> intro hc1
  ·skip
   refine .wanted rfl rfl (.move (v := (vi b)) rfl rfl (.wanted rfl rfl (.int (m := b) (m' := 0) (r := .bool (b != 0)) rfl rfl rfl rfl rfl ?_)))
   refine .pickT (v := (vb (b != 0))) rfl rfl rfl ?_
   apply Ops.nil
   exact ⟨⟨and_T hc1, rfl, trivial⟩, H.weak (by omega) (Nat.le_refl _)⟩
  ·skip
   refine .pass rfl rfl rfl (.pass rfl rfl rfl (.pickF (v := (vb false)) rfl rfl rfl ?_))
   apply Ops.nil
   exact ⟨⟨and_F hc1, rfl, trivial⟩, H.weak (by omega) (Nat.le_refl _)⟩
 ·rintro e σ ⟨he, H⟩
  obtain ⟨e, rfl⟩ := he.ex
  apply Ops.nil
  replace H := H.all
  refine .whether (v := (((decide ((w64 (a - b)) < a)) != (decide (b > 0))) && (b != 0))) rfl ?_ ?_ <;> intro hc2
  ·replace h := cond_T hc2 h
   apply Runs.then
   refine .regionH 2 rfl H ?_; intro b4 σ H
   refine .assign (v := (vi 0)) rfl rfl (.assign (v := (vi 10)) rfl rfl ?_)
   apply Ops.nil
   replace H := H.all
   apply Runs.ret
   subst h
   exact (Ends.H (xs := [(vi 0), (vi 10)]) (.inr rfl) H (.tmp (v := (vi 0)) rfl (.tmp (v := (vi 10)) rfl .nil)) (.two (.cons (.c (.v _)) (.cons (.c (.v _)) .nil))))
  ·replace h := cond_F hc2 h
   apply Runs.skip
   apply Runs.then
   refine .regionH 3 rfl H ?_; intro b5 σ H
   refine .move (v := (vi (w64 (a - b)))) rfl rfl (.assign (v := (vi (w64 (a - b)))) rfl rfl (.assign (v := (vi 0)) rfl rfl ?_))
   apply Ops.nil
   replace H := H.all
   apply Runs.ret
   subst h
   exact (Ends.H (xs := [(vi (w64 (a - b))), (vi 0)]) (.inr rfl) H (.tmp (v := (vi (w64 (a - b)))) rfl (.tmp (v := (vi 0)) rfl .nil)) (.two (.cons (.c (.v _)) (.cons (.c (.v _)) .nil))))

theorem safe_Minus_fn {a : Bound} {r : Bound × Int} (h : safe_Minus a = r) : Fn CX 20 [(.agg (vs (Bound.cs a)))] (.tup [(.agg (vs (Bound.cs r.1))), (vi r.2)]) := by
 refine Fn.ends Try.func20 rfl rfl rfl rfl rfl rfl ?_
 have H : Hs (⟨0, fun _ => .none⟩ : Heap) [] := Has.nil (Nat.le_refl _)
 generalize (⟨0, fun _ => .none⟩ : Heap) = σ at H ⊢
 unfold safe_Minus at h
 apply Runs.then
 refine .regionH 3 rfl H ?_; intro b1 σ H
 refine .boxH (cs := [(.v (.int .i8 a.Inf)), (vi a.N)]) H (by omega) (by omega) rfl rfl rfl ?_; intro σ H
 refine .allocH (cs := [(.v (.int .i8 0)), (vi 0)]) H (by omega) (by omega) rfl rfl ?_; intro σ H
 refine .assign (v := (vi 0)) rfl rfl ?_
 apply Ops.nil
 replace H := H.all
 apply Runs.then
 apply Runs.then
 refine .regionH 3 rfl H ?_; intro b2 σ H
 refine .loadHA (off := 0) (cs := [(.v (.int .i8 a.Inf)), (vi a.N)]) H 1 rfl rfl rfl rfl rfl rfl rfl nofun rfl (.call (ys := [(.agg [(.v (.int .i8 a.Inf)), (vi a.N)])]) (r := (vb (safe_Right a))) rfl (safe_Right_fn rfl) rfl (.not (b := (safe_Right a)) rfl rfl ?_))
 apply Ops.nil
 replace H := H.all
 refine .whether (v := (!(safe_Right a))) rfl ?_ ?_ <;> intro hc1
 ·replace h := cond_T hc1 h
  apply Runs.then
  refine .regionH 3 rfl H ?_; intro b3 σ H
  refine .buildA (cs := [(.v (.int .i8 0)), (vi 0)]) rfl rfl (.storeH (off := 0) (cells' := [(.v (.int .i8 0)), (vi 0)]) H 0 rfl rfl rfl rfl rfl rfl rfl rfl rfl nofun ?_); intro σ H
  refine .assign (v := (vi 2)) rfl rfl ?_
  apply Ops.nil
  replace H := H.all
  apply Runs.ret
  subst h
  exact (Ends.H (xs := [(.agg [(.v (.int .i8 0)), (vi 0)]), (vi 2)]) (.inr rfl) H (.agg (cs := [(.v (.int .i8 0)), (vi 0)]) (off := 0) 0 rfl rfl rfl rfl rfl rfl rfl (.tmp (v := (vi 2)) rfl .nil)) (.two (.cons (.p rfl) (.cons (.c (.v _)) .nil))))
 ·replace h := cond_F hc1 h
  apply Runs.skip
  apply Runs.then
  refine .regionH 8 rfl H ?_; intro b4 σ H
  refine .fieldAddrH (off := 0) (fo := 1) H 1 rfl rfl rfl rfl rfl nofun rfl (.loadH (off := 1) (v := (vi a.N)) H 1 rfl rfl rfl rfl rfl nofun rfl (.call (ys := [(vi 0), (vi a.N)]) (r := (.tup [(vi (safe_Sub 0 a.N).1), (vi (safe_Sub 0 a.N).2)])) rfl (safe_Sub_fn rfl) rfl (.move (v := (.tup [(vi (safe_Sub 0 a.N).1), (vi (safe_Sub 0 a.N).2)])) rfl rfl ?_)))
  refine .extract (v := (vi (safe_Sub 0 a.N).1)) rfl rfl rfl (.extract (v := (vi (safe_Sub 0 a.N).2)) rfl rfl rfl (.assign (v := (vi (safe_Sub 0 a.N).1)) rfl rfl (.assign (v := (vi (safe_Sub 0 a.N).2)) rfl rfl ?_)))
  apply Ops.nil
  replace H := H.all
  apply Runs.then
  apply Runs.then
  refine .regionH 2 rfl H ?_; intro b5 σ H
  refine .move (v := (vi (safe_Sub 0 a.N).2)) rfl rfl (.int (m := (safe_Sub 0 a.N).2) (m' := 0) (r := .bool (((safe_Sub 0 a.N).2) != 0)) rfl rfl rfl rfl rfl ?_)
  apply Ops.nil
  replace H := H.all
  refine .whether (v := (((safe_Sub 0 a.N).2) != 0)) rfl ?_ ?_ <;> intro hc2
  ·replace h := cond_T hc2 h
   apply Runs.then
   refine .regionH 4 rfl H ?_; intro b6 σ H
   refine .buildA (cs := [(.v (.int .i8 0)), (vi 0)]) rfl rfl (.move (v := (vi (safe_Sub 0 a.N).2)) rfl rfl (.storeH (off := 0) (cells' := [(.v (.int .i8 0)), (vi 0)]) H 0 rfl rfl rfl rfl rfl rfl rfl rfl rfl nofun ?_)); intro σ H
   refine .assign (v := (vi (safe_Sub 0 a.N).2)) rfl rfl ?_
   apply Ops.nil
   replace H := H.all
   apply Runs.ret
   subst h
   exact (Ends.H (xs := [(.agg [(.v (.int .i8 0)), (vi 0)]), (vi (safe_Sub 0 a.N).2)]) (.inr rfl) H (.agg (cs := [(.v (.int .i8 0)), (vi 0)]) (off := 0) 0 rfl rfl rfl rfl rfl rfl rfl (.tmp (v := (vi (safe_Sub 0 a.N).2)) rfl .nil)) (.two (.cons (.p rfl) (.cons (.c (.v _)) .nil))))
  ·replace h := cond_F hc2 h
   apply Runs.skip
   apply Runs.then
   refine .regionH 7 rfl H ?_; intro b7 σ H
   refine .fieldAddrH (off := 0) (fo := 0) H 1 rfl rfl rfl rfl rfl nofun rfl (.loadH (off := 0) (v := (.v (.int .i8 a.Inf))) H 1 rfl rfl rfl rfl rfl nofun rfl (.neg (m := a.Inf) rfl rfl (.move (v := (vi (safe_Sub 0 a.N).1)) rfl rfl ?_)))
   refine .buildA (cs := [(.v (.int .i8 (IntKind.i8.wrap (0 - a.Inf)))), (vi (safe_Sub 0 a.N).1)]) rfl rfl (.storeH (off := 0) (cells' := [(.v (.int .i8 (IntKind.i8.wrap (0 - a.Inf)))), (vi (safe_Sub 0 a.N).1)]) H 0 rfl rfl rfl rfl rfl rfl rfl rfl rfl nofun ?_); intro σ H
   refine .assign (v := (vi 0)) rfl rfl ?_
   apply Ops.nil
   replace H := H.all
   apply Runs.ret
   subst h
   exact (Ends.H (xs := [(.agg [(.v (.int .i8 (IntKind.i8.wrap (0 - a.Inf)))), (vi (safe_Sub 0 a.N).1)]), (vi 0)]) (.inr rfl) H (.agg (cs := [(.v (.int .i8 (IntKind.i8.wrap (0 - a.Inf)))), (vi (safe_Sub 0 a.N).1)]) (off := 0) 0 rfl rfl rfl rfl rfl rfl rfl (.tmp (v := (vi 0)) rfl .nil)) (.two (.cons (.p rfl) (.cons (.c (.v _)) .nil))))

theorem carry_High_fn {f : Form} {n : Int} {r : Bound} (h : carry_High f n = some r) : Fn CX 18 [(.agg (vs (Form.cs f))), (vi n)] (.agg (vs (Bound.cs r))) := by
 refine Fn.ends Try.func18 rfl rfl rfl rfl rfl rfl ?_
 have H : Hs (⟨0, fun _ => .none⟩ : Heap) [] := Has.nil (Nat.le_refl _)
 generalize (⟨0, fun _ => .none⟩ : Heap) = σ at H ⊢
 unfold carry_High at h
 apply Runs.then
 refine .regionH 2 rfl H ?_; intro b1 σ H
 refine .boxH (cs := (vF f)) H (by omega) (by omega) rfl rfl rfl ?_; intro σ H
 refine .allocH (cs := [(.v (.int .i8 0)), (vi 0)]) H (by omega) (by omega) rfl rfl ?_; intro σ H
 apply Ops.nil
 replace H := H.all
 apply Runs.then
 refine .regionH 12 rfl H ?_; intro b2 σ H
 refine .loadHA (off := 0) (cs := (vF f)) H 1 rfl rfl rfl rfl rfl rfl rfl nofun rfl (.move (v := (vi n)) rfl rfl (.max2 rfl rfl rfl (.neg (m := (iMax n (-4611686018427387904))) rfl rfl ?_)))
 obtain ⟨x1, q1, h⟩ := bind_some h
 refine .call (ys := [(.agg (vF f)), (vi (w64 (0 - (iMax n (-4611686018427387904)))))]) (r := (.agg [(.v (.int .i8 x1.Inf)), (vi x1.N)])) rfl (carry_Low_fn q1) rfl (.call (ys := [(.agg [(.v (.int .i8 x1.Inf)), (vi x1.N)])]) (r := (.tup [(.agg [(.v (.int .i8 (safe_Minus x1).1.Inf)), (vi (safe_Minus x1).1.N)]), (vi (safe_Minus x1).2)])) rfl (safe_Minus_fn rfl) rfl (.move (v := (.tup [(.agg [(.v (.int .i8 (safe_Minus x1).1.Inf)), (vi (safe_Minus x1).1.N)]), (vi (safe_Minus x1).2)])) rfl rfl (.extract (v := (.agg [(.v (.int .i8 (safe_Minus x1).1.Inf)), (vi (safe_Minus x1).1.N)])) rfl rfl rfl ?_)))
 refine .extract (v := (vi (safe_Minus x1).2)) rfl rfl rfl (.allocH (cs := [(.v (.int .i8 0)), (vi 0)]) H (by omega) (by omega) rfl rfl ?_); intro σ H
 refine .storeH (off := 0) (cells' := [(.v (.int .i8 (safe_Minus x1).1.Inf)), (vi (safe_Minus x1).1.N)]) H 0 rfl rfl rfl rfl rfl rfl rfl rfl rfl nofun ?_; intro σ H
 refine .assign (v := (vi (safe_Minus x1).2)) rfl rfl ?_
 apply Ops.nil
 replace H := H.all
 apply Runs.then
 refine .regionH 2 rfl H ?_; intro b3 σ H
 refine .loadHA (off := 0) (cs := [(.v (.int .i8 (safe_Minus x1).1.Inf)), (vi (safe_Minus x1).1.N)]) H 0 rfl rfl rfl rfl rfl rfl rfl nofun rfl (.storeH (off := 0) (cells' := [(.v (.int .i8 (safe_Minus x1).1.Inf)), (vi (safe_Minus x1).1.N)]) H 1 rfl rfl rfl rfl rfl rfl rfl rfl rfl nofun ?_); intro σ H
 apply Ops.nil
 replace H := H.all
 apply Runs.ret
 replace h := Option.some.inj h; subst h
 exact (Ends.H (xs := [(.agg [(.v (.int .i8 (safe_Minus x1).1.Inf)), (vi (safe_Minus x1).1.N)])]) (.inr rfl) H (.agg (cs := [(.v (.int .i8 (safe_Minus x1).1.Inf)), (vi (safe_Minus x1).1.N)]) (off := 0) 1 rfl rfl rfl rfl rfl rfl rfl .nil) (.one (.p rfl)))

theorem carry_Ticks_fn {f : Form} {r' : Range} {r : Bound × Bound} (h : carry_Ticks f r' = some r) : Fn CX 16 [(.agg (vs (Form.cs f))), (.agg (vs (Range.cs r')))] (.tup [(.agg (vs (Bound.cs r.1))), (.agg (vs (Bound.cs r.2)))]) := by
 refine Fn.ends Try.func16 rfl rfl rfl rfl rfl rfl ?_
 have H : Hs (⟨0, fun _ => .none⟩ : Heap) [] := Has.nil (Nat.le_refl _)
 generalize (⟨0, fun _ => .none⟩ : Heap) = σ at H ⊢
 unfold carry_Ticks at h
 apply Runs.then
 refine .regionH 4 rfl H ?_; intro b1 σ H
 refine .boxH (cs := (vF f)) H (by omega) (by omega) rfl rfl rfl ?_; intro σ H
 refine .boxH (cs := [(vi r'.Low), (vi r'.High), (vb r'.HasLow), (vb r'.HasHigh)]) H (by omega) (by omega) rfl rfl rfl ?_; intro σ H
 refine .allocH (cs := [(.v (.int .i8 0)), (vi 0)]) H (by omega) (by omega) rfl rfl ?_; intro σ H
 refine .allocH (cs := [(.v (.int .i8 0)), (vi 0)]) H (by omega) (by omega) rfl rfl ?_; intro σ H
 apply Ops.nil
 replace H := H.all
 apply Runs.then
 refine .regionH 6 rfl H ?_; intro b2 σ H
 refine .buildA (cs := [(.v (.int .i8 (-1))), (vi 0)]) rfl rfl (.buildA (cs := [(.v (.int .i8 1)), (vi 0)]) rfl rfl (.allocH (cs := [(.v (.int .i8 0)), (vi 0)]) H (by omega) (by omega) rfl rfl ?_)); intro σ H
 refine .allocH (cs := [(.v (.int .i8 0)), (vi 0)]) H (by omega) (by omega) rfl rfl ?_; intro σ H
 refine .storeH (off := 0) (cells' := [(.v (.int .i8 (-1))), (vi 0)]) H 1 rfl rfl rfl rfl rfl rfl rfl rfl rfl nofun ?_; intro σ H
 refine .storeH (off := 0) (cells' := [(.v (.int .i8 1)), (vi 0)]) H 0 rfl rfl rfl rfl rfl rfl rfl rfl rfl nofun ?_; intro σ H
 apply Ops.nil
 replace H := H.all
 apply Runs.then
 obtain ⟨y1, hj1, h⟩ := bind_some h
 refine .mono (Q := fun x e σ => x = .normal ∧ EnvHas e [(2, (.ptr (b1 + 0) 4 0)), (3, (.ptr (b1 + 1) 4 0)), (4, (.ptr (b1 + 2) 2 0)), (5, (.ptr (b1 + 3) 2 0)), (6, (.ptr (b2 + 2) 2 0)), (7, (.ptr (b2 + 3) 2 0))] ∧ Hs σ [.blk (b2 + 3) 32 [(.v (.int .i8 1)), (vi 0)], .blk (b2 + 2) 32 [(.v (.int .i8 y1.1)), (vi y1.2)], .blk (b1 + 3) 32 [(.v (.int .i8 0)), (vi 0)], .blk (b1 + 2) 32 [(.v (.int .i8 0)), (vi 0)], .blk (b1 + 1) 27 [(vi r'.Low), (vi r'.High), (vb r'.HasLow), (vb r'.HasHigh)], .blk (b1 + 0) 25 (vF f)]) ?_ ?_
 ·replace h := hj1
  apply Runs.then
  refine .regionH 2 rfl H ?_; intro b3 σ H
  refine .fieldAddrH (off := 0) (fo := 2) H 4 rfl rfl rfl rfl rfl nofun rfl (.loadH (off := 2) (v := (vb r'.HasLow)) H 4 rfl rfl rfl rfl rfl nofun rfl ?_)
  apply Ops.nil
  replace H := H.all
  refine .whether (v := r'.HasLow) rfl ?_ ?_ <;> intro hc1
  ·replace h := cond_T hc1 h
   refine .regionH 5 rfl H ?_; intro b4 σ H
   refine .loadHA (off := 0) (cs := (vF f)) H 5 rfl rfl rfl rfl rfl rfl rfl nofun rfl (.fieldAddrH (off := 0) (fo := 0) H 4 rfl rfl rfl rfl rfl nofun rfl (.loadH (off := 0) (v := (vi r'.Low)) H 4 rfl rfl rfl rfl rfl nofun rfl ?_))
   obtain ⟨x1, q1, h⟩ := bind_some h
   refine .call (ys := [(.agg (vF f)), (vi r'.Low)]) (r := (.agg [(.v (.int .i8 x1.Inf)), (vi x1.N)])) rfl (carry_Low_fn q1) rfl (.storeH (off := 0) (cells' := [(.v (.int .i8 x1.Inf)), (vi x1.N)]) H 1 rfl rfl rfl rfl rfl rfl rfl rfl rfl nofun ?_); intro σ H
   apply Ops.nil
   replace H := H.all
   replace h := Option.some.inj h; subst h
   exact ⟨rfl, ⟨rfl, rfl, rfl, rfl, rfl, rfl, trivial⟩, H⟩
  ·replace h := cond_F hc1 h
   apply Runs.skip
   replace h := Option.some.inj h; subst h
   exact ⟨rfl, ⟨rfl, rfl, rfl, rfl, rfl, rfl, trivial⟩, H⟩
 ·rintro x e σ ⟨rfl, he, H⟩
  obtain ⟨e, rfl⟩ := he.ex
  apply Runs.then
  obtain ⟨y2, hj2, h⟩ := bind_some h
  refine .mono (Q := fun x e σ => x = .normal ∧ EnvHas e [(4, (.ptr (b1 + 2) 2 0)), (5, (.ptr (b1 + 3) 2 0)), (6, (.ptr (b2 + 2) 2 0)), (7, (.ptr (b2 + 3) 2 0))] ∧ Hs σ [.blk (b2 + 3) 32 [(.v (.int .i8 y2.1)), (vi y2.2)], .blk (b2 + 2) 32 [(.v (.int .i8 y1.1)), (vi y1.2)], .blk (b1 + 3) 32 [(.v (.int .i8 0)), (vi 0)], .blk (b1 + 2) 32 [(.v (.int .i8 0)), (vi 0)]]) ?_ ?_
  ·replace h := hj2
   apply Runs.then
   refine .regionH 2 rfl H ?_; intro b5 σ H
   refine .fieldAddrH (off := 0) (fo := 3) H 4 rfl rfl rfl rfl rfl nofun rfl (.loadH (off := 3) (v := (vb r'.HasHigh)) H 4 rfl rfl rfl rfl rfl nofun rfl ?_)
   apply Ops.nil
   replace H := H.all
   refine .whether (v := r'.HasHigh) rfl ?_ ?_ <;> intro hc2
   ·replace h := cond_T hc2 h
    refine .regionH 5 rfl H ?_; intro b6 σ H
    refine .loadHA (off := 0) (cs := (vF f)) H 5 rfl rfl rfl rfl rfl rfl rfl nofun rfl (.fieldAddrH (off := 0) (fo := 1) H 4 rfl rfl rfl rfl rfl nofun rfl (.loadH (off := 1) (v := (vi r'.High)) H 4 rfl rfl rfl rfl rfl nofun rfl ?_))
    obtain ⟨x2, q2, h⟩ := bind_some h
    refine .call (ys := [(.agg (vF f)), (vi r'.High)]) (r := (.agg [(.v (.int .i8 x2.Inf)), (vi x2.N)])) rfl (carry_High_fn q2) rfl (.storeH (off := 0) (cells' := [(.v (.int .i8 x2.Inf)), (vi x2.N)]) H 0 rfl rfl rfl rfl rfl rfl rfl rfl rfl nofun ?_); intro σ H
    apply Ops.nil
    replace H := H.all
    replace h := Option.some.inj h; subst h
    exact ⟨rfl, ⟨rfl, rfl, rfl, rfl, trivial⟩, ((H.erase 5).erase 4)⟩
   ·replace h := cond_F hc2 h
    apply Runs.skip
    replace h := Option.some.inj h; subst h
    exact ⟨rfl, ⟨rfl, rfl, rfl, rfl, trivial⟩, ((H.erase 5).erase 4)⟩
  ·rintro x e σ ⟨rfl, he, H⟩
   obtain ⟨e, rfl⟩ := he.ex
   apply Runs.then
   refine .drawnH 4 rfl (by kernel_rfl) H ?_; intro b7 σ H B7
   refine .loadHA (off := 0) (cs := [(.v (.int .i8 y1.1)), (vi y1.2)]) H 1 rfl rfl rfl rfl rfl rfl rfl (fun _ => .inl ⟨B7 1 _ rfl _ rfl, nofun⟩) rfl (.loadHA (off := 0) (cs := [(.v (.int .i8 y2.1)), (vi y2.2)]) H 0 rfl rfl rfl rfl rfl rfl rfl (fun _ => .inl ⟨B7 0 _ rfl _ rfl, nofun⟩) rfl (.storeH (off := 0) (cells' := [(.v (.int .i8 y1.1)), (vi y1.2)]) H 3 rfl rfl rfl rfl rfl rfl rfl rfl rfl (fun _ => .inl ⟨B7 3 _ rfl _ rfl, (fresh_else [1] (by kernel_rfl) (.cons rfl rfl (ne_one (H.ne (j := 3) (k := 0) rfl rfl rfl rfl rfl)) .nil))⟩) ?_)); intro σ H
   refine .storeH (off := 0) (cells' := [(.v (.int .i8 y2.1)), (vi y2.2)]) H 2 rfl rfl rfl rfl rfl rfl rfl rfl rfl (fun _ => .inl ⟨B7 2 _ rfl _ rfl, (fresh_static (by kernel_rfl))⟩) ?_; intro σ H
   apply Ops.nil
   replace H := H.all
   apply Runs.ret
   replace h := Option.some.inj h; subst h
   exact (Ends.H (xs := [(.agg [(.v (.int .i8 y1.1)), (vi y1.2)]), (.agg [(.v (.int .i8 y2.1)), (vi y2.2)])]) (.inr rfl) H (.agg (cs := [(.v (.int .i8 y1.1)), (vi y1.2)]) (off := 0) 3 rfl rfl rfl rfl rfl rfl rfl (.agg (cs := [(.v (.int .i8 y2.1)), (vi y2.2)]) (off := 0) 2 rfl rfl rfl rfl rfl rfl rfl .nil)) (.two (.cons (.p rfl) (.cons (.p rfl) .nil))))

theorem epactlaw25_number_fn {n : Int} {r : Bound} (h : epactlaw25_number n = r) : Fn CX 42 [(vi n)] (.agg (vs (Bound.cs r))) := by
 refine Fn.ends Try.func42 rfl rfl rfl rfl rfl rfl ?_
 have H : Hs (⟨0, fun _ => .none⟩ : Heap) [] := Has.nil (Nat.le_refl _)
 generalize (⟨0, fun _ => .none⟩ : Heap) = σ at H ⊢
 unfold epactlaw25_number at h
 apply Runs.then
 refine .regionH 1 rfl H ?_; intro b1 σ H
 refine .allocH (cs := [(.v (.int .i8 0)), (vi 0)]) H (by omega) (by omega) rfl rfl ?_; intro σ H
 apply Ops.nil
 replace H := H.all
 apply Runs.then
 refine .regionH 3 rfl H ?_; intro b2 σ H
 refine .move (v := (vi n)) rfl rfl (.buildA (cs := [(.v (.int .i8 0)), (vi n)]) rfl rfl (.storeH (off := 0) (cells' := [(.v (.int .i8 0)), (vi n)]) H 0 rfl rfl rfl rfl rfl rfl rfl rfl rfl nofun ?_)); intro σ H
 apply Ops.nil
 replace H := H.all
 apply Runs.ret
 subst h
 exact (Ends.H (xs := [(.agg [(.v (.int .i8 0)), (vi n)])]) (.inr rfl) H (.agg (cs := [(.v (.int .i8 0)), (vi n)]) (off := 0) 0 rfl rfl rfl rfl rfl rfl rfl .nil) (.one (.p rfl)))

theorem epactlaw25_scope_fn {low : Int} {high : Int} {r : Range} (h : epactlaw25_scope low high = r) : Fn CX 28 [(vi low), (vi high)] (.agg (vs (Range.cs r))) := by
 refine Fn.ends Try.func28 rfl rfl rfl rfl rfl rfl ?_
 have H : Hs (⟨0, fun _ => .none⟩ : Heap) [] := Has.nil (Nat.le_refl _)
 generalize (⟨0, fun _ => .none⟩ : Heap) = σ at H ⊢
 unfold epactlaw25_scope at h
 apply Runs.then
 refine .regionH 1 rfl H ?_; intro b1 σ H
 refine .allocH (cs := [(vi 0), (vi 0), (vb false), (vb false)]) H (by omega) (by omega) rfl rfl ?_; intro σ H
 apply Ops.nil
 replace H := H.all
 apply Runs.then
 refine .regionH 4 rfl H ?_; intro b2 σ H
 refine .move (v := (vi low)) rfl rfl (.move (v := (vi high)) rfl rfl (.buildA (cs := [(vi low), (vi high), (vb true), (vb true)]) rfl rfl (.storeH (off := 0) (cells' := [(vi low), (vi high), (vb true), (vb true)]) H 0 rfl rfl rfl rfl rfl rfl rfl rfl rfl nofun ?_))); intro σ H
 apply Ops.nil
 replace H := H.all
 apply Runs.ret
 subst h
 exact (Ends.H (xs := [(.agg [(vi low), (vi high), (vb true), (vb true)])]) (.inr rfl) H (.agg (cs := [(vi low), (vi high), (vb true), (vb true)]) (off := 0) 0 rfl rfl rfl rfl rfl rfl rfl .nil) (.one (.p rfl)))

theorem size_Up_fn {f : Form} {d : Int} {r : Int × Bool × Int} (h : size_Up f d = some r) : Fn CX 36 [(.agg (vs (Form.cs f))), (vi d)] (.tup [(vi r.1), (vb r.2.1), (vi r.2.2)]) := by
 refine Fn.ends Try.func36 rfl rfl rfl rfl rfl rfl ?_
 have H : Hs (⟨0, fun _ => .none⟩ : Heap) [] := Has.nil (Nat.le_refl _)
 generalize (⟨0, fun _ => .none⟩ : Heap) = σ at H ⊢
 unfold size_Up at h
 apply Runs.then
 refine .regionH 4 rfl H ?_; intro b1 σ H
 refine .boxH (cs := (vF f)) H (by omega) (by omega) rfl rfl rfl ?_; intro σ H
 refine .assign (v := (vi 0)) rfl rfl (.assign (v := (vb false)) rfl rfl (.assign (v := (vi 0)) rfl rfl ?_))
 apply Ops.nil
 replace H := H.all
 apply Runs.then
 refine .regionH 9 rfl H ?_; intro b2 σ H
 refine .loadHA (off := 0) (cs := (vF f)) H 0 rfl rfl rfl rfl rfl rfl rfl nofun rfl (.move (v := (vi d)) rfl rfl ?_)
 obtain ⟨x1, q1, h⟩ := bind_some h
 refine .call (ys := [(.agg (vF f)), (vi d), (vb true)]) (r := (.tup [(vi x1.1), (vb x1.2.1), (vi x1.2.2)])) rfl (size_far_fn q1) rfl (.extract (v := (vi x1.1)) rfl rfl rfl (.extract (v := (vb x1.2.1)) rfl rfl rfl (.extract (v := (vi x1.2.2)) rfl rfl rfl ?_)))
 refine .assign (v := (vi x1.1)) rfl rfl (.assign (v := (vb x1.2.1)) rfl rfl (.assign (v := (vi x1.2.2)) rfl rfl ?_))
 apply Ops.nil
 replace H := H.all
 apply Runs.ret
 replace h := Option.some.inj h; subst h
 exact (Ends.H (xs := [(vi x1.1), (vb x1.2.1), (vi x1.2.2)]) (.inr rfl) H (.tmp (v := (vi x1.1)) rfl (.tmp (v := (vb x1.2.1)) rfl (.tmp (v := (vi x1.2.2)) rfl .nil))) (.two (.cons (.c (.v _)) (.cons (.c (.v _)) (.cons (.c (.v _)) .nil)))))

theorem carry_Range_fn {f : Form} {low : Bound} {high : Bound} {r : Range × Bool × Int} (h : carry_Range f low high = some r) : Fn CX 22 [(.agg (vs (Form.cs f))), (.agg (vs (Bound.cs low))), (.agg (vs (Bound.cs high)))] (.tup [(.agg (vs (Range.cs r.1))), (vb r.2.1), (vi r.2.2)]) := by
 refine Fn.ends Try.func22 rfl rfl rfl rfl rfl rfl ?_
 have H : Hs (⟨0, fun _ => .none⟩ : Heap) [] := Has.nil (Nat.le_refl _)
 generalize (⟨0, fun _ => .none⟩ : Heap) = σ at H ⊢
 unfold carry_Range at h
 apply Runs.then
 refine .regionH 6 rfl H ?_; intro b1 σ H
 refine .boxH (cs := (vF f)) H (by omega) (by omega) rfl rfl rfl ?_; intro σ H
 refine .boxH (cs := [(.v (.int .i8 low.Inf)), (vi low.N)]) H (by omega) (by omega) rfl rfl rfl ?_; intro σ H
 refine .boxH (cs := [(.v (.int .i8 high.Inf)), (vi high.N)]) H (by omega) (by omega) rfl rfl rfl ?_; intro σ H
 refine .allocH (cs := [(vi 0), (vi 0), (vb false), (vb false)]) H (by omega) (by omega) rfl rfl ?_; intro σ H
 refine .assign (v := (vb false)) rfl rfl (.assign (v := (vi 0)) rfl rfl ?_)
 apply Ops.nil
 replace H := H.all
 apply Runs.then
 apply Runs.then
 refine .regionH 18 rfl H ?_; intro b2 σ H
 refine .loadHA (off := 0) (cs := [(.v (.int .i8 low.Inf)), (vi low.N)]) H 2 rfl rfl rfl rfl rfl rfl rfl nofun rfl (.call (ys := [(.agg [(.v (.int .i8 low.Inf)), (vi low.N)])]) (r := (vb (safe_Right low))) rfl (safe_Right_fn rfl) rfl (.not (b := (safe_Right low)) rfl rfl (.move (v := (vb (!(safe_Right low)))) rfl rfl ?_)))
 refine .mid 4 (K1 := fun e σ => EnvHas e [(23, (vb ((!(safe_Right low)) || (!(safe_Right high))))), (3, (.ptr (b1 + 0) 4 0)), (4, (.ptr (b1 + 1) 2 0)), (5, (.ptr (b1 + 2) 2 0)), (6, (.ptr (b1 + 3) 4 0))] ∧ Has σ (b2 + 8) (b2 + 18) [.blk (b1 + 3) 27 [(vi 0), (vi 0), (vb false), (vb false)], .blk (b1 + 2) 32 [(.v (.int .i8 high.Inf)), (vi high.N)], .blk (b1 + 1) 32 [(.v (.int .i8 low.Inf)), (vi low.N)], .blk (b1 + 0) 25 (vF f)]) rfl ?_ ?_
 ·refine .split rfl rfl ?_ ?_ <;> intro hc1
  ·skip
   refine .pass rfl rfl rfl (.pass rfl rfl rfl (.pass rfl rfl rfl (.pickT (v := (vb true)) rfl rfl rfl ?_)))
   apply Ops.nil
   exact ⟨⟨or_T hc1, rfl, rfl, rfl, rfl, trivial⟩, H.weak (by omega) (Nat.le_refl _)⟩
  ·skip
   refine .wanted rfl rfl (.loadHA (off := 0) (cs := [(.v (.int .i8 high.Inf)), (vi high.N)]) H 1 rfl rfl rfl rfl rfl rfl rfl nofun rfl (.wanted rfl rfl (.call (ys := [(.agg [(.v (.int .i8 high.Inf)), (vi high.N)])]) (r := (vb (safe_Right high))) rfl (safe_Right_fn rfl) rfl ?_)))
   refine .wanted rfl rfl (.not (b := (safe_Right high)) rfl rfl (.pickF (v := (vb (!(safe_Right high)))) rfl rfl rfl ?_))
   apply Ops.nil
   exact ⟨⟨or_F hc1, rfl, rfl, rfl, rfl, trivial⟩, H.weak (by omega) (Nat.le_refl _)⟩
 ·rintro e σ ⟨he, H⟩
  obtain ⟨e, rfl⟩ := he.ex
  refine .move (v := (vb ((!(safe_Right low)) || (!(safe_Right high))))) rfl rfl ?_
  refine .mid 4 (K1 := fun e σ => EnvHas e [(28, (vb (((!(safe_Right low)) || (!(safe_Right high))) || (low.Inf == 1)))), (3, (.ptr (b1 + 0) 4 0)), (4, (.ptr (b1 + 1) 2 0)), (5, (.ptr (b1 + 2) 2 0)), (6, (.ptr (b1 + 3) 4 0))] ∧ Has σ (b2 + 13) (b2 + 18) [.blk (b1 + 3) 27 [(vi 0), (vi 0), (vb false), (vb false)], .blk (b1 + 2) 32 [(.v (.int .i8 high.Inf)), (vi high.N)], .blk (b1 + 1) 32 [(.v (.int .i8 low.Inf)), (vi low.N)], .blk (b1 + 0) 25 (vF f)]) rfl ?_ ?_
  ·refine .split rfl rfl ?_ ?_ <;> intro hc2
   ·skip
    refine .pass rfl rfl rfl (.pass rfl rfl rfl (.pass rfl rfl rfl (.pickT (v := (vb true)) rfl rfl rfl ?_)))
    apply Ops.nil
    exact ⟨⟨or_T hc2, rfl, rfl, rfl, rfl, trivial⟩, H.weak (by omega) (Nat.le_refl _)⟩
   ·skip
    refine .wanted rfl rfl (.fieldAddrH (off := 0) (fo := 0) H 2 rfl rfl rfl rfl rfl nofun rfl (.wanted rfl rfl (.loadH (off := 0) (v := (.v (.int .i8 low.Inf))) H 2 rfl rfl rfl rfl rfl nofun rfl ?_)))
    refine .wanted rfl rfl (.int (m := low.Inf) (m' := 1) (r := .bool (low.Inf == 1)) rfl rfl rfl rfl rfl (.pickF (v := (vb (low.Inf == 1))) rfl rfl rfl ?_))
    apply Ops.nil
    exact ⟨⟨or_F hc2, rfl, rfl, rfl, rfl, trivial⟩, H.weak (by omega) (Nat.le_refl _)⟩
  ·rintro e σ ⟨he, H⟩
   obtain ⟨e, rfl⟩ := he.ex
   refine .move (v := (vb (((!(safe_Right low)) || (!(safe_Right high))) || (low.Inf == 1)))) rfl rfl ?_
   refine .mid 4 (K1 := fun e σ => EnvHas e [(33, (vb ((((!(safe_Right low)) || (!(safe_Right high))) || (low.Inf == 1)) || (high.Inf == (-1))))), (3, (.ptr (b1 + 0) 4 0)), (4, (.ptr (b1 + 1) 2 0)), (5, (.ptr (b1 + 2) 2 0)), (6, (.ptr (b1 + 3) 4 0))] ∧ Has σ (b2 + 18) (b2 + 18) [.blk (b1 + 3) 27 [(vi 0), (vi 0), (vb false), (vb false)], .blk (b1 + 2) 32 [(.v (.int .i8 high.Inf)), (vi high.N)], .blk (b1 + 1) 32 [(.v (.int .i8 low.Inf)), (vi low.N)], .blk (b1 + 0) 25 (vF f)]) rfl ?_ ?_
   ·refine .split rfl rfl ?_ ?_ <;> intro hc3
    ·skip
     refine .pass rfl rfl rfl (.pass rfl rfl rfl (.pass rfl rfl rfl (.pickT (v := (vb true)) rfl rfl rfl ?_)))
     apply Ops.nil
     exact ⟨⟨or_T hc3, rfl, rfl, rfl, rfl, trivial⟩, H.weak (by omega) (Nat.le_refl _)⟩
    ·skip
     refine .wanted rfl rfl (.fieldAddrH (off := 0) (fo := 0) H 1 rfl rfl rfl rfl rfl nofun rfl (.wanted rfl rfl (.loadH (off := 0) (v := (.v (.int .i8 high.Inf))) H 1 rfl rfl rfl rfl rfl nofun rfl ?_)))
     refine .wanted rfl rfl (.int (m := high.Inf) (m' := (-1)) (r := .bool (high.Inf == (-1))) rfl rfl rfl rfl rfl (.pickF (v := (vb (high.Inf == (-1)))) rfl rfl rfl ?_))
     apply Ops.nil
     exact ⟨⟨or_F hc3, rfl, rfl, rfl, rfl, trivial⟩, H.weak (by omega) (Nat.le_refl _)⟩
   ·rintro e σ ⟨he, H⟩
    obtain ⟨e, rfl⟩ := he.ex
    apply Ops.nil
    replace H := H.all
    refine .whether (v := ((((!(safe_Right low)) || (!(safe_Right high))) || (low.Inf == 1)) || (high.Inf == (-1)))) rfl ?_ ?_ <;> intro hc4
    ·replace h := cond_T hc4 h
     apply Runs.then
     refine .regionH 4 rfl H ?_; intro b3 σ H
     refine .buildA (cs := [(vi 0), (vi 0), (vb false), (vb false)]) rfl rfl (.storeH (off := 0) (cells' := [(vi 0), (vi 0), (vb false), (vb false)]) H 0 rfl rfl rfl rfl rfl rfl rfl rfl rfl nofun ?_); intro σ H
     refine .assign (v := (vb false)) rfl rfl (.assign (v := (vi 2)) rfl rfl ?_)
     apply Ops.nil
     replace H := H.all
     apply Runs.ret
     replace h := Option.some.inj h; subst h
     exact (Ends.H (xs := [(.agg [(vi 0), (vi 0), (vb false), (vb false)]), (vb false), (vi 2)]) (.inr rfl) H (.agg (cs := [(vi 0), (vi 0), (vb false), (vb false)]) (off := 0) 0 rfl rfl rfl rfl rfl rfl rfl (.tmp (v := (vb false)) rfl (.tmp (v := (vi 2)) rfl .nil))) (.two (.cons (.p rfl) (.cons (.c (.v _)) (.cons (.c (.v _)) .nil)))))
    ·replace h := cond_F hc4 h
     apply Runs.skip
     apply Runs.then
     refine .regionH 1 rfl H ?_; intro b4 σ H
     refine .allocH (cs := [(vi 0), (vi 0), (vb false), (vb false)]) H (by omega) (by omega) rfl rfl ?_; intro σ H
     apply Ops.nil
     replace H := H.all
     apply Runs.then
     obtain ⟨y1, hj1, h⟩ := bind_some h
     refine .mono (Q := fun x e σ => (∃ a1, y1 = (.go a1) ∧ x = .normal ∧ EnvHas e [(3, (.ptr (b1 + 0) 4 0)), (4, (.ptr (b1 + 1) 2 0)), (6, (.ptr (b1 + 3) 4 0)), (9, (.ptr (b4 + 0) 4 0))] ∧ Hs σ [.blk (b4 + 0) 27 [(vi 0), (vi a1.1), (vb false), (vb a1.2)], .blk (b1 + 3) 27 [(vi 0), (vi 0), (vb false), (vb false)], .blk (b1 + 1) 32 [(.v (.int .i8 low.Inf)), (vi low.N)], .blk (b1 + 0) 25 (vF f)]) ∨ (∃ r', y1 = (.ret r') ∧ x = .ret ∧ Ends CX Try.f22.results.toList (.tup [(.agg (vs (Range.cs r'.1))), (vb r'.2.1), (vi r'.2.2)]) x e σ)) ?_ ?_
     ·replace h := hj1
      apply Runs.then
      refine .regionH 8 rfl H ?_; intro b5 σ H
      refine .fieldAddrH (off := 0) (fo := 0) H 2 rfl rfl rfl rfl rfl nofun rfl (.loadH (off := 0) (v := (.v (.int .i8 high.Inf))) H 2 rfl rfl rfl rfl rfl nofun rfl (.int (m := high.Inf) (m' := 0) (r := .bool (high.Inf == 0)) rfl rfl rfl rfl rfl (.move (v := (vb (high.Inf == 0))) rfl rfl ?_)))
      refine .mid 4 (K1 := fun e σ => EnvHas e [(42, (vb ((high.Inf == 0) && (decide (high.N ≤ 1099511627776))))), (3, (.ptr (b1 + 0) 4 0)), (4, (.ptr (b1 + 1) 2 0)), (5, (.ptr (b1 + 2) 2 0)), (6, (.ptr (b1 + 3) 4 0)), (9, (.ptr (b4 + 0) 4 0))] ∧ Has σ (b5 + 8) (b5 + 8) [.blk (b4 + 0) 27 [(vi 0), (vi 0), (vb false), (vb false)], .blk (b1 + 3) 27 [(vi 0), (vi 0), (vb false), (vb false)], .blk (b1 + 2) 32 [(.v (.int .i8 high.Inf)), (vi high.N)], .blk (b1 + 1) 32 [(.v (.int .i8 low.Inf)), (vi low.N)], .blk (b1 + 0) 25 (vF f)]) rfl ?_ ?_
      ·refine .split rfl rfl ?_ ?_ <;> intro hc5
       ·skip
        refine .wanted rfl rfl (.fieldAddrH (off := 0) (fo := 1) H 2 rfl rfl rfl rfl rfl nofun rfl (.wanted rfl rfl (.loadH (off := 1) (v := (vi high.N)) H 2 rfl rfl rfl rfl rfl nofun rfl ?_)))
        refine .wanted rfl rfl (.int (m := high.N) (m' := 1099511627776) (r := .bool (decide (high.N ≤ 1099511627776))) rfl rfl rfl rfl rfl (.pickT (v := (vb (decide (high.N ≤ 1099511627776)))) rfl rfl rfl ?_))
        apply Ops.nil
        exact ⟨⟨and_T hc5, rfl, rfl, rfl, rfl, rfl, trivial⟩, H.weak (by omega) (Nat.le_refl _)⟩
       ·skip
        refine .pass rfl rfl rfl (.pass rfl rfl rfl (.pass rfl rfl rfl (.pickF (v := (vb false)) rfl rfl rfl ?_)))
        apply Ops.nil
        exact ⟨⟨and_F hc5, rfl, rfl, rfl, rfl, rfl, trivial⟩, H.weak (by omega) (Nat.le_refl _)⟩
      ·rintro e σ ⟨he, H⟩
       obtain ⟨e, rfl⟩ := he.ex
       apply Ops.nil
       replace H := H.all
       refine .whether (v := ((high.Inf == 0) && (decide (high.N ≤ 1099511627776)))) rfl ?_ ?_ <;> intro hc6
       ·replace h := cond_T hc6 h
        apply Runs.then
        refine .regionH 12 rfl H ?_; intro b6 σ H
        refine .loadHA (off := 0) (cs := (vF f)) H 4 rfl rfl rfl rfl rfl rfl rfl nofun rfl (.fieldAddrH (off := 0) (fo := 1) H 2 rfl rfl rfl rfl rfl nofun rfl (.loadH (off := 1) (v := (vi high.N)) H 2 rfl rfl rfl rfl rfl nofun rfl (.max2 rfl rfl rfl ?_)))
        obtain ⟨x1, q1, h⟩ := bind_some h
        refine .call (ys := [(.agg (vF f)), (vi (iMax high.N (-1099511627776)))]) (r := (.tup [(vi x1.1), (vb x1.2.1), (vi x1.2.2)])) rfl (size_Down_fn q1) rfl (.move (v := (.tup [(vi x1.1), (vb x1.2.1), (vi x1.2.2)])) rfl rfl (.extract (v := (vi x1.1)) rfl rfl rfl (.extract (v := (vb x1.2.1)) rfl rfl rfl ?_)))
        refine .extract (v := (vi x1.2.2)) rfl rfl rfl (.assign (v := (vi x1.1)) rfl rfl (.assign (v := (vb x1.2.1)) rfl rfl (.assign (v := (vi x1.2.2)) rfl rfl ?_)))
        apply Ops.nil
        replace H := H.all
        apply Runs.then
        apply Runs.then
        refine .regionH 2 rfl H ?_; intro b7 σ H
        refine .move (v := (vb x1.2.1)) rfl rfl (.not (b := x1.2.1) rfl rfl ?_)
        apply Ops.nil
        replace H := H.all
        refine .whether (v := (!x1.2.1)) rfl ?_ ?_ <;> intro hc7
        ·replace h := cond_T hc7 h
         apply Runs.then
         refine .regionH 4 rfl H ?_; intro b8 σ H
         refine .buildA (cs := [(vi 0), (vi 0), (vb false), (vb false)]) rfl rfl (.storeH (off := 0) (cells' := [(vi 0), (vi 0), (vb false), (vb false)]) H 1 rfl rfl rfl rfl rfl rfl rfl rfl rfl nofun ?_); intro σ H
         refine .assign (v := (vb false)) rfl rfl (.assign (v := (vi 0)) rfl rfl ?_)
         apply Ops.nil
         replace H := H.all
         apply Runs.ret
         replace h := Option.some.inj h; subst h
         exact (.inr ⟨_, rfl, rfl, (Ends.H (xs := [(.agg [(vi 0), (vi 0), (vb false), (vb false)]), (vb false), (vi 0)]) (.inr rfl) H (.agg (cs := [(vi 0), (vi 0), (vb false), (vb false)]) (off := 0) 1 rfl rfl rfl rfl rfl rfl rfl (.tmp (v := (vb false)) rfl (.tmp (v := (vi 0)) rfl .nil))) (.two (.cons (.p rfl) (.cons (.c (.v _)) (.cons (.c (.v _)) .nil)))))⟩)
        ·replace h := cond_F hc7 h
         apply Runs.skip
         refine .regionH 5 rfl H ?_; intro b9 σ H
         refine .move (v := (vi x1.1)) rfl rfl (.fieldAddrH (off := 0) (fo := 1) H 0 rfl rfl rfl rfl rfl nofun rfl (.storeH (off := 1) (cells' := [(vi 0), (vi x1.1), (vb false), (vb false)]) H 0 rfl rfl rfl rfl rfl rfl rfl rfl rfl nofun ?_)); intro σ H
         refine .fieldAddrH (off := 0) (fo := 3) H 0 rfl rfl rfl rfl rfl nofun rfl (.storeH (off := 3) (cells' := [(vi 0), (vi x1.1), (vb false), (vb true)]) H 0 rfl rfl rfl rfl rfl rfl rfl rfl rfl nofun ?_); intro σ H
         apply Ops.nil
         replace H := H.all
         replace h := Option.some.inj h; subst h
         exact (.inl ⟨_, rfl, rfl, ⟨rfl, rfl, rfl, rfl, trivial⟩, (H.erase 2)⟩)
       ·replace h := cond_F hc6 h
        apply Runs.skip
        replace h := Option.some.inj h; subst h
        exact (.inl ⟨_, rfl, rfl, ⟨rfl, rfl, rfl, rfl, trivial⟩, (H.erase 2)⟩)
     ·rintro x e σ (⟨a2, rfl, rfl, he, H⟩ | ⟨r', rfl, rfl, hE⟩)
      ·skip
       replace h := jgo h
       obtain ⟨e, rfl⟩ := he.ex
       apply Runs.then
       obtain ⟨y2, hj2, h⟩ := bind_some h
       refine .mono (Q := fun x e σ => (∃ a3, y2 = (.go a3) ∧ x = .normal ∧ EnvHas e [(6, (.ptr (b1 + 3) 4 0)), (9, (.ptr (b4 + 0) 4 0))] ∧ Hs σ [.blk (b4 + 0) 27 [(vi a3.1), (vi a2.1), (vb a3.2), (vb a2.2)], .blk (b1 + 3) 27 [(vi 0), (vi 0), (vb false), (vb false)]]) ∨ (∃ r', y2 = (.ret r') ∧ x = .ret ∧ Ends CX Try.f22.results.toList (.tup [(.agg (vs (Range.cs r'.1))), (vb r'.2.1), (vi r'.2.2)]) x e σ)) ?_ ?_
       ·replace h := hj2
        apply Runs.then
        refine .regionH 8 rfl H ?_; intro b10 σ H
        refine .fieldAddrH (off := 0) (fo := 0) H 2 rfl rfl rfl rfl rfl nofun rfl (.loadH (off := 0) (v := (.v (.int .i8 low.Inf))) H 2 rfl rfl rfl rfl rfl nofun rfl (.int (m := low.Inf) (m' := 0) (r := .bool (low.Inf == 0)) rfl rfl rfl rfl rfl (.move (v := (vb (low.Inf == 0))) rfl rfl ?_)))
        refine .mid 4 (K1 := fun e σ => EnvHas e [(65, (vb ((low.Inf == 0) && (decide (low.N ≥ (-1099511627776)))))), (3, (.ptr (b1 + 0) 4 0)), (4, (.ptr (b1 + 1) 2 0)), (6, (.ptr (b1 + 3) 4 0)), (9, (.ptr (b4 + 0) 4 0))] ∧ Has σ (b10 + 8) (b10 + 8) [.blk (b4 + 0) 27 [(vi 0), (vi a2.1), (vb false), (vb a2.2)], .blk (b1 + 3) 27 [(vi 0), (vi 0), (vb false), (vb false)], .blk (b1 + 1) 32 [(.v (.int .i8 low.Inf)), (vi low.N)], .blk (b1 + 0) 25 (vF f)]) rfl ?_ ?_
        ·refine .split rfl rfl ?_ ?_ <;> intro hc8
         ·skip
          refine .wanted rfl rfl (.fieldAddrH (off := 0) (fo := 1) H 2 rfl rfl rfl rfl rfl nofun rfl (.wanted rfl rfl (.loadH (off := 1) (v := (vi low.N)) H 2 rfl rfl rfl rfl rfl nofun rfl ?_)))
          refine .wanted rfl rfl (.int (m := low.N) (m' := (-1099511627776)) (r := .bool (decide (low.N ≥ (-1099511627776)))) rfl rfl rfl rfl rfl (.pickT (v := (vb (decide (low.N ≥ (-1099511627776))))) rfl rfl rfl ?_))
          apply Ops.nil
          exact ⟨⟨and_T hc8, rfl, rfl, rfl, rfl, trivial⟩, H.weak (by omega) (Nat.le_refl _)⟩
         ·skip
          refine .pass rfl rfl rfl (.pass rfl rfl rfl (.pass rfl rfl rfl (.pickF (v := (vb false)) rfl rfl rfl ?_)))
          apply Ops.nil
          exact ⟨⟨and_F hc8, rfl, rfl, rfl, rfl, trivial⟩, H.weak (by omega) (Nat.le_refl _)⟩
        ·rintro e σ ⟨he, H⟩
         obtain ⟨e, rfl⟩ := he.ex
         apply Ops.nil
         replace H := H.all
         refine .whether (v := ((low.Inf == 0) && (decide (low.N ≥ (-1099511627776))))) rfl ?_ ?_ <;> intro hc9
         ·replace h := cond_T hc9 h
          apply Runs.then
          refine .regionH 12 rfl H ?_; intro b11 σ H
          refine .loadHA (off := 0) (cs := (vF f)) H 3 rfl rfl rfl rfl rfl rfl rfl nofun rfl (.fieldAddrH (off := 0) (fo := 1) H 2 rfl rfl rfl rfl rfl nofun rfl (.loadH (off := 1) (v := (vi low.N)) H 2 rfl rfl rfl rfl rfl nofun rfl (.min2 rfl rfl rfl ?_)))
          obtain ⟨x2, q2, h⟩ := bind_some h
          refine .call (ys := [(.agg (vF f)), (vi (iMin low.N 1099511627776))]) (r := (.tup [(vi x2.1), (vb x2.2.1), (vi x2.2.2)])) rfl (size_Up_fn q2) rfl (.move (v := (.tup [(vi x2.1), (vb x2.2.1), (vi x2.2.2)])) rfl rfl (.extract (v := (vi x2.1)) rfl rfl rfl (.extract (v := (vb x2.2.1)) rfl rfl rfl ?_)))
          refine .extract (v := (vi x2.2.2)) rfl rfl rfl (.assign (v := (vi x2.1)) rfl rfl (.assign (v := (vb x2.2.1)) rfl rfl (.assign (v := (vi x2.2.2)) rfl rfl ?_)))
          apply Ops.nil
          replace H := H.all
          apply Runs.then
          apply Runs.then
          refine .regionH 2 rfl H ?_; intro b12 σ H
          refine .move (v := (vb x2.2.1)) rfl rfl (.not (b := x2.2.1) rfl rfl ?_)
          apply Ops.nil
          replace H := H.all
          refine .whether (v := (!x2.2.1)) rfl ?_ ?_ <;> intro hc10
          ·replace h := cond_T hc10 h
           apply Runs.then
           refine .regionH 4 rfl H ?_; intro b13 σ H
           refine .buildA (cs := [(vi 0), (vi 0), (vb false), (vb false)]) rfl rfl (.storeH (off := 0) (cells' := [(vi 0), (vi 0), (vb false), (vb false)]) H 1 rfl rfl rfl rfl rfl rfl rfl rfl rfl nofun ?_); intro σ H
           refine .assign (v := (vb false)) rfl rfl (.assign (v := (vi 0)) rfl rfl ?_)
           apply Ops.nil
           replace H := H.all
           apply Runs.ret
           replace h := Option.some.inj h; subst h
           exact (.inr ⟨_, rfl, rfl, (Ends.H (xs := [(.agg [(vi 0), (vi 0), (vb false), (vb false)]), (vb false), (vi 0)]) (.inr rfl) H (.agg (cs := [(vi 0), (vi 0), (vb false), (vb false)]) (off := 0) 1 rfl rfl rfl rfl rfl rfl rfl (.tmp (v := (vb false)) rfl (.tmp (v := (vi 0)) rfl .nil))) (.two (.cons (.p rfl) (.cons (.c (.v _)) (.cons (.c (.v _)) .nil)))))⟩)
          ·replace h := cond_F hc10 h
           apply Runs.skip
           refine .regionH 5 rfl H ?_; intro b14 σ H
           refine .move (v := (vi x2.1)) rfl rfl (.fieldAddrH (off := 0) (fo := 0) H 0 rfl rfl rfl rfl rfl nofun rfl (.storeH (off := 0) (cells' := [(vi x2.1), (vi a2.1), (vb false), (vb a2.2)]) H 0 rfl rfl rfl rfl rfl rfl rfl rfl rfl nofun ?_)); intro σ H
           refine .fieldAddrH (off := 0) (fo := 2) H 0 rfl rfl rfl rfl rfl nofun rfl (.storeH (off := 2) (cells' := [(vi x2.1), (vi a2.1), (vb true), (vb a2.2)]) H 0 rfl rfl rfl rfl rfl rfl rfl rfl rfl nofun ?_); intro σ H
           apply Ops.nil
           replace H := H.all
           replace h := Option.some.inj h; subst h
           exact (.inl ⟨_, rfl, rfl, ⟨rfl, rfl, trivial⟩, ((H.erase 3).erase 2)⟩)
         ·replace h := cond_F hc9 h
          apply Runs.skip
          replace h := Option.some.inj h; subst h
          exact (.inl ⟨_, rfl, rfl, ⟨rfl, rfl, trivial⟩, ((H.erase 3).erase 2)⟩)
       ·rintro x e σ (⟨a4, rfl, rfl, he, H⟩ | ⟨r', rfl, rfl, hE⟩)
        ·skip
         replace h := jgo h
         obtain ⟨e, rfl⟩ := he.ex
         apply Runs.then
         refine .regionH 4 rfl H ?_; intro b15 σ H
         refine .loadHA (off := 0) (cs := [(vi a4.1), (vi a2.1), (vb a4.2), (vb a2.2)]) H 0 rfl rfl rfl rfl rfl rfl rfl nofun rfl (.storeH (off := 0) (cells' := [(vi a4.1), (vi a2.1), (vb a4.2), (vb a2.2)]) H 1 rfl rfl rfl rfl rfl rfl rfl rfl rfl nofun ?_); intro σ H
         refine .assign (v := (vb true)) rfl rfl (.assign (v := (vi 0)) rfl rfl ?_)
         apply Ops.nil
         replace H := H.all
         apply Runs.ret
         replace h := Option.some.inj h; subst h
         exact (Ends.H (xs := [(.agg [(vi a4.1), (vi a2.1), (vb a4.2), (vb a2.2)]), (vb true), (vi 0)]) (.inr rfl) H (.agg (cs := [(vi a4.1), (vi a2.1), (vb a4.2), (vb a2.2)]) (off := 0) 1 rfl rfl rfl rfl rfl rfl rfl (.tmp (v := (vb true)) rfl (.tmp (v := (vi 0)) rfl .nil))) (.two (.cons (.p rfl) (.cons (.c (.v _)) (.cons (.c (.v _)) .nil)))))
        ·skip
         replace h := jret h
         replace h := Option.some.inj h; subst h
         exact hE
      ·skip
       replace h := jret h
       replace h := Option.some.inj h; subst h
       exact hE

end Go.Dn

namespace Go.Dn
open Go Go.Proofs
set_option maxRecDepth 100000
set_option maxHeartbeats 4000000

theorem epactlaw25_ranged_fn {f : Form} {low : Int} {high : Int} {want : Range} {r : Bool} (h : epactlaw25_ranged f low high want = some r) : Fn CX 43 [(.agg (vs (Form.cs f))), (vi low), (vi high), (.agg (vs (Range.cs want)))] (vb r) := by
 refine Fn.ends Try.func43 rfl rfl rfl rfl rfl rfl ?_
 have H : Hs (⟨0, fun _ => .none⟩ : Heap) [] := Has.nil (Nat.le_refl _)
 generalize (⟨0, fun _ => .none⟩ : Heap) = σ at H ⊢
 unfold epactlaw25_ranged at h
 apply Runs.then
 refine .regionH 3 rfl H ?_; intro b1 σ H
 refine .boxH (cs := (vF f)) H (by omega) (by omega) rfl rfl rfl ?_; intro σ H
 refine .boxH (cs := [(vi want.Low), (vi want.High), (vb want.HasLow), (vb want.HasHigh)]) H (by omega) (by omega) rfl rfl rfl ?_; intro σ H
 refine .assign (v := (vb false)) rfl rfl ?_
 apply Ops.nil
 replace H := H.all
 apply Runs.then
 refine .drawnH 14 rfl (by kernel_rfl) H ?_; intro b2 σ H B2
 refine .loadHA (off := 0) (cs := (vF f)) H 1 rfl rfl rfl rfl rfl rfl rfl (fun _ => .inl ⟨B2 1 _ rfl _ rfl, nofun⟩) rfl (.move (v := (vi low)) rfl rfl (.call (ys := [(vi low)]) (r := (.agg [(.v (.int .i8 (epactlaw25_number low).Inf)), (vi (epactlaw25_number low).N)])) rfl (epactlaw25_number_fn rfl) rfl (.move (v := (vi high)) rfl rfl ?_)))
 refine .call (ys := [(vi high)]) (r := (.agg [(.v (.int .i8 (epactlaw25_number high).Inf)), (vi (epactlaw25_number high).N)])) rfl (epactlaw25_number_fn rfl) rfl ?_
 obtain ⟨x1, q1, h⟩ := bind_some h
 refine .call (ys := [(.agg (vF f)), (.agg [(.v (.int .i8 (epactlaw25_number low).Inf)), (vi (epactlaw25_number low).N)]), (.agg [(.v (.int .i8 (epactlaw25_number high).Inf)), (vi (epactlaw25_number high).N)])]) (r := (.tup [(.agg [(vi x1.1.Low), (vi x1.1.High), (vb x1.1.HasLow), (vb x1.1.HasHigh)]), (vb x1.2.1), (vi x1.2.2)])) rfl (carry_Range_fn q1) rfl (.move (v := (.tup [(.agg [(vi x1.1.Low), (vi x1.1.High), (vb x1.1.HasLow), (vb x1.1.HasHigh)]), (vb x1.2.1), (vi x1.2.2)])) rfl rfl (.extract (v := (.agg [(vi x1.1.Low), (vi x1.1.High), (vb x1.1.HasLow), (vb x1.1.HasHigh)])) rfl rfl rfl (.extract (v := (vb x1.2.1)) rfl rfl rfl ?_)))
 refine .extract (v := (vi x1.2.2)) rfl rfl rfl (.allocH (cs := [(vi 0), (vi 0), (vb false), (vb false)]) H (by omega) (by omega) rfl rfl ?_); intro σ H
 refine .storeH (off := 0) (cells' := [(vi x1.1.Low), (vi x1.1.High), (vb x1.1.HasLow), (vb x1.1.HasHigh)]) H 0 rfl rfl rfl rfl rfl rfl rfl rfl rfl (fun _ => .inr ⟨10, rfl, by kernel_rfl, by decide⟩) ?_; intro σ H
 refine .assign (v := (vb x1.2.1)) rfl rfl (.assign (v := (vi x1.2.2)) rfl rfl ?_)
 apply Ops.nil
 replace H := H.all
 apply Runs.then
 refine .regionH 11 rfl H ?_; intro b3 σ H
 refine .move (v := (vi x1.2.2)) rfl rfl (.int (m := x1.2.2) (m' := 0) (r := .bool (x1.2.2 == 0)) rfl rfl rfl rfl rfl (.move (v := (vb (x1.2.2 == 0))) rfl rfl ?_))
 refine .mid 2 (K1 := fun e σ => EnvHas e [(26, (vb ((x1.2.2 == 0) && x1.2.1))), (7, (.ptr (b1 + 1) 4 0)), (9, (.ptr (b2 + 10) 4 0))] ∧ Has σ (b3 + 5) (b3 + 11) [.blk (b2 + 10) 27 [(vi x1.1.Low), (vi x1.1.High), (vb x1.1.HasLow), (vb x1.1.HasHigh)], .blk (b1 + 1) 27 [(vi want.Low), (vi want.High), (vb want.HasLow), (vb want.HasHigh)]]) rfl ?_ ?_
 ·refine .split rfl rfl ?_ ?_ <;> intro hc1
  ·skip
   refine .wanted rfl rfl (.move (v := (vb x1.2.1)) rfl rfl (.pickT (v := (vb x1.2.1)) rfl rfl rfl ?_))
   apply Ops.nil
   exact ⟨⟨and_T hc1, rfl, rfl, trivial⟩, (H.erase 2).weak (by omega) (Nat.le_refl _)⟩
  ·skip
   refine .pass rfl rfl rfl (.pickF (v := (vb false)) rfl rfl rfl ?_)
   apply Ops.nil
   exact ⟨⟨and_F hc1, rfl, rfl, trivial⟩, (H.erase 2).weak (by omega) (Nat.le_refl _)⟩
 ·rintro e σ ⟨he, H⟩
  obtain ⟨e, rfl⟩ := he.ex
  refine .move (v := (vb ((x1.2.2 == 0) && x1.2.1))) rfl rfl ?_
  refine .mid 4 (K1 := fun e σ => EnvHas e [(31, (vb (((x1.2.2 == 0) && x1.2.1) && ((x1.1.Low == want.Low) && ((x1.1.High == want.High) && ((x1.1.HasLow == want.HasLow) && ((x1.1.HasHigh == want.HasHigh) && true)))))))] ∧ Has σ (b3 + 10) (b3 + 11) []) rfl ?_ ?_
  ·refine .split rfl rfl ?_ ?_ <;> intro hc2
   ·skip
    refine .wanted rfl rfl (.loadHA (off := 0) (cs := [(vi x1.1.Low), (vi x1.1.High), (vb x1.1.HasLow), (vb x1.1.HasHigh)]) H 0 rfl rfl rfl rfl rfl rfl rfl nofun rfl (.wanted rfl rfl (.loadHA (off := 0) (cs := [(vi want.Low), (vi want.High), (vb want.HasLow), (vb want.HasHigh)]) H 1 rfl rfl rfl rfl rfl rfl rfl nofun rfl ?_)))
    refine .wanted rfl rfl (.binA (u := (.agg [(vi x1.1.Low), (vi x1.1.High), (vb x1.1.HasLow), (vb x1.1.HasHigh)])) (w := (.agg [(vi want.Low), (vi want.High), (vb want.HasLow), (vb want.HasHigh)])) (r := .bool ((x1.1.Low == want.Low) && ((x1.1.High == want.High) && ((x1.1.HasLow == want.HasLow) && ((x1.1.HasHigh == want.HasHigh) && true))))) rfl rfl (by kernel_rfl) (fun _ => ask_eqA rfl rfl rfl rfl) rfl (.pickT (v := (vb ((x1.1.Low == want.Low) && ((x1.1.High == want.High) && ((x1.1.HasLow == want.HasLow) && ((x1.1.HasHigh == want.HasHigh) && true)))))) rfl rfl rfl ?_))
    apply Ops.nil
    exact ⟨⟨and_T hc2, trivial⟩, ((H.erase 1).erase 0).weak (by omega) (Nat.le_refl _)⟩
   ·skip
    refine .pass rfl rfl rfl (.pass rfl rfl rfl (.pass rfl rfl rfl (.pickF (v := (vb false)) rfl rfl rfl ?_)))
    apply Ops.nil
    exact ⟨⟨and_F hc2, trivial⟩, ((H.erase 1).erase 0).weak (by omega) (Nat.le_refl _)⟩
  ·rintro e σ ⟨he, H⟩
   obtain ⟨e, rfl⟩ := he.ex
   refine .assign (v := (vb (((x1.2.2 == 0) && x1.2.1) && ((x1.1.Low == want.Low) && ((x1.1.High == want.High) && ((x1.1.HasLow == want.HasLow) && ((x1.1.HasHigh == want.HasHigh) && true))))))) rfl rfl ?_
   apply Ops.nil
   replace H := H.all
   apply Runs.ret
   replace h := Option.some.inj h; subst h
   exact (Ends.H (xs := [(vb (((x1.2.2 == 0) && x1.2.1) && ((x1.1.Low == want.Low) && ((x1.1.High == want.High) && ((x1.1.HasLow == want.HasLow) && ((x1.1.HasHigh == want.HasHigh) && true))))))]) (.inr rfl) H (.tmp (v := (vb (((x1.2.2 == 0) && x1.2.1) && ((x1.1.Low == want.Low) && ((x1.1.High == want.High) && ((x1.1.HasLow == want.HasLow) && ((x1.1.HasHigh == want.HasHigh) && true))))))) rfl .nil) (.one (.c (.v _))))

theorem epactlaw25_awakeO_fn {r : Bool} (h : epactlaw25_awakeO = some r) : Fn CX 13 [] (vb r) := by
 refine Fn.ends Try.func13 rfl rfl rfl rfl rfl rfl ?_
 have H : Hs (⟨0, fun _ => .none⟩ : Heap) [] := Has.nil (Nat.le_refl _)
 generalize (⟨0, fun _ => .none⟩ : Heap) = σ at H ⊢
 unfold epactlaw25_awakeO at h
 apply Runs.then
 refine .regionH 1 rfl H ?_; intro b1 σ H
 refine .assign (v := (vb false)) rfl rfl ?_
 apply Ops.nil
 replace H := H.all
 apply Runs.then
 refine .regionH 6 rfl H ?_; intro b2 σ H
 refine .buildA (cs := [(vi 0), (vi 6)]) rfl rfl (.buildS (sz := 2) ([(Span.mk 0 6)].map Span.cs) H (by omega) (by omega) rfl rfl rfl rfl rfl rfl rfl rfl rfl ?_); intro σ H
 refine .buildSF (sz := 1) ([[(Span.mk 0 6)]].map (cL Span.cs)) H (by omega) (by omega) rfl rfl (.exp (.c (.s 0 rfl)) .nil) rfl rfl rfl rfl rfl rfl rfl nofun ?_; intro σ H
 refine .buildA (cs := [(vi 7), (vi 1), (.buf (b2 + 2) 1 1), .nils]) rfl rfl (.allocH (cs := [(vi 0), (vi 0), .nils, .nils]) H (by omega) (by omega) rfl rfl ?_); intro σ H
 refine .storeH (off := 0) (cells' := [(vi 7), (vi 1), (.buf (b2 + 2) 1 1), .nils]) H 0 rfl rfl rfl rfl rfl rfl rfl rfl rfl nofun ?_; intro σ H
 apply Ops.nil
 replace H := H.all
 apply Runs.then
 refine .regionH 3 rfl H ?_; intro b3 σ H
 refine .call (ys := []) (r := (.agg (vF epactlaw05_Weeks))) rfl (epactlaw05_Weeks_fn rfl) rfl (.allocH (cs := [(vi 0), (vi 0), .nils, .nils]) H (by omega) (by omega) rfl rfl ?_); intro σ H
 refine .storeH (off := 0) (cells' := (vF epactlaw05_Weeks)) H 0 rfl rfl rfl rfl rfl rfl rfl rfl rfl nofun ?_; intro σ H
 apply Ops.nil
 replace H := H.all
 apply Runs.then
 refine .regionH 7 rfl H ?_; intro b4 σ H
 refine .buildA (cs := [(vi 5), (vi 6)]) rfl rfl (.buildS (sz := 2) ([(Span.mk 5 6)].map Span.cs) H (by omega) (by omega) rfl rfl rfl rfl rfl rfl rfl rfl rfl ?_); intro σ H
 refine .buildA (cs := [(vi 3), (.buf (b4 + 1) 1 2)]) rfl rfl (.buildSF (sz := 2) ([(Granule.mk 3 [(Span.mk 5 6)])].map Granule.cs) H (by omega) (by omega) rfl rfl (.exp (.a (.cons (.v _) (.cons (.s 0 rfl) .nil))) .nil) rfl rfl rfl rfl rfl rfl rfl nofun ?_); intro σ H
 refine .buildA (cs := [(vi 0), (vi 0), .nils, (.buf (b4 + 3) 1 2)]) rfl rfl (.allocH (cs := [(vi 0), (vi 0), .nils, .nils]) H (by omega) (by omega) rfl rfl ?_); intro σ H
 refine .storeH (off := 0) (cells' := [(vi 0), (vi 0), .nils, (.buf (b4 + 3) 1 2)]) H 0 rfl rfl rfl rfl rfl rfl rfl rfl rfl nofun ?_; intro σ H
 apply Ops.nil
 replace H := H.all
 apply Runs.then
 refine .regionH 10 rfl H ?_; intro b5 σ H
 refine .loadHA (off := 0) (cs := [(vi 7), (vi 1), (.buf (b2 + 2) 1 1), .nils]) H 4 rfl rfl rfl rfl rfl rfl rfl nofun rfl (.buildA (cs := [(vi 1), (vi 0), (vb true), (vb false)]) rfl rfl ?_)
 obtain ⟨x1, q1, h⟩ := bind_some h
 refine .callX (xs := [(.agg [(vi 7), (vi 1), (.buf (b2 + 2) 1 1), .nils]), (.agg [(vi 1), (vi 0), (vb true), (vb false)])]) (ys := [(.agg (vs (Form.cs (Form.mk 7 1 [[(Span.mk 0 6)]] [])))), (.agg (vs (Range.cs (Range.mk 1 0 true false))))]) H rfl (.cons (.a (.cons (.v _) (.cons (.v _) (.cons (.s 5 rfl) (.cons (.n) .nil))))) (.cons (.p rfl) .nil)) (carry_Ticks_fn q1) rfl rfl nofun rfl ?_; intro σ H
 refine .move (v := (.tup [(.agg [(.v (.int .i8 x1.1.Inf)), (vi x1.1.N)]), (.agg [(.v (.int .i8 x1.2.Inf)), (vi x1.2.N)])])) rfl rfl (.extract (v := (.agg [(.v (.int .i8 x1.1.Inf)), (vi x1.1.N)])) rfl rfl rfl (.extract (v := (.agg [(.v (.int .i8 x1.2.Inf)), (vi x1.2.N)])) rfl rfl rfl (.allocH (cs := [(.v (.int .i8 0)), (vi 0)]) H (by omega) (by omega) rfl rfl ?_))); intro σ H
 refine .allocH (cs := [(.v (.int .i8 0)), (vi 0)]) H (by omega) (by omega) rfl rfl ?_; intro σ H
 refine .storeH (off := 0) (cells' := [(.v (.int .i8 x1.1.Inf)), (vi x1.1.N)]) H 1 rfl rfl rfl rfl rfl rfl rfl rfl rfl nofun ?_; intro σ H
 refine .storeH (off := 0) (cells' := [(.v (.int .i8 x1.2.Inf)), (vi x1.2.N)]) H 0 rfl rfl rfl rfl rfl rfl rfl rfl rfl nofun ?_; intro σ H
 apply Ops.nil
 replace H := H.all
 apply Runs.then
 apply Runs.then
 refine .drawnH 32 rfl (by kernel_rfl) H ?_; intro b6 σ H B6
 refine .loadHA (off := 0) (cs := [(vi 7), (vi 1), (.buf (b2 + 2) 1 1), .nils]) H 6 rfl rfl rfl rfl rfl rfl rfl (fun _ => .inl ⟨B6 6 _ rfl _ rfl, nofun⟩) rfl ?_
 obtain ⟨x2, q2, h⟩ := bind_some h
 refine .callX (xs := [(.agg [(vi 7), (vi 1), (.buf (b2 + 2) 1 1), .nils]), (vi 1)]) (ys := [(.agg (vs (Form.cs (Form.mk 7 1 [[(Span.mk 0 6)]] [])))), (vi 1)]) H rfl (.cons (.a (.cons (.v _) (.cons (.v _) (.cons (.s 7 rfl) (.cons (.n) .nil))))) (.cons (.c (.v _)) .nil)) (carry_Low_fn q2) rfl rfl (fun _ => by kernel_rfl) rfl ?_; intro σ H
 refine .call (ys := [(vi 1)]) (r := (.agg [(.v (.int .i8 (epactlaw25_number 1).Inf)), (vi (epactlaw25_number 1).N)])) rfl (epactlaw25_number_fn rfl) rfl (.binA (u := (.agg [(.v (.int .i8 x2.Inf)), (vi x2.N)])) (w := (.agg [(.v (.int .i8 (epactlaw25_number 1).Inf)), (vi (epactlaw25_number 1).N)])) (r := .bool (!((x2.Inf == ((epactlaw25_number 1).Inf)) && ((x2.N == ((epactlaw25_number 1).N)) && true)))) rfl rfl (by kernel_rfl) (fun _ => ask_eqA rfl rfl rfl rfl) rfl (.move (v := (vb (!((x2.Inf == ((epactlaw25_number 1).Inf)) && ((x2.N == ((epactlaw25_number 1).N)) && true))))) rfl rfl ?_))
 obtain ⟨y1, hj1, h⟩ := bind_some h
 refine .mid 5 (K1 := fun e σ => EnvHas e [(31, (vb y1)), (1, (.ptr (b2 + 4) 4 0)), (2, (.ptr (b3 + 1) 4 0)), (3, (.ptr (b4 + 5) 4 0)), (4, (.ptr (b5 + 6) 2 0)), (5, (.ptr (b5 + 7) 2 0))] ∧ Has σ (b6 + 10) (b6 + 32) [.blk (b5 + 7) 32 [(.v (.int .i8 x1.2.Inf)), (vi x1.2.N)], .blk (b5 + 6) 32 [(.v (.int .i8 x1.1.Inf)), (vi x1.1.N)], .blk (b4 + 5) 25 [(vi 0), (vi 0), .nils, (.buf (b4 + 3) 1 2)], .sl (.buf (b4 + 3) 1 2) 76 2 ([(Granule.mk 3 [(Span.mk 5 6)])].map Granule.cs) true, .blk (b3 + 1) 25 (vF epactlaw05_Weeks), .blk (b2 + 4) 25 [(vi 7), (vi 1), (.buf (b2 + 2) 1 1), .nils], .sl (.buf (b2 + 2) 1 1) 41 1 ([[(Span.mk 0 6)]].map (cL Span.cs)) false]) rfl ?_ ?_
 ·refine .split rfl rfl ?_ ?_ <;> intro hc1
  ·replace h := cond_T hc1 hj1
   refine .pass rfl rfl rfl (.pass rfl rfl rfl (.pass rfl rfl rfl (.pass rfl rfl rfl ?_)))
   refine .pickT (v := (vb true)) rfl rfl rfl ?_
   apply Ops.nil
   replace h := Option.some.inj h; subst h
   exact ⟨⟨rfl, rfl, rfl, rfl, rfl, rfl, trivial⟩, ((H.erase 8).erase 4).weak (by omega) (Nat.le_refl _)⟩
  ·replace h := cond_F hc1 hj1
   refine .wanted rfl rfl (.loadHA (off := 0) (cs := [(vi 7), (vi 1), (.buf (b2 + 2) 1 1), .nils]) H 6 rfl rfl rfl rfl rfl rfl rfl (fun _ => .inl ⟨B6 6 _ rfl _ rfl, nofun⟩) rfl (.wanted rfl rfl ?_))
   obtain ⟨x3, q3, h⟩ := bind_some h
   refine .callX (xs := [(.agg [(vi 7), (vi 1), (.buf (b2 + 2) 1 1), .nils]), (vi 0)]) (ys := [(.agg (vs (Form.cs (Form.mk 7 1 [[(Span.mk 0 6)]] [])))), (vi 0)]) H rfl (.cons (.a (.cons (.v _) (.cons (.v _) (.cons (.s 7 rfl) (.cons (.n) .nil))))) (.cons (.c (.v _)) .nil)) (carry_Low_fn q3) rfl rfl (fun _ => by kernel_rfl) rfl ?_; intro σ H
   refine .wanted rfl rfl (.call (ys := [(vi (-6))]) (r := (.agg [(.v (.int .i8 (epactlaw25_number (-6)).Inf)), (vi (epactlaw25_number (-6)).N)])) rfl (epactlaw25_number_fn rfl) rfl (.wanted rfl rfl (.binA (u := (.agg [(.v (.int .i8 x3.Inf)), (vi x3.N)])) (w := (.agg [(.v (.int .i8 (epactlaw25_number (-6)).Inf)), (vi (epactlaw25_number (-6)).N)])) (r := .bool (!((x3.Inf == ((epactlaw25_number (-6)).Inf)) && ((x3.N == ((epactlaw25_number (-6)).N)) && true)))) rfl rfl (by kernel_rfl) (fun _ => ask_eqA rfl rfl rfl rfl) rfl ?_)))
   refine .pickF (v := (vb (!((x3.Inf == ((epactlaw25_number (-6)).Inf)) && ((x3.N == ((epactlaw25_number (-6)).N)) && true))))) rfl rfl rfl ?_
   apply Ops.nil
   replace h := Option.some.inj h; subst h
   exact ⟨⟨rfl, rfl, rfl, rfl, rfl, rfl, trivial⟩, ((H.erase 8).erase 4).weak (by omega) (Nat.le_refl _)⟩
 ·rintro e σ ⟨he, H⟩
  obtain ⟨e, rfl⟩ := he.ex
  refine .move (v := (vb y1)) rfl rfl ?_
  obtain ⟨y2, hj2, h⟩ := bind_some h
  refine .mid 5 (K1 := fun e σ => EnvHas e [(37, (vb y2)), (1, (.ptr (b2 + 4) 4 0)), (2, (.ptr (b3 + 1) 4 0)), (3, (.ptr (b4 + 5) 4 0)), (4, (.ptr (b5 + 6) 2 0)), (5, (.ptr (b5 + 7) 2 0))] ∧ Has σ (b6 + 16) (b6 + 32) [.blk (b5 + 7) 32 [(.v (.int .i8 x1.2.Inf)), (vi x1.2.N)], .blk (b5 + 6) 32 [(.v (.int .i8 x1.1.Inf)), (vi x1.1.N)], .blk (b4 + 5) 25 [(vi 0), (vi 0), .nils, (.buf (b4 + 3) 1 2)], .sl (.buf (b4 + 3) 1 2) 76 2 ([(Granule.mk 3 [(Span.mk 5 6)])].map Granule.cs) true, .blk (b3 + 1) 25 (vF epactlaw05_Weeks), .blk (b2 + 4) 25 [(vi 7), (vi 1), (.buf (b2 + 2) 1 1), .nils], .sl (.buf (b2 + 2) 1 1) 41 1 ([[(Span.mk 0 6)]].map (cL Span.cs)) false]) rfl ?_ ?_
  ·refine .split rfl rfl ?_ ?_ <;> intro hc2
   ·replace h := cond_T hc2 hj2
    refine .pass rfl rfl rfl (.pass rfl rfl rfl (.pass rfl rfl rfl (.pass rfl rfl rfl ?_)))
    refine .pickT (v := (vb true)) rfl rfl rfl ?_
    apply Ops.nil
    replace h := Option.some.inj h; subst h
    exact ⟨⟨rfl, rfl, rfl, rfl, rfl, rfl, trivial⟩, H.weak (by omega) (Nat.le_refl _)⟩
   ·replace h := cond_F hc2 hj2
    refine .wanted rfl rfl (.loadHA (off := 0) (cs := [(vi 7), (vi 1), (.buf (b2 + 2) 1 1), .nils]) H 5 rfl rfl rfl rfl rfl rfl rfl (fun _ => .inl ⟨B6 6 _ rfl _ rfl, nofun⟩) rfl (.wanted rfl rfl ?_))
    obtain ⟨x4, q4, h⟩ := bind_some h
    refine .callX (xs := [(.agg [(vi 7), (vi 1), (.buf (b2 + 2) 1 1), .nils]), (vi 1)]) (ys := [(.agg (vs (Form.cs (Form.mk 7 1 [[(Span.mk 0 6)]] [])))), (vi 1)]) H rfl (.cons (.a (.cons (.v _) (.cons (.v _) (.cons (.s 6 rfl) (.cons (.n) .nil))))) (.cons (.c (.v _)) .nil)) (carry_High_fn q4) rfl rfl (fun _ => by kernel_rfl) rfl ?_; intro σ H
    refine .wanted rfl rfl (.call (ys := [(vi 13)]) (r := (.agg [(.v (.int .i8 (epactlaw25_number 13).Inf)), (vi (epactlaw25_number 13).N)])) rfl (epactlaw25_number_fn rfl) rfl (.wanted rfl rfl (.binA (u := (.agg [(.v (.int .i8 x4.Inf)), (vi x4.N)])) (w := (.agg [(.v (.int .i8 (epactlaw25_number 13).Inf)), (vi (epactlaw25_number 13).N)])) (r := .bool (!((x4.Inf == ((epactlaw25_number 13).Inf)) && ((x4.N == ((epactlaw25_number 13).N)) && true)))) rfl rfl (by kernel_rfl) (fun _ => ask_eqA rfl rfl rfl rfl) rfl ?_)))
    refine .pickF (v := (vb (!((x4.Inf == ((epactlaw25_number 13).Inf)) && ((x4.N == ((epactlaw25_number 13).N)) && true))))) rfl rfl rfl ?_
    apply Ops.nil
    replace h := Option.some.inj h; subst h
    exact ⟨⟨rfl, rfl, rfl, rfl, rfl, rfl, trivial⟩, H.weak (by omega) (Nat.le_refl _)⟩
  ·rintro e σ ⟨he, H⟩
   obtain ⟨e, rfl⟩ := he.ex
   refine .move (v := (vb y2)) rfl rfl ?_
   obtain ⟨y3, hj3, h⟩ := bind_some h
   refine .mid 5 (K1 := fun e σ => EnvHas e [(43, (vb y3)), (1, (.ptr (b2 + 4) 4 0)), (2, (.ptr (b3 + 1) 4 0)), (3, (.ptr (b4 + 5) 4 0)), (4, (.ptr (b5 + 6) 2 0)), (5, (.ptr (b5 + 7) 2 0))] ∧ Has σ (b6 + 22) (b6 + 32) [.blk (b5 + 7) 32 [(.v (.int .i8 x1.2.Inf)), (vi x1.2.N)], .blk (b5 + 6) 32 [(.v (.int .i8 x1.1.Inf)), (vi x1.1.N)], .blk (b4 + 5) 25 [(vi 0), (vi 0), .nils, (.buf (b4 + 3) 1 2)], .sl (.buf (b4 + 3) 1 2) 76 2 ([(Granule.mk 3 [(Span.mk 5 6)])].map Granule.cs) true, .blk (b3 + 1) 25 (vF epactlaw05_Weeks), .blk (b2 + 4) 25 [(vi 7), (vi 1), (.buf (b2 + 2) 1 1), .nils], .sl (.buf (b2 + 2) 1 1) 41 1 ([[(Span.mk 0 6)]].map (cL Span.cs)) false]) rfl ?_ ?_
   ·refine .split rfl rfl ?_ ?_ <;> intro hc3
    ·replace h := cond_T hc3 hj3
     refine .pass rfl rfl rfl (.pass rfl rfl rfl (.pass rfl rfl rfl (.pass rfl rfl rfl ?_)))
     refine .pickT (v := (vb true)) rfl rfl rfl ?_
     apply Ops.nil
     replace h := Option.some.inj h; subst h
     exact ⟨⟨rfl, rfl, rfl, rfl, rfl, rfl, trivial⟩, H.weak (by omega) (Nat.le_refl _)⟩
    ·replace h := cond_F hc3 hj3
     refine .wanted rfl rfl (.loadHA (off := 0) (cs := [(vi 7), (vi 1), (.buf (b2 + 2) 1 1), .nils]) H 5 rfl rfl rfl rfl rfl rfl rfl (fun _ => .inl ⟨B6 6 _ rfl _ rfl, nofun⟩) rfl (.wanted rfl rfl ?_))
     obtain ⟨x5, q5, h⟩ := bind_some h
     refine .callX (xs := [(.agg [(vi 7), (vi 1), (.buf (b2 + 2) 1 1), .nils]), (vi 0)]) (ys := [(.agg (vs (Form.cs (Form.mk 7 1 [[(Span.mk 0 6)]] [])))), (vi 0)]) H rfl (.cons (.a (.cons (.v _) (.cons (.v _) (.cons (.s 6 rfl) (.cons (.n) .nil))))) (.cons (.c (.v _)) .nil)) (carry_High_fn q5) rfl rfl (fun _ => by kernel_rfl) rfl ?_; intro σ H
     refine .wanted rfl rfl (.call (ys := [(vi 6)]) (r := (.agg [(.v (.int .i8 (epactlaw25_number 6).Inf)), (vi (epactlaw25_number 6).N)])) rfl (epactlaw25_number_fn rfl) rfl (.wanted rfl rfl (.binA (u := (.agg [(.v (.int .i8 x5.Inf)), (vi x5.N)])) (w := (.agg [(.v (.int .i8 (epactlaw25_number 6).Inf)), (vi (epactlaw25_number 6).N)])) (r := .bool (!((x5.Inf == ((epactlaw25_number 6).Inf)) && ((x5.N == ((epactlaw25_number 6).N)) && true)))) rfl rfl (by kernel_rfl) (fun _ => ask_eqA rfl rfl rfl rfl) rfl ?_)))
     refine .pickF (v := (vb (!((x5.Inf == ((epactlaw25_number 6).Inf)) && ((x5.N == ((epactlaw25_number 6).N)) && true))))) rfl rfl rfl ?_
     apply Ops.nil
     replace h := Option.some.inj h; subst h
     exact ⟨⟨rfl, rfl, rfl, rfl, rfl, rfl, trivial⟩, H.weak (by omega) (Nat.le_refl _)⟩
   ·rintro e σ ⟨he, H⟩
    obtain ⟨e, rfl⟩ := he.ex
    refine .move (v := (vb y3)) rfl rfl ?_
    refine .mid 4 (K1 := fun e σ => EnvHas e [(48, (vb (y3 || (!((x1.1.Inf == ((epactlaw25_number 1).Inf)) && ((x1.1.N == ((epactlaw25_number 1).N)) && true)))))), (1, (.ptr (b2 + 4) 4 0)), (2, (.ptr (b3 + 1) 4 0)), (3, (.ptr (b4 + 5) 4 0)), (5, (.ptr (b5 + 7) 2 0))] ∧ Has σ (b6 + 27) (b6 + 32) [.blk (b5 + 7) 32 [(.v (.int .i8 x1.2.Inf)), (vi x1.2.N)], .blk (b4 + 5) 25 [(vi 0), (vi 0), .nils, (.buf (b4 + 3) 1 2)], .sl (.buf (b4 + 3) 1 2) 76 2 ([(Granule.mk 3 [(Span.mk 5 6)])].map Granule.cs) true, .blk (b3 + 1) 25 (vF epactlaw05_Weeks), .blk (b2 + 4) 25 [(vi 7), (vi 1), (.buf (b2 + 2) 1 1), .nils], .sl (.buf (b2 + 2) 1 1) 41 1 ([[(Span.mk 0 6)]].map (cL Span.cs)) false]) rfl ?_ ?_
    ·refine .split rfl rfl ?_ ?_ <;> intro hc4
     ·skip
      refine .pass rfl rfl rfl (.pass rfl rfl rfl (.pass rfl rfl rfl (.pickT (v := (vb true)) rfl rfl rfl ?_)))
      apply Ops.nil
      exact ⟨⟨or_T hc4, rfl, rfl, rfl, rfl, trivial⟩, (H.erase 1).weak (by omega) (Nat.le_refl _)⟩
     ·skip
      refine .wanted rfl rfl (.loadHA (off := 0) (cs := [(.v (.int .i8 x1.1.Inf)), (vi x1.1.N)]) H 1 rfl rfl rfl rfl rfl rfl rfl (fun _ => .inl ⟨B6 1 _ rfl _ rfl, nofun⟩) rfl (.wanted rfl rfl (.call (ys := [(vi 1)]) (r := (.agg [(.v (.int .i8 (epactlaw25_number 1).Inf)), (vi (epactlaw25_number 1).N)])) rfl (epactlaw25_number_fn rfl) rfl ?_)))
      refine .wanted rfl rfl (.binA (u := (.agg [(.v (.int .i8 x1.1.Inf)), (vi x1.1.N)])) (w := (.agg [(.v (.int .i8 (epactlaw25_number 1).Inf)), (vi (epactlaw25_number 1).N)])) (r := .bool (!((x1.1.Inf == ((epactlaw25_number 1).Inf)) && ((x1.1.N == ((epactlaw25_number 1).N)) && true)))) rfl rfl (by kernel_rfl) (fun _ => ask_eqA rfl rfl rfl rfl) rfl (.pickF (v := (vb (!((x1.1.Inf == ((epactlaw25_number 1).Inf)) && ((x1.1.N == ((epactlaw25_number 1).N)) && true))))) rfl rfl rfl ?_))
      apply Ops.nil
      exact ⟨⟨or_F hc4, rfl, rfl, rfl, rfl, trivial⟩, (H.erase 1).weak (by omega) (Nat.le_refl _)⟩
    ·rintro e σ ⟨he, H⟩
     obtain ⟨e, rfl⟩ := he.ex
     refine .move (v := (vb (y3 || (!((x1.1.Inf == ((epactlaw25_number 1).Inf)) && ((x1.1.N == ((epactlaw25_number 1).N)) && true)))))) rfl rfl ?_
     refine .mid 4 (K1 := fun e σ => EnvHas e [(53, (vb ((y3 || (!((x1.1.Inf == ((epactlaw25_number 1).Inf)) && ((x1.1.N == ((epactlaw25_number 1).N)) && true)))) || (!((x1.2.Inf == 1) && ((x1.2.N == 0) && true)))))), (1, (.ptr (b2 + 4) 4 0)), (2, (.ptr (b3 + 1) 4 0)), (3, (.ptr (b4 + 5) 4 0))] ∧ Has σ (b6 + 32) (b6 + 32) [.blk (b4 + 5) 25 [(vi 0), (vi 0), .nils, (.buf (b4 + 3) 1 2)], .sl (.buf (b4 + 3) 1 2) 76 2 ([(Granule.mk 3 [(Span.mk 5 6)])].map Granule.cs) true, .blk (b3 + 1) 25 (vF epactlaw05_Weeks), .blk (b2 + 4) 25 [(vi 7), (vi 1), (.buf (b2 + 2) 1 1), .nils], .sl (.buf (b2 + 2) 1 1) 41 1 ([[(Span.mk 0 6)]].map (cL Span.cs)) false]) rfl ?_ ?_
     ·refine .split rfl rfl ?_ ?_ <;> intro hc5
      ·skip
       refine .pass rfl rfl rfl (.pass rfl rfl rfl (.pass rfl rfl rfl (.pickT (v := (vb true)) rfl rfl rfl ?_)))
       apply Ops.nil
       exact ⟨⟨or_T hc5, rfl, rfl, rfl, trivial⟩, (H.erase 0).weak (by omega) (Nat.le_refl _)⟩
      ·skip
       refine .wanted rfl rfl (.loadHA (off := 0) (cs := [(.v (.int .i8 x1.2.Inf)), (vi x1.2.N)]) H 0 rfl rfl rfl rfl rfl rfl rfl (fun _ => .inl ⟨B6 0 _ rfl _ rfl, nofun⟩) rfl (.wanted rfl rfl (.buildA (cs := [(.v (.int .i8 1)), (vi 0)]) rfl rfl ?_)))
       refine .wanted rfl rfl (.binA (u := (.agg [(.v (.int .i8 x1.2.Inf)), (vi x1.2.N)])) (w := (.agg [(.v (.int .i8 1)), (vi 0)])) (r := .bool (!((x1.2.Inf == 1) && ((x1.2.N == 0) && true)))) rfl rfl (by kernel_rfl) (fun _ => ask_eqA rfl rfl rfl rfl) rfl (.pickF (v := (vb (!((x1.2.Inf == 1) && ((x1.2.N == 0) && true))))) rfl rfl rfl ?_))
       apply Ops.nil
       exact ⟨⟨or_F hc5, rfl, rfl, rfl, trivial⟩, (H.erase 0).weak (by omega) (Nat.le_refl _)⟩
     ·rintro e σ ⟨he, H⟩
      obtain ⟨e, rfl⟩ := he.ex
      apply Ops.nil
      replace H := H.all
      refine .whether (v := ((y3 || (!((x1.1.Inf == ((epactlaw25_number 1).Inf)) && ((x1.1.N == ((epactlaw25_number 1).N)) && true)))) || (!((x1.2.Inf == 1) && ((x1.2.N == 0) && true))))) rfl ?_ ?_ <;> intro hc6
      ·replace h := cond_T hc6 h
       apply Runs.then
       refine .regionH 1 rfl H ?_; intro b7 σ H
       refine .assign (v := (vb false)) rfl rfl ?_
       apply Ops.nil
       replace H := H.all
       apply Runs.ret
       replace h := Option.some.inj h; subst h
       exact (Ends.H (xs := [(vb false)]) (.inr rfl) H (.tmp (v := (vb false)) rfl .nil) (.one (.c (.v _))))
      ·replace h := cond_F hc6 h
       apply Runs.skip
       apply Runs.then
       refine .drawnH 37 rfl (by kernel_rfl) H ?_; intro b8 σ H B8
       refine .loadHA (off := 0) (cs := [(vi 7), (vi 1), (.buf (b2 + 2) 1 1), .nils]) H 3 rfl rfl rfl rfl rfl rfl rfl (fun _ => .inl ⟨B8 3 _ rfl _ rfl, nofun⟩) rfl (.call (ys := [(vi 0), (vi 1)]) (r := (.agg [(vi (epactlaw25_scope 0 1).Low), (vi (epactlaw25_scope 0 1).High), (vb (epactlaw25_scope 0 1).HasLow), (vb (epactlaw25_scope 0 1).HasHigh)])) rfl (epactlaw25_scope_fn rfl) rfl ?_)
       obtain ⟨x6, q6, h⟩ := bind_some h
       refine .callX (xs := [(.agg [(vi 7), (vi 1), (.buf (b2 + 2) 1 1), .nils]), (vi 1), (vi 6), (.agg [(vi (epactlaw25_scope 0 1).Low), (vi (epactlaw25_scope 0 1).High), (vb (epactlaw25_scope 0 1).HasLow), (vb (epactlaw25_scope 0 1).HasHigh)])]) (ys := [(.agg (vs (Form.cs (Form.mk 7 1 [[(Span.mk 0 6)]] [])))), (vi 1), (vi 6), (.agg (vs (Range.cs (epactlaw25_scope 0 1))))]) H rfl (.cons (.a (.cons (.v _) (.cons (.v _) (.cons (.s 4 rfl) (.cons (.n) .nil))))) (.cons (.c (.v _)) (.cons (.c (.v _)) (.cons (.p rfl) .nil)))) (epactlaw25_ranged_fn q6) rfl rfl (fun _ => by kernel_rfl) rfl ?_; intro σ H
       refine .move (v := (vb x6)) rfl rfl ?_
       obtain ⟨y4, hj4, h⟩ := bind_some h
       refine .mid 4 (K1 := fun e σ => EnvHas e [(61, (vb y4)), (1, (.ptr (b2 + 4) 4 0)), (2, (.ptr (b3 + 1) 4 0)), (3, (.ptr (b4 + 5) 4 0))] ∧ Has σ (b8 + 8) (b8 + 37) [.blk (b4 + 5) 25 [(vi 0), (vi 0), .nils, (.buf (b4 + 3) 1 2)], .sl (.buf (b4 + 3) 1 2) 76 2 ([(Granule.mk 3 [(Span.mk 5 6)])].map Granule.cs) true, .blk (b3 + 1) 25 (vF epactlaw05_Weeks), .blk (b2 + 4) 25 [(vi 7), (vi 1), (.buf (b2 + 2) 1 1), .nils], .sl (.buf (b2 + 2) 1 1) 41 1 ([[(Span.mk 0 6)]].map (cL Span.cs)) false]) rfl ?_ ?_
       ·refine .split rfl rfl ?_ ?_ <;> intro hc7
        ·replace h := cond_T hc7 hj4
         refine .wanted rfl rfl (.loadHA (off := 0) (cs := [(vi 7), (vi 1), (.buf (b2 + 2) 1 1), .nils]) H 3 rfl rfl rfl rfl rfl rfl rfl (fun _ => .inl ⟨B8 3 _ rfl _ rfl, nofun⟩) rfl (.wanted rfl rfl (.call (ys := [(vi 1), (vi 2)]) (r := (.agg [(vi (epactlaw25_scope 1 2).Low), (vi (epactlaw25_scope 1 2).High), (vb (epactlaw25_scope 1 2).HasLow), (vb (epactlaw25_scope 1 2).HasHigh)])) rfl (epactlaw25_scope_fn rfl) rfl ?_)))
         refine .wanted rfl rfl ?_
         obtain ⟨x7, q7, h⟩ := bind_some h
         refine .callX (xs := [(.agg [(vi 7), (vi 1), (.buf (b2 + 2) 1 1), .nils]), (vi 7), (vi 13), (.agg [(vi (epactlaw25_scope 1 2).Low), (vi (epactlaw25_scope 1 2).High), (vb (epactlaw25_scope 1 2).HasLow), (vb (epactlaw25_scope 1 2).HasHigh)])]) (ys := [(.agg (vs (Form.cs (Form.mk 7 1 [[(Span.mk 0 6)]] [])))), (vi 7), (vi 13), (.agg (vs (Range.cs (epactlaw25_scope 1 2))))]) H rfl (.cons (.a (.cons (.v _) (.cons (.v _) (.cons (.s 4 rfl) (.cons (.n) .nil))))) (.cons (.c (.v _)) (.cons (.c (.v _)) (.cons (.p rfl) .nil)))) (epactlaw25_ranged_fn q7) rfl rfl (fun _ => by kernel_rfl) rfl ?_; intro σ H
         refine .pickT (v := (vb x7)) rfl rfl rfl ?_
         apply Ops.nil
         replace h := Option.some.inj h; subst h
         exact ⟨⟨rfl, rfl, rfl, rfl, trivial⟩, H.weak (by omega) (Nat.le_refl _)⟩
        ·replace h := cond_F hc7 hj4
         refine .pass rfl rfl rfl (.pass rfl rfl rfl (.pass rfl rfl rfl (.pickF (v := (vb false)) rfl rfl rfl ?_)))
         apply Ops.nil
         replace h := Option.some.inj h; subst h
         exact ⟨⟨rfl, rfl, rfl, rfl, trivial⟩, H.weak (by omega) (Nat.le_refl _)⟩
       ·rintro e σ ⟨he, H⟩
        obtain ⟨e, rfl⟩ := he.ex
        refine .move (v := (vb y4)) rfl rfl ?_
        obtain ⟨y5, hj5, h⟩ := bind_some h
        refine .mid 4 (K1 := fun e σ => EnvHas e [(66, (vb y5)), (2, (.ptr (b3 + 1) 4 0)), (3, (.ptr (b4 + 5) 4 0))] ∧ Has σ (b8 + 13) (b8 + 37) [.blk (b4 + 5) 25 [(vi 0), (vi 0), .nils, (.buf (b4 + 3) 1 2)], .sl (.buf (b4 + 3) 1 2) 76 2 ([(Granule.mk 3 [(Span.mk 5 6)])].map Granule.cs) true, .blk (b3 + 1) 25 (vF epactlaw05_Weeks)]) rfl ?_ ?_
        ·refine .split rfl rfl ?_ ?_ <;> intro hc8
         ·replace h := cond_T hc8 hj5
          refine .wanted rfl rfl (.loadHA (off := 0) (cs := [(vi 7), (vi 1), (.buf (b2 + 2) 1 1), .nils]) H 3 rfl rfl rfl rfl rfl rfl rfl (fun _ => .inl ⟨B8 3 _ rfl _ rfl, nofun⟩) rfl (.wanted rfl rfl (.call (ys := [(vi (-1)), (vi 1)]) (r := (.agg [(vi (epactlaw25_scope (-1) 1).Low), (vi (epactlaw25_scope (-1) 1).High), (vb (epactlaw25_scope (-1) 1).HasLow), (vb (epactlaw25_scope (-1) 1).HasHigh)])) rfl (epactlaw25_scope_fn rfl) rfl ?_)))
          refine .wanted rfl rfl ?_
          obtain ⟨x8, q8, h⟩ := bind_some h
          refine .callX (xs := [(.agg [(vi 7), (vi 1), (.buf (b2 + 2) 1 1), .nils]), (vi (-6)), (vi 6), (.agg [(vi (epactlaw25_scope (-1) 1).Low), (vi (epactlaw25_scope (-1) 1).High), (vb (epactlaw25_scope (-1) 1).HasLow), (vb (epactlaw25_scope (-1) 1).HasHigh)])]) (ys := [(.agg (vs (Form.cs (Form.mk 7 1 [[(Span.mk 0 6)]] [])))), (vi (-6)), (vi 6), (.agg (vs (Range.cs (epactlaw25_scope (-1) 1))))]) H rfl (.cons (.a (.cons (.v _) (.cons (.v _) (.cons (.s 4 rfl) (.cons (.n) .nil))))) (.cons (.c (.v _)) (.cons (.c (.v _)) (.cons (.p rfl) .nil)))) (epactlaw25_ranged_fn q8) rfl rfl (fun _ => by kernel_rfl) rfl ?_; intro σ H
          refine .pickT (v := (vb x8)) rfl rfl rfl ?_
          apply Ops.nil
          replace h := Option.some.inj h; subst h
          exact ⟨⟨rfl, rfl, rfl, trivial⟩, ((H.erase 4).erase 3).weak (by omega) (Nat.le_refl _)⟩
         ·replace h := cond_F hc8 hj5
          refine .pass rfl rfl rfl (.pass rfl rfl rfl (.pass rfl rfl rfl (.pickF (v := (vb false)) rfl rfl rfl ?_)))
          apply Ops.nil
          replace h := Option.some.inj h; subst h
          exact ⟨⟨rfl, rfl, rfl, trivial⟩, ((H.erase 4).erase 3).weak (by omega) (Nat.le_refl _)⟩
        ·rintro e σ ⟨he, H⟩
         obtain ⟨e, rfl⟩ := he.ex
         refine .move (v := (vb y5)) rfl rfl ?_
         obtain ⟨y6, hj6, h⟩ := bind_some h
         refine .mid 5 (K1 := fun e σ => EnvHas e [(72, (vb y6)), (2, (.ptr (b3 + 1) 4 0)), (3, (.ptr (b4 + 5) 4 0))] ∧ Has σ (b8 + 19) (b8 + 37) [.blk (b4 + 5) 25 [(vi 0), (vi 0), .nils, (.buf (b4 + 3) 1 2)], .sl (.buf (b4 + 3) 1 2) 76 2 ([(Granule.mk 3 [(Span.mk 5 6)])].map Granule.cs) true, .blk (b3 + 1) 25 (vF epactlaw05_Weeks)]) rfl ?_ ?_
         ·refine .split rfl rfl ?_ ?_ <;> intro hc9
          ·replace h := cond_T hc9 hj6
           refine .wanted rfl rfl (.loadHA (off := 0) (cs := (vF epactlaw05_Weeks)) H 2 rfl rfl rfl rfl rfl rfl rfl (fun _ => .inl ⟨B8 2 _ rfl _ rfl, nofun⟩) rfl (.wanted rfl rfl ?_))
           obtain ⟨x9, q9, h⟩ := bind_some h
           refine .call (ys := [(.agg (vF epactlaw05_Weeks)), (vi 1)]) (r := (.agg [(.v (.int .i8 x9.Inf)), (vi x9.N)])) rfl (carry_Low_fn q9) rfl (.wanted rfl rfl (.call (ys := [(vi 3)]) (r := (.agg [(.v (.int .i8 (epactlaw25_number 3).Inf)), (vi (epactlaw25_number 3).N)])) rfl (epactlaw25_number_fn rfl) rfl (.wanted rfl rfl ?_)))
           refine .binA (u := (.agg [(.v (.int .i8 x9.Inf)), (vi x9.N)])) (w := (.agg [(.v (.int .i8 (epactlaw25_number 3).Inf)), (vi (epactlaw25_number 3).N)])) (r := .bool ((x9.Inf == ((epactlaw25_number 3).Inf)) && ((x9.N == ((epactlaw25_number 3).N)) && true))) rfl rfl (by kernel_rfl) (fun _ => ask_eqA rfl rfl rfl rfl) rfl (.pickT (v := (vb ((x9.Inf == ((epactlaw25_number 3).Inf)) && ((x9.N == ((epactlaw25_number 3).N)) && true)))) rfl rfl rfl ?_)
           apply Ops.nil
           replace h := Option.some.inj h; subst h
           exact ⟨⟨rfl, rfl, rfl, trivial⟩, H.weak (by omega) (Nat.le_refl _)⟩
          ·replace h := cond_F hc9 hj6
           refine .pass rfl rfl rfl (.pass rfl rfl rfl (.pass rfl rfl rfl (.pass rfl rfl rfl ?_)))
           refine .pickF (v := (vb false)) rfl rfl rfl ?_
           apply Ops.nil
           replace h := Option.some.inj h; subst h
           exact ⟨⟨rfl, rfl, rfl, trivial⟩, H.weak (by omega) (Nat.le_refl _)⟩
         ·rintro e σ ⟨he, H⟩
          obtain ⟨e, rfl⟩ := he.ex
          refine .move (v := (vb y6)) rfl rfl ?_
          obtain ⟨y7, hj7, h⟩ := bind_some h
          refine .mid 5 (K1 := fun e σ => EnvHas e [(78, (vb y7)), (2, (.ptr (b3 + 1) 4 0)), (3, (.ptr (b4 + 5) 4 0))] ∧ Has σ (b8 + 25) (b8 + 37) [.blk (b4 + 5) 25 [(vi 0), (vi 0), .nils, (.buf (b4 + 3) 1 2)], .sl (.buf (b4 + 3) 1 2) 76 2 ([(Granule.mk 3 [(Span.mk 5 6)])].map Granule.cs) true, .blk (b3 + 1) 25 (vF epactlaw05_Weeks)]) rfl ?_ ?_
          ·refine .split rfl rfl ?_ ?_ <;> intro hc10
           ·replace h := cond_T hc10 hj7
            refine .wanted rfl rfl (.loadHA (off := 0) (cs := (vF epactlaw05_Weeks)) H 2 rfl rfl rfl rfl rfl rfl rfl (fun _ => .inl ⟨B8 2 _ rfl _ rfl, nofun⟩) rfl (.wanted rfl rfl ?_))
            obtain ⟨x10, q10, h⟩ := bind_some h
            refine .call (ys := [(.agg (vF epactlaw05_Weeks)), (vi 1)]) (r := (.agg [(.v (.int .i8 x10.Inf)), (vi x10.N)])) rfl (carry_High_fn q10) rfl (.wanted rfl rfl (.call (ys := [(vi 11)]) (r := (.agg [(.v (.int .i8 (epactlaw25_number 11).Inf)), (vi (epactlaw25_number 11).N)])) rfl (epactlaw25_number_fn rfl) rfl (.wanted rfl rfl ?_)))
            refine .binA (u := (.agg [(.v (.int .i8 x10.Inf)), (vi x10.N)])) (w := (.agg [(.v (.int .i8 (epactlaw25_number 11).Inf)), (vi (epactlaw25_number 11).N)])) (r := .bool ((x10.Inf == ((epactlaw25_number 11).Inf)) && ((x10.N == ((epactlaw25_number 11).N)) && true))) rfl rfl (by kernel_rfl) (fun _ => ask_eqA rfl rfl rfl rfl) rfl (.pickT (v := (vb ((x10.Inf == ((epactlaw25_number 11).Inf)) && ((x10.N == ((epactlaw25_number 11).N)) && true)))) rfl rfl rfl ?_)
            apply Ops.nil
            replace h := Option.some.inj h; subst h
            exact ⟨⟨rfl, rfl, rfl, trivial⟩, H.weak (by omega) (Nat.le_refl _)⟩
           ·replace h := cond_F hc10 hj7
            refine .pass rfl rfl rfl (.pass rfl rfl rfl (.pass rfl rfl rfl (.pass rfl rfl rfl ?_)))
            refine .pickF (v := (vb false)) rfl rfl rfl ?_
            apply Ops.nil
            replace h := Option.some.inj h; subst h
            exact ⟨⟨rfl, rfl, rfl, trivial⟩, H.weak (by omega) (Nat.le_refl _)⟩
          ·rintro e σ ⟨he, H⟩
           obtain ⟨e, rfl⟩ := he.ex
           refine .move (v := (vb y7)) rfl rfl ?_
           obtain ⟨y8, hj8, h⟩ := bind_some h
           refine .mid 4 (K1 := fun e σ => EnvHas e [(83, (vb y8)), (3, (.ptr (b4 + 5) 4 0))] ∧ Has σ (b8 + 30) (b8 + 37) [.blk (b4 + 5) 25 [(vi 0), (vi 0), .nils, (.buf (b4 + 3) 1 2)], .sl (.buf (b4 + 3) 1 2) 76 2 ([(Granule.mk 3 [(Span.mk 5 6)])].map Granule.cs) true]) rfl ?_ ?_
           ·refine .split rfl rfl ?_ ?_ <;> intro hc11
            ·replace h := cond_T hc11 hj8
             refine .wanted rfl rfl (.loadHA (off := 0) (cs := (vF epactlaw05_Weeks)) H 2 rfl rfl rfl rfl rfl rfl rfl (fun _ => .inl ⟨B8 2 _ rfl _ rfl, nofun⟩) rfl (.wanted rfl rfl (.call (ys := [(vi 0), (vi 0)]) (r := (.agg [(vi (epactlaw25_scope 0 0).Low), (vi (epactlaw25_scope 0 0).High), (vb (epactlaw25_scope 0 0).HasLow), (vb (epactlaw25_scope 0 0).HasHigh)])) rfl (epactlaw25_scope_fn rfl) rfl ?_)))
             refine .wanted rfl rfl ?_
             obtain ⟨x11, q11, h⟩ := bind_some h
             refine .call (ys := [(.agg (vF epactlaw05_Weeks)), (vi 1), (vi 2), (.agg [(vi (epactlaw25_scope 0 0).Low), (vi (epactlaw25_scope 0 0).High), (vb (epactlaw25_scope 0 0).HasLow), (vb (epactlaw25_scope 0 0).HasHigh)])]) (r := (vb x11)) rfl (epactlaw25_ranged_fn q11) rfl (.pickT (v := (vb x11)) rfl rfl rfl ?_)
             apply Ops.nil
             replace h := Option.some.inj h; subst h
             exact ⟨⟨rfl, rfl, trivial⟩, (H.erase 2).weak (by omega) (Nat.le_refl _)⟩
            ·replace h := cond_F hc11 hj8
             refine .pass rfl rfl rfl (.pass rfl rfl rfl (.pass rfl rfl rfl (.pickF (v := (vb false)) rfl rfl rfl ?_)))
             apply Ops.nil
             replace h := Option.some.inj h; subst h
             exact ⟨⟨rfl, rfl, trivial⟩, (H.erase 2).weak (by omega) (Nat.le_refl _)⟩
           ·rintro e σ ⟨he, H⟩
            obtain ⟨e, rfl⟩ := he.ex
            refine .move (v := (vb y8)) rfl rfl ?_
            obtain ⟨y9, hj9, h⟩ := bind_some h
            refine .mid 5 (K1 := fun e σ => EnvHas e [(89, (vb y9))] ∧ Has σ (b8 + 36) (b8 + 37) []) rfl ?_ ?_
            ·refine .split rfl rfl ?_ ?_ <;> intro hc12
             ·replace h := cond_T hc12 hj9
              refine .wanted rfl rfl (.loadHA (off := 0) (cs := [(vi 0), (vi 0), .nils, (.buf (b4 + 3) 1 2)]) H 0 rfl rfl rfl rfl rfl rfl rfl (fun _ => .inl ⟨B8 0 _ rfl _ rfl, nofun⟩) rfl (.wanted rfl rfl ?_))
              obtain ⟨x12, q12, h⟩ := bind_some h
              refine .callX (xs := [(.agg [(vi 0), (vi 0), .nils, (.buf (b4 + 3) 1 2)]), (vi 1)]) (ys := [(.agg (vs (Form.cs (Form.mk 0 0 [] [(Granule.mk 3 [(Span.mk 5 6)])])))), (vi 1)]) H rfl (.cons (.a (.cons (.v _) (.cons (.v _) (.cons (.n) (.cons (.s 1 rfl) .nil))))) (.cons (.c (.v _)) .nil)) (carry_Low_fn q12) rfl rfl (fun _ => by kernel_rfl) rfl ?_; intro σ H
              refine .wanted rfl rfl (.call (ys := [(vi 1099511627776)]) (r := (.agg [(.v (.int .i8 (epactlaw25_number 1099511627776).Inf)), (vi (epactlaw25_number 1099511627776).N)])) rfl (epactlaw25_number_fn rfl) rfl (.wanted rfl rfl (.binA (u := (.agg [(.v (.int .i8 x12.Inf)), (vi x12.N)])) (w := (.agg [(.v (.int .i8 (epactlaw25_number 1099511627776).Inf)), (vi (epactlaw25_number 1099511627776).N)])) (r := .bool ((x12.Inf == ((epactlaw25_number 1099511627776).Inf)) && ((x12.N == ((epactlaw25_number 1099511627776).N)) && true))) rfl rfl (by kernel_rfl) (fun _ => ask_eqA rfl rfl rfl rfl) rfl ?_)))
              refine .pickT (v := (vb ((x12.Inf == ((epactlaw25_number 1099511627776).Inf)) && ((x12.N == ((epactlaw25_number 1099511627776).N)) && true)))) rfl rfl rfl ?_
              apply Ops.nil
              replace h := Option.some.inj h; subst h
              exact ⟨⟨rfl, trivial⟩, ((H.erase 1).erase 0).weak (by omega) (Nat.le_refl _)⟩
             ·replace h := cond_F hc12 hj9
              refine .pass rfl rfl rfl (.pass rfl rfl rfl (.pass rfl rfl rfl (.pass rfl rfl rfl ?_)))
              refine .pickF (v := (vb false)) rfl rfl rfl ?_
              apply Ops.nil
              replace h := Option.some.inj h; subst h
              exact ⟨⟨rfl, trivial⟩, ((H.erase 1).erase 0).weak (by omega) (Nat.le_refl _)⟩
            ·rintro e σ ⟨he, H⟩
             obtain ⟨e, rfl⟩ := he.ex
             refine .assign (v := (vb y9)) rfl rfl ?_
             apply Ops.nil
             replace H := H.all
             apply Runs.ret
             replace h := Option.some.inj h; subst h
             exact (Ends.H (xs := [(vb y9)]) (.inr rfl) H (.tmp (v := (vb y9)) rfl .nil) (.one (.c (.v _))))

theorem epactlaw25_awake_fn {r : Bool} (h : epactlaw25_awake = r) : Fn CX 13 [] (vb r) := by
 subst h
 exact epactlaw25_awakeO_fn epactlaw25_awakeO_true

end Go.Dn

namespace Go.Dn
open Go Go.Proofs
set_option maxRecDepth 100000
set_option maxHeartbeats 4000000

theorem epactlaw23_Near_fn {f : Form} {r : Bool} (h : epactlaw23_Near f = some r) : Fn CX 12 [(.agg (vs (Form.cs f)))] (vb r) := by
 refine Fn.ends Try.func12 rfl rfl rfl rfl rfl rfl ?_
 have H : Hs (⟨0, fun _ => .none⟩ : Heap) [] := Has.nil (Nat.le_refl _)
 generalize (⟨0, fun _ => .none⟩ : Heap) = σ at H ⊢
 unfold epactlaw23_Near at h
 apply Runs.then
 refine .regionH 2 rfl H ?_; intro b1 σ H
 refine .boxH (cs := (vF f)) H (by omega) (by omega) rfl rfl rfl ?_; intro σ H
 refine .assign (v := (vb false)) rfl rfl ?_
 apply Ops.nil
 replace H := H.all
 apply Runs.then
 apply Runs.then
 refine .regionH 13 rfl H ?_; intro b2 σ H
 refine .loadHA (off := 0) (cs := (vF f)) H 0 rfl rfl rfl rfl rfl rfl rfl nofun rfl ?_
 obtain ⟨x1, q1, h⟩ := bind_some h
 refine .call (ys := [(.agg (vF f))]) (r := (vb x1)) rfl (epactlaw05_Small_fn q1) rfl (.not (b := x1) rfl rfl (.move (v := (vb (!x1))) rfl rfl ?_))
 obtain ⟨y1, hj1, h⟩ := bind_some h
 refine .mid 4 (K1 := fun e σ => EnvHas e [(16, (vb y1)), (1, (.ptr (b1 + 0) 4 0))] ∧ Has σ (b2 + 8) (b2 + 13) [.blk (b1 + 0) 25 (vF f)]) rfl ?_ ?_
 ·refine .split rfl rfl ?_ ?_ <;> intro hc1
  ·replace h := cond_T hc1 hj1
   refine .pass rfl rfl rfl (.pass rfl rfl rfl (.pass rfl rfl rfl (.pickT (v := (vb true)) rfl rfl rfl ?_)))
   apply Ops.nil
   replace h := Option.some.inj h; subst h
   exact ⟨⟨rfl, rfl, trivial⟩, H.weak (by omega) (Nat.le_refl _)⟩
  ·replace h := cond_F hc1 hj1
   refine .wanted rfl rfl (.loadHA (off := 0) (cs := (vF f)) H 0 rfl rfl rfl rfl rfl rfl rfl nofun rfl (.wanted rfl rfl ?_))
   obtain ⟨x2, q2, h⟩ := bind_some h
   refine .call (ys := [(.agg (vF f))]) (r := (vi x2)) rfl (gran_Right_fn q2) rfl (.wanted rfl rfl (.int (m := x2) (m' := 0) (r := .bool (x2 != 0)) rfl rfl rfl rfl rfl (.pickF (v := (vb (x2 != 0))) rfl rfl rfl ?_)))
   apply Ops.nil
   replace h := Option.some.inj h; subst h
   exact ⟨⟨rfl, rfl, trivial⟩, H.weak (by omega) (Nat.le_refl _)⟩
 ·rintro e σ ⟨he, H⟩
  obtain ⟨e, rfl⟩ := he.ex
  refine .move (v := (vb y1)) rfl rfl ?_
  refine .mid 4 (K1 := fun e σ => EnvHas e [(21, (vb (y1 || (decide (f.Period > 200))))), (1, (.ptr (b1 + 0) 4 0))] ∧ Has σ (b2 + 13) (b2 + 13) [.blk (b1 + 0) 25 (vF f)]) rfl ?_ ?_
  ·refine .split rfl rfl ?_ ?_ <;> intro hc2
   ·skip
    refine .pass rfl rfl rfl (.pass rfl rfl rfl (.pass rfl rfl rfl (.pickT (v := (vb true)) rfl rfl rfl ?_)))
    apply Ops.nil
    exact ⟨⟨or_T hc2, rfl, trivial⟩, H.weak (by omega) (Nat.le_refl _)⟩
   ·skip
    refine .wanted rfl rfl (.fieldAddrH (off := 0) (fo := 0) H 0 rfl rfl rfl rfl rfl nofun rfl (.wanted rfl rfl (.loadH (off := 0) (v := (vi f.Period)) H 0 rfl rfl rfl rfl rfl nofun rfl ?_)))
    refine .wanted rfl rfl (.int (m := f.Period) (m' := 200) (r := .bool (decide (f.Period > 200))) rfl rfl rfl rfl rfl (.pickF (v := (vb (decide (f.Period > 200)))) rfl rfl rfl ?_))
    apply Ops.nil
    exact ⟨⟨or_F hc2, rfl, trivial⟩, H.weak (by omega) (Nat.le_refl _)⟩
  ·rintro e σ ⟨he, H⟩
   obtain ⟨e, rfl⟩ := he.ex
   apply Ops.nil
   replace H := H.all
   refine .whether (v := (y1 || (decide (f.Period > 200)))) rfl ?_ ?_ <;> intro hc3
   ·replace h := cond_T hc3 h
    apply Runs.then
    refine .regionH 1 rfl H ?_; intro b3 σ H
    refine .assign (v := (vb false)) rfl rfl ?_
    apply Ops.nil
    replace H := H.all
    apply Runs.ret
    replace h := Option.some.inj h; subst h
    exact (Ends.H (xs := [(vb false)]) (.inr rfl) H (.tmp (v := (vb false)) rfl .nil) (.one (.c (.v _))))
   ·replace h := cond_F hc3 h
    apply Runs.skip
    apply Runs.then
    apply Runs.then
    refine .regionH 4 rfl H ?_; intro b4 σ H
    refine .fieldAddrH (off := 0) (fo := 2) H 0 rfl rfl rfl rfl rfl nofun rfl (.loadH (off := 2) (v := (vl (cL Span.cs) f.Core)) H 0 rfl rfl rfl rfl rfl nofun rfl (.lenPt (c := (cL Span.cs)) (xs := f.Core) rfl rfl rfl (.move (v := (vi 0)) rfl rfl ?_)))
    apply Ops.nil
    replace H := H.all
    apply Runs.inBlock
    obtain ⟨y2, hj2, h⟩ := bind_some h
    obtain ⟨n1, hj2⟩ := loopO_iff.1 hj2
    refine .mono (Runs.loopO hj2 (fun s1 e σ => EnvHas e [(1, (.ptr (b1 + 0) 4 0)), (23, (vl (cL Span.cs) f.Core)), (24, (vi (f.Core.length : Int))), (25, (vi s1))] ∧ Hs σ [.blk (b1 + 0) 25 (vF f)]) (fun y2 x e σ => (∃ a1, y2 = (.go a1) ∧ x = .exit 0 ∧ EnvHas e [(1, (.ptr (b1 + 0) 4 0))] ∧ Hs σ [.blk (b1 + 0) 25 (vF f)]) ∨ (∃ r', y2 = (.ret r') ∧ x = .ret ∧ Ends CX Try.f12.results.toList (vb r') x e σ)) ⟨⟨rfl, rfl, rfl, rfl, trivial⟩, H⟩ ?_) ?_
    ·intro s1 e σ hI z h
     obtain ⟨he, H⟩ := hI
     obtain ⟨e, rfl⟩ := he.ex
     unfold epactlaw23_Near.s0 at h
     apply Runs.then
     refine .regionH 1 rfl H ?_; intro b5 σ H
     refine .int (m := s1) (m' := (f.Core.length : Int)) (r := .bool (decide (s1 < (f.Core.length : Int)))) rfl rfl rfl rfl rfl ?_
     apply Ops.nil
     replace H := H.all
     apply Runs.then
     refine .whether (v := (decide (s1 < (f.Core.length : Int)))) rfl ?_ ?_ <;> intro hc4
     ·replace h := cond_T hc4 h
      apply Runs.skip
      apply Runs.then
      apply Runs.inBlock
      apply Runs.then
      refine .regionH 3 rfl H ?_; intro b6 σ H
      obtain ⟨x3, q3, h⟩ := bind_some h
      refine .indexP (c := (cL Span.cs)) (u := x3) rfl rfl q3 rfl rfl rfl rfl (.loadP (u := (.sl (x3.map Span.cs))) rfl rfl rfl rfl (.assign (v := (vl Span.cs x3)) rfl rfl ?_))
      apply Ops.nil
      replace H := H.all
      apply Runs.then
      refine .regionH 8 rfl H ?_; intro b7 σ H
      refine .move (v := (vl Span.cs x3)) rfl rfl ?_
      obtain ⟨x4, q4, h⟩ := bind_some h
      refine .call (ys := [(vl Span.cs x3)]) (r := (.tup [(.agg [(vi x4.1.From), (vi x4.1.To)]), (vb x4.2)])) rfl (spans_Hull_fn q4) rfl (.move (v := (.tup [(.agg [(vi x4.1.From), (vi x4.1.To)]), (vb x4.2)])) rfl rfl (.extract (v := (.agg [(vi x4.1.From), (vi x4.1.To)])) rfl rfl rfl (.extract (v := (vb x4.2)) rfl rfl rfl ?_)))
      refine .allocH (cs := [(vi 0), (vi 0)]) H (by omega) (by omega) rfl rfl ?_; intro σ H
      refine .storeH (off := 0) (cells' := [(vi x4.1.From), (vi x4.1.To)]) H 0 rfl rfl rfl rfl rfl rfl rfl rfl rfl nofun ?_; intro σ H
      refine .assign (v := (vb x4.2)) rfl rfl ?_
      apply Ops.nil
      replace H := H.all
      apply Runs.then
      refine .regionH 11 rfl H ?_; intro b8 σ H
      refine .move (v := (vb x4.2)) rfl rfl (.move (v := (vb x4.2)) rfl rfl ?_)
      refine .mid 9 (K1 := fun e σ => EnvHas e [(44, (vb (x4.2 && ((decide (x4.1.From < (-100))) || (decide (x4.1.To > 100)))))), (1, (.ptr (b1 + 0) 4 0)), (23, (vl (cL Span.cs) f.Core)), (24, (vi (f.Core.length : Int))), (25, (vi s1))] ∧ Has σ (b8 + 11) (b8 + 11) [.blk (b1 + 0) 25 (vF f)]) rfl ?_ ?_
      ·refine .split rfl rfl ?_ ?_ <;> intro hc5
       ·skip
        refine .wanted rfl rfl (.fieldAddrH (off := 0) (fo := 0) H 0 rfl rfl rfl rfl rfl nofun rfl (.wanted rfl rfl (.loadH (off := 0) (v := (vi x4.1.From)) H 0 rfl rfl rfl rfl rfl nofun rfl ?_)))
        refine .wanted rfl rfl (.int (m := x4.1.From) (m' := (-100)) (r := .bool (decide (x4.1.From < (-100)))) rfl rfl rfl rfl rfl (.wanted rfl rfl (.move (v := (vb (decide (x4.1.From < (-100))))) rfl rfl ?_)))
        refine .mid 4 (K1 := fun e σ => EnvHas e [(43, (vb ((decide (x4.1.From < (-100))) || (decide (x4.1.To > 100))))), (1, (.ptr (b1 + 0) 4 0)), (23, (vl (cL Span.cs) f.Core)), (24, (vi (f.Core.length : Int))), (25, (vi s1)), (35, (vb true))] ∧ Has σ (b8 + 10) (b8 + 11) [.blk (b1 + 0) 25 (vF f)]) rfl ?_ ?_
        ·refine .split rfl rfl ?_ ?_ <;> intro hc6
         ·skip
          refine .pass rfl rfl rfl (.pass rfl rfl rfl (.pass rfl rfl rfl (.wanted rfl rfl ?_)))
          refine .pickT (v := (vb true)) rfl rfl rfl ?_
          apply Ops.nil
          exact ⟨⟨or_T hc6, rfl, rfl, rfl, rfl, rfl, trivial⟩, (H.erase 0).weak (by omega) (Nat.le_refl _)⟩
         ·skip
          refine .wanted rfl rfl (.fieldAddrH (off := 0) (fo := 1) H 0 rfl rfl rfl rfl rfl nofun rfl (.wanted rfl rfl (.loadH (off := 1) (v := (vi x4.1.To)) H 0 rfl rfl rfl rfl rfl nofun rfl ?_)))
          refine .wanted rfl rfl (.int (m := x4.1.To) (m' := 100) (r := .bool (decide (x4.1.To > 100))) rfl rfl rfl rfl rfl (.wanted rfl rfl (.pickF (v := (vb (decide (x4.1.To > 100)))) rfl rfl rfl ?_)))
          apply Ops.nil
          exact ⟨⟨or_F hc6, rfl, rfl, rfl, rfl, rfl, trivial⟩, (H.erase 0).weak (by omega) (Nat.le_refl _)⟩
        ·rintro e σ ⟨he, H⟩
         obtain ⟨e, rfl⟩ := he.ex
         refine .pickT (v := (vb ((decide (x4.1.From < (-100))) || (decide (x4.1.To > 100))))) rfl rfl rfl ?_
         apply Ops.nil
         exact ⟨⟨and_T hc5, rfl, rfl, rfl, rfl, trivial⟩, H.weak (by omega) (Nat.le_refl _)⟩
       ·skip
        refine .pass rfl rfl rfl (.pass rfl rfl rfl (.pass rfl rfl rfl (.pass rfl rfl rfl ?_)))
        refine .passU rfl rfl rfl (.passU rfl rfl rfl (.passU rfl rfl rfl (.pass rfl rfl rfl ?_)))
        refine .pickF (v := (vb false)) rfl rfl rfl ?_
        apply Ops.nil
        exact ⟨⟨and_F hc5, rfl, rfl, rfl, rfl, trivial⟩, (H.erase 0).weak (by omega) (Nat.le_refl _)⟩
      ·rintro e σ ⟨he, H⟩
       obtain ⟨e, rfl⟩ := he.ex
       apply Ops.nil
       replace H := H.all
       refine .whether (v := (x4.2 && ((decide (x4.1.From < (-100))) || (decide (x4.1.To > 100))))) rfl ?_ ?_ <;> intro hc7
       ·replace h := cond_T hc7 h
        apply Runs.then
        refine .regionH 1 rfl H ?_; intro b9 σ H
        refine .assign (v := (vb false)) rfl rfl ?_
        apply Ops.nil
        replace H := H.all
        apply Runs.ret
        replace h := Option.some.inj h; subst h
        exact ⟨nofun, (.inr ⟨_, rfl, rfl, (Ends.H (xs := [(vb false)]) (.inr rfl) H (.tmp (v := (vb false)) rfl .nil) (.one (.c (.v _))))⟩)⟩
       ·replace h := cond_F hc7 h
        apply Runs.skip
        refine .regionH 2 rfl H ?_; intro b10 σ H
        refine .int (m := s1) (m' := 1) (r := .int .i64 (w64 (s1 + 1))) rfl rfl rfl rfl rfl (.move (v := (vi (w64 (s1 + 1)))) rfl rfl ?_)
        apply Ops.nil
        replace H := H.all
        replace h := Option.some.inj h; subst h
        exact ⟨rfl, ⟨rfl, rfl, rfl, rfl, trivial⟩, H⟩
     ·replace h := cond_F hc4 h
      apply Runs.exit
      replace h := Option.some.inj h; subst h
      exact ⟨nofun, (.inl ⟨_, rfl, rfl, ⟨rfl, trivial⟩, H⟩)⟩
    ·rintro x e σ (⟨a2, rfl, rfl, he, H⟩ | ⟨r', rfl, rfl, hE⟩)
     ·skip
      replace h := jgo h
      obtain ⟨e, rfl⟩ := he.ex
      apply Runs.then
      apply Runs.then
      refine .regionH 4 rfl H ?_; intro b11 σ H
      refine .fieldAddrH (off := 0) (fo := 3) H 0 rfl rfl rfl rfl rfl nofun rfl (.loadH (off := 3) (v := (vl Granule.cs f.Odd)) H 0 rfl rfl rfl rfl rfl nofun rfl (.lenPt (c := Granule.cs) (xs := f.Odd) rfl rfl rfl (.move (v := (vi 0)) rfl rfl ?_)))
      apply Ops.nil
      replace H := H.all
      apply Runs.inBlock
      obtain ⟨y3, hj3, h⟩ := bind_some h
      obtain ⟨n2, hj3⟩ := loopO_iff.1 hj3
      refine .mono (Runs.loopO hj3 (fun s2 e σ => EnvHas e [(47, (vl Granule.cs f.Odd)), (48, (vi (f.Odd.length : Int))), (49, (vi s2))] ∧ Hs σ []) (fun y3 x e σ => (∃ a3, y3 = (.go a3) ∧ x = .exit 2 ∧ EnvHas e [] ∧ Hs σ []) ∨ (∃ r', y3 = (.ret r') ∧ x = .ret ∧ Ends CX Try.f12.results.toList (vb r') x e σ)) ⟨⟨rfl, rfl, rfl, trivial⟩, (H.erase 0)⟩ ?_) ?_
      ·intro s2 e σ hI z h
       obtain ⟨he, H⟩ := hI
       obtain ⟨e, rfl⟩ := he.ex
       unfold epactlaw23_Near.s1 at h
       apply Runs.then
       refine .regionH 1 rfl H ?_; intro b12 σ H
       refine .int (m := s2) (m' := (f.Odd.length : Int)) (r := .bool (decide (s2 < (f.Odd.length : Int)))) rfl rfl rfl rfl rfl ?_
       apply Ops.nil
       replace H := H.all
       apply Runs.then
       refine .whether (v := (decide (s2 < (f.Odd.length : Int)))) rfl ?_ ?_ <;> intro hc8
       ·replace h := cond_T hc8 h
        apply Runs.skip
        apply Runs.then
        apply Runs.inBlock
        apply Runs.then
        refine .regionH 4 rfl H ?_; intro b13 σ H
        obtain ⟨x5, q5, h⟩ := bind_some h
        refine .indexP (c := Granule.cs) (u := x5) rfl rfl q5 rfl rfl rfl rfl (.loadPA (cs := [(.int .i64 x5.Index), (.sl (x5.Ticks.map Span.cs))]) rfl rfl rfl rfl rfl rfl (.allocH (cs := [(vi 0), .nils]) H (by omega) (by omega) rfl rfl ?_)); intro σ H
        refine .storeH (off := 0) (cells' := [(vi x5.Index), (vl Span.cs x5.Ticks)]) H 0 rfl rfl rfl rfl rfl rfl rfl rfl rfl nofun ?_; intro σ H
        apply Ops.nil
        replace H := H.all
        apply Runs.then
        refine .regionH 8 rfl H ?_; intro b14 σ H
        refine .fieldAddrH (off := 0) (fo := 0) H 0 rfl rfl rfl rfl rfl nofun rfl (.loadH (off := 0) (v := (vi x5.Index)) H 0 rfl rfl rfl rfl rfl nofun rfl (.int (m := x5.Index) (m' := (-100)) (r := .bool (decide (x5.Index < (-100)))) rfl rfl rfl rfl rfl (.move (v := (vb (decide (x5.Index < (-100))))) rfl rfl ?_)))
        refine .mid 4 (K1 := fun e σ => EnvHas e [(60, (vb ((decide (x5.Index < (-100))) || (decide (x5.Index > 100))))), (47, (vl Granule.cs f.Odd)), (48, (vi (f.Odd.length : Int))), (49, (vi s2))] ∧ Has σ (b14 + 8) (b14 + 8) []) rfl ?_ ?_
        ·refine .split rfl rfl ?_ ?_ <;> intro hc9
         ·skip
          refine .pass rfl rfl rfl (.pass rfl rfl rfl (.pass rfl rfl rfl (.pickT (v := (vb true)) rfl rfl rfl ?_)))
          apply Ops.nil
          exact ⟨⟨or_T hc9, rfl, rfl, rfl, trivial⟩, (H.erase 0).weak (by omega) (Nat.le_refl _)⟩
         ·skip
          refine .wanted rfl rfl (.fieldAddrH (off := 0) (fo := 0) H 0 rfl rfl rfl rfl rfl nofun rfl (.wanted rfl rfl (.loadH (off := 0) (v := (vi x5.Index)) H 0 rfl rfl rfl rfl rfl nofun rfl ?_)))
          refine .wanted rfl rfl (.int (m := x5.Index) (m' := 100) (r := .bool (decide (x5.Index > 100))) rfl rfl rfl rfl rfl (.pickF (v := (vb (decide (x5.Index > 100)))) rfl rfl rfl ?_))
          apply Ops.nil
          exact ⟨⟨or_F hc9, rfl, rfl, rfl, trivial⟩, (H.erase 0).weak (by omega) (Nat.le_refl _)⟩
        ·rintro e σ ⟨he, H⟩
         obtain ⟨e, rfl⟩ := he.ex
         apply Ops.nil
         replace H := H.all
         refine .whether (v := ((decide (x5.Index < (-100))) || (decide (x5.Index > 100)))) rfl ?_ ?_ <;> intro hc10
         ·replace h := cond_T hc10 h
          apply Runs.then
          refine .regionH 1 rfl H ?_; intro b15 σ H
          refine .assign (v := (vb false)) rfl rfl ?_
          apply Ops.nil
          replace H := H.all
          apply Runs.ret
          replace h := Option.some.inj h; subst h
          exact ⟨nofun, (.inr ⟨_, rfl, rfl, (Ends.H (xs := [(vb false)]) (.inr rfl) H (.tmp (v := (vb false)) rfl .nil) (.one (.c (.v _))))⟩)⟩
         ·replace h := cond_F hc10 h
          apply Runs.skip
          refine .regionH 2 rfl H ?_; intro b16 σ H
          refine .int (m := s2) (m' := 1) (r := .int .i64 (w64 (s2 + 1))) rfl rfl rfl rfl rfl (.move (v := (vi (w64 (s2 + 1)))) rfl rfl ?_)
          apply Ops.nil
          replace H := H.all
          replace h := Option.some.inj h; subst h
          exact ⟨rfl, ⟨rfl, rfl, rfl, trivial⟩, H⟩
       ·replace h := cond_F hc8 h
        apply Runs.exit
        replace h := Option.some.inj h; subst h
        exact ⟨nofun, (.inl ⟨_, rfl, rfl, trivial, H⟩)⟩
      ·rintro x e σ (⟨a4, rfl, rfl, he, H⟩ | ⟨r', rfl, rfl, hE⟩)
       ·skip
        replace h := jgo h
        obtain ⟨e, rfl⟩ := he.ex
        apply Runs.then
        refine .regionH 1 rfl H ?_; intro b17 σ H
        refine .assign (v := (vb true)) rfl rfl ?_
        apply Ops.nil
        replace H := H.all
        apply Runs.ret
        replace h := Option.some.inj h; subst h
        exact (Ends.H (xs := [(vb true)]) (.inr rfl) H (.tmp (v := (vb true)) rfl .nil) (.one (.c (.v _))))
       ·skip
        replace h := jret h
        replace h := Option.some.inj h; subst h
        exact hE
     ·skip
      replace h := jret h
      replace h := Option.some.inj h; subst h
      exact hE

theorem epactref05_Down_fn {a : Int} {b : Int} {r : Int × Int} (h : epactref05_Down a b = some r) : Fn CX 121 [(vi a), (vi b)] (.tup [(vi r.1), (vi r.2)]) := by
 refine Fn.ends Try.func121 rfl rfl rfl rfl rfl rfl ?_
 have H : Hs (⟨0, fun _ => .none⟩ : Heap) [] := Has.nil (Nat.le_refl _)
 generalize (⟨0, fun _ => .none⟩ : Heap) = σ at H ⊢
 unfold epactref05_Down at h
 apply Runs.then
 refine .regionH 2 rfl H ?_; intro b1 σ H
 refine .assign (v := (vi 0)) rfl rfl (.assign (v := (vi 0)) rfl rfl ?_)
 apply Ops.nil
 replace H := H.all
 apply Runs.then
 refine .regionH 4 rfl H ?_; intro b2 σ H
 refine .move (v := (vi a)) rfl rfl (.move (v := (vi b)) rfl rfl ?_)
 obtain ⟨u1, q1, h⟩ := bind_some h
 refine .quo (m := a) (m' := b) rfl rfl (nz_ne q1) rfl (.assign (v := (vi (w64 (a.tdiv b)))) rfl rfl ?_)
 apply Ops.nil
 replace H := H.all
 apply Runs.then
 refine .regionH 4 rfl H ?_; intro b3 σ H
 refine .move (v := (vi a)) rfl rfl (.move (v := (vi b)) rfl rfl ?_)
 obtain ⟨u2, q2, h⟩ := bind_some h
 refine .rem (m := a) (m' := b) rfl rfl (nz_ne q2) rfl (.assign (v := (vi (a.tmod b))) rfl rfl ?_)
 apply Ops.nil
 replace H := H.all
 apply Runs.then
 obtain ⟨y1, hj1, h⟩ := bind_some h
 refine .mono (Q := fun x e σ => x = .normal ∧ EnvHas e [(6, (vi y1.1)), (7, (vi y1.2))] ∧ Hs σ []) ?_ ?_
 ·replace h := hj1
  apply Runs.then
  refine .regionH 2 rfl H ?_; intro b4 σ H
  refine .move (v := (vi (a.tmod b))) rfl rfl (.int (m := (a.tmod b)) (m' := 0) (r := .bool (decide ((a.tmod b) < 0))) rfl rfl rfl rfl rfl ?_)
  apply Ops.nil
  replace H := H.all
  refine .whether (v := (decide ((a.tmod b) < 0))) rfl ?_ ?_ <;> intro hc1
  ·replace h := cond_T hc1 h
   apply Runs.then
   refine .regionH 3 rfl H ?_; intro b5 σ H
   refine .move (v := (vi (w64 (a.tdiv b)))) rfl rfl (.int (m := (w64 (a.tdiv b))) (m' := 1) (r := .int .i64 (w64 ((w64 (a.tdiv b)) - 1))) rfl rfl rfl rfl rfl (.assign (v := (vi (w64 ((w64 (a.tdiv b)) - 1)))) rfl rfl ?_))
   apply Ops.nil
   replace H := H.all
   refine .regionH 4 rfl H ?_; intro b6 σ H
   refine .move (v := (vi (a.tmod b))) rfl rfl (.move (v := (vi b)) rfl rfl (.int (m := (a.tmod b)) (m' := b) (r := .int .i64 (w64 ((a.tmod b) + b))) rfl rfl rfl rfl rfl (.assign (v := (vi (w64 ((a.tmod b) + b)))) rfl rfl ?_)))
   apply Ops.nil
   replace H := H.all
   replace h := Option.some.inj h; subst h
   exact ⟨rfl, ⟨rfl, rfl, trivial⟩, H⟩
  ·replace h := cond_F hc1 h
   apply Runs.skip
   replace h := Option.some.inj h; subst h
   exact ⟨rfl, ⟨rfl, rfl, trivial⟩, H⟩
 ·rintro x e σ ⟨rfl, he, H⟩
  obtain ⟨e, rfl⟩ := he.ex
  apply Runs.then
  refine .regionH 4 rfl H ?_; intro b7 σ H
  refine .move (v := (vi y1.1)) rfl rfl (.move (v := (vi y1.2)) rfl rfl (.assign (v := (vi y1.1)) rfl rfl (.assign (v := (vi y1.2)) rfl rfl ?_)))
  apply Ops.nil
  replace H := H.all
  apply Runs.ret
  replace h := Option.some.inj h; subst h
  exact (Ends.H (xs := [(vi y1.1), (vi y1.2)]) (.inr rfl) H (.tmp (v := (vi y1.1)) rfl (.tmp (v := (vi y1.2)) rfl .nil)) (.two (.cons (.c (.v _)) (.cons (.c (.v _)) .nil))))

theorem epactref05_set_fn {f : Form} {i : Int} {r : (List Span) × Int} (h : epactref05_set f i = some r) : Fn CX 95 [(.agg (vs (Form.cs f))), (vi i)] (.tup [(vl Span.cs r.1), (vi r.2)]) := by
 refine Fn.ends Try.func95 rfl rfl rfl rfl rfl rfl ?_
 have H : Hs (⟨0, fun _ => .none⟩ : Heap) [] := Has.nil (Nat.le_refl _)
 generalize (⟨0, fun _ => .none⟩ : Heap) = σ at H ⊢
 unfold epactref05_set at h
 apply Runs.then
 refine .regionH 3 rfl H ?_; intro b1 σ H
 refine .boxH (cs := (vF f)) H (by omega) (by omega) rfl rfl rfl ?_; intro σ H
 refine .assign (v := .nils) rfl rfl (.assign (v := (vi 0)) rfl rfl ?_)
 apply Ops.nil
 replace H := H.all
 apply Runs.then
 apply Runs.then
 refine .regionH 1 rfl H ?_; intro b2 σ H
 refine .assign (v := (vi 0)) rfl rfl ?_
 apply Ops.nil
 replace H := H.all
 apply Runs.inBlock
 obtain ⟨y1, hj1, h⟩ := bind_some h
 obtain ⟨n1, hj1⟩ := loopO_iff.1 hj1
 refine .mono (Runs.loopO hj1 (fun s1 e σ => EnvHas e [(1, (vi i)), (2, (.ptr (b1 + 0) 4 0)), (6, (vi s1))] ∧ Hs σ [.blk (b1 + 0) 25 (vF f)]) (fun y1 x e σ => (∃ a1, y1 = (.go a1) ∧ x = .exit 0 ∧ EnvHas e [(1, (vi i)), (2, (.ptr (b1 + 0) 4 0))] ∧ Hs σ [.blk (b1 + 0) 25 (vF f)]) ∨ (∃ r', y1 = (.ret r') ∧ x = .ret ∧ Ends CX Try.f95.results.toList (.tup [(vl Span.cs r'.1), (vi r'.2)]) x e σ)) ⟨⟨rfl, rfl, rfl, trivial⟩, H⟩ ?_) ?_
 ·intro s1 e σ hI z h
  obtain ⟨he, H⟩ := hI
  obtain ⟨e, rfl⟩ := he.ex
  unfold epactref05_set.s0 at h
  apply Runs.then
  apply Runs.then
  refine .regionH 5 rfl H ?_; intro b3 σ H
  refine .move (v := (vi s1)) rfl rfl (.fieldAddrH (off := 0) (fo := 3) H 0 rfl rfl rfl rfl rfl nofun rfl (.loadH (off := 3) (v := (vl Granule.cs f.Odd)) H 0 rfl rfl rfl rfl rfl nofun rfl (.lenPt (c := Granule.cs) (xs := f.Odd) rfl rfl rfl ?_)))
  refine .int (m := s1) (m' := (f.Odd.length : Int)) (r := .bool (decide (s1 < (f.Odd.length : Int)))) rfl rfl rfl rfl rfl ?_
  apply Ops.nil
  replace H := H.all
  refine .whether (v := (decide (s1 < (f.Odd.length : Int)))) rfl ?_ ?_ <;> intro hc1
  ·replace h := cond_T hc1 h
   apply Runs.skip
   apply Runs.then
   apply Runs.inBlock
   apply Runs.then
   refine .regionH 8 rfl H ?_; intro b4 σ H
   refine .fieldAddrH (off := 0) (fo := 3) H 0 rfl rfl rfl rfl rfl nofun rfl (.loadH (off := 3) (v := (vl Granule.cs f.Odd)) H 0 rfl rfl rfl rfl rfl nofun rfl (.move (v := (vi s1)) rfl rfl ?_))
   obtain ⟨x1, q1, h⟩ := bind_some h
   refine .indexP (c := Granule.cs) (u := x1) rfl rfl q1 rfl rfl rfl rfl (.fieldAddrP rfl rfl rfl rfl (.loadP (u := (.int .i64 x1.Index)) rfl rfl rfl rfl (.move (v := (vi i)) rfl rfl ?_)))
   refine .int (m := x1.Index) (m' := i) (r := .bool (x1.Index == i)) rfl rfl rfl rfl rfl ?_
   apply Ops.nil
   replace H := H.all
   refine .whether (v := (x1.Index == i)) rfl ?_ ?_ <;> intro hc2
   ·replace h := cond_T hc2 h
    apply Runs.then
    refine .regionH 8 rfl H ?_; intro b5 σ H
    refine .fieldAddrH (off := 0) (fo := 3) H 0 rfl rfl rfl rfl rfl nofun rfl (.loadH (off := 3) (v := (vl Granule.cs f.Odd)) H 0 rfl rfl rfl rfl rfl nofun rfl (.move (v := (vi s1)) rfl rfl ?_))
    obtain ⟨x2, q2, h⟩ := bind_some h
    refine .indexP (c := Granule.cs) (u := x2) rfl rfl q2 rfl rfl rfl rfl (.fieldAddrP rfl rfl rfl rfl (.loadP (u := (.sl (x2.Ticks.map Span.cs))) rfl rfl rfl rfl (.assign (v := (vl Span.cs x2.Ticks)) rfl rfl ?_)))
    refine .assign (v := (vi 0)) rfl rfl ?_
    apply Ops.nil
    replace H := H.all
    apply Runs.ret
    replace h := Option.some.inj h; subst h
    exact ⟨nofun, (.inr ⟨_, rfl, rfl, (Ends.H (xs := [(vl Span.cs x2.Ticks), (vi 0)]) (.inr rfl) H (.tmp (v := (vl Span.cs x2.Ticks)) rfl (.tmp (v := (vi 0)) rfl .nil)) (.two (.cons (.c (.v _)) (.cons (.c (.v _)) .nil))))⟩)⟩
   ·replace h := cond_F hc2 h
    apply Runs.skip
    refine .regionH 3 rfl H ?_; intro b6 σ H
    refine .move (v := (vi s1)) rfl rfl (.int (m := s1) (m' := 1) (r := .int .i64 (w64 (s1 + 1))) rfl rfl rfl rfl rfl (.assign (v := (vi (w64 (s1 + 1)))) rfl rfl ?_))
    apply Ops.nil
    replace H := H.all
    replace h := Option.some.inj h; subst h
    exact ⟨rfl, ⟨rfl, rfl, rfl, trivial⟩, H⟩
  ·replace h := cond_F hc1 h
   apply Runs.exit
   replace h := Option.some.inj h; subst h
   exact ⟨nofun, (.inl ⟨_, rfl, rfl, ⟨rfl, rfl, trivial⟩, H⟩)⟩
 ·rintro x e σ (⟨a2, rfl, rfl, he, H⟩ | ⟨r', rfl, rfl, hE⟩)
  ·skip
   replace h := jgo h
   obtain ⟨e, rfl⟩ := he.ex
   apply Runs.then
   apply Runs.then
   refine .regionH 3 rfl H ?_; intro b7 σ H
   refine .fieldAddrH (off := 0) (fo := 1) H 0 rfl rfl rfl rfl rfl nofun rfl (.loadH (off := 1) (v := (vi f.Count)) H 0 rfl rfl rfl rfl rfl nofun rfl (.int (m := f.Count) (m' := 0) (r := .bool (f.Count == 0)) rfl rfl rfl rfl rfl ?_))
   apply Ops.nil
   replace H := H.all
   refine .whether (v := (f.Count == 0)) rfl ?_ ?_ <;> intro hc3
   ·replace h := cond_T hc3 h
    apply Runs.then
    refine .regionH 2 rfl H ?_; intro b8 σ H
    refine .assign (v := .nils) rfl rfl (.assign (v := (vi 0)) rfl rfl ?_)
    apply Ops.nil
    replace H := H.all
    apply Runs.ret
    replace h := Option.some.inj h; subst h
    exact (Ends.H (xs := [.nils, (vi 0)]) (.inr rfl) H (.tmp (v := .nils) rfl (.tmp (v := (vi 0)) rfl .nil)) (.two (.cons (.c .n) (.cons (.c (.v _)) .nil))))
   ·replace h := cond_F hc3 h
    apply Runs.skip
    apply Runs.then
    refine .regionH 9 rfl H ?_; intro b9 σ H
    refine .move (v := (vi i)) rfl rfl (.fieldAddrH (off := 0) (fo := 1) H 0 rfl rfl rfl rfl rfl nofun rfl (.loadH (off := 1) (v := (vi f.Count)) H 0 rfl rfl rfl rfl rfl nofun rfl ?_))
    obtain ⟨x3, q3, h⟩ := bind_some h
    refine .call (ys := [(vi i), (vi f.Count)]) (r := (.tup [(vi x3.1), (vi x3.2)])) rfl (epactref05_Down_fn q3) rfl (.move (v := (.tup [(vi x3.1), (vi x3.2)])) rfl rfl (.extract (v := (vi x3.1)) rfl rfl rfl (.extract (v := (vi x3.2)) rfl rfl rfl ?_)))
    refine .assign (v := (vi x3.1)) rfl rfl (.assign (v := (vi x3.2)) rfl rfl ?_)
    apply Ops.nil
    replace H := H.all
    apply Runs.then
    refine .regionH 8 rfl H ?_; intro b10 σ H
    refine .fieldAddrH (off := 0) (fo := 2) H 0 rfl rfl rfl rfl rfl nofun rfl (.loadH (off := 2) (v := (vl (cL Span.cs) f.Core)) H 0 rfl rfl rfl rfl rfl nofun rfl (.move (v := (vi x3.2)) rfl rfl ?_))
    obtain ⟨x4, q4, h⟩ := bind_some h
    refine .indexP (c := (cL Span.cs)) (u := x4) rfl rfl q4 rfl rfl rfl rfl (.loadP (u := (.sl (x4.map Span.cs))) rfl rfl rfl rfl (.move (v := (vi x3.1)) rfl rfl (.assign (v := (vl Span.cs x4)) rfl rfl ?_)))
    refine .assign (v := (vi x3.1)) rfl rfl ?_
    apply Ops.nil
    replace H := H.all
    apply Runs.ret
    replace h := Option.some.inj h; subst h
    exact (Ends.H (xs := [(vl Span.cs x4), (vi x3.1)]) (.inr rfl) H (.tmp (v := (vl Span.cs x4)) rfl (.tmp (v := (vi x3.1)) rfl .nil)) (.two (.cons (.c (.v _)) (.cons (.c (.v _)) .nil))))
  ·skip
   replace h := jret h
   replace h := Option.some.inj h; subst h
   exact hE

theorem epactref02_Move_fn {l : (List Span)} {by' : Int} {r : (List Span) × Int} (h : epactref02_Move l by' = some r) : Fn CX 96 [(vl Span.cs l), (vi by')] (.tup [(vl Span.cs r.1), (vi r.2)]) := by
 refine Fn.ends Try.func96 rfl rfl rfl rfl rfl rfl ?_
 have H : Hs (⟨0, fun _ => .none⟩ : Heap) [] := Has.nil (Nat.le_refl _)
 generalize (⟨0, fun _ => .none⟩ : Heap) = σ at H ⊢
 unfold epactref02_Move at h
 apply Runs.then
 refine .regionH 2 rfl H ?_; intro b1 σ H
 refine .assign (v := .nils) rfl rfl (.assign (v := (vi 0)) rfl rfl ?_)
 apply Ops.nil
 replace H := H.all
 apply Runs.then
 refine .regionH 1 rfl H ?_; intro b2 σ H
 refine .assign (v := .nils) rfl rfl ?_
 apply Ops.nil
 replace H := H.all
 apply Runs.then
 apply Runs.then
 refine .regionH 1 rfl H ?_; intro b3 σ H
 refine .assign (v := (vi 0)) rfl rfl ?_
 apply Ops.nil
 replace H := H.all
 apply Runs.inBlock
 replace H := H.pushNil 43 2 true
 obtain ⟨y1, hj1, h⟩ := bind_some h
 obtain ⟨n1, hj1⟩ := loopO_iff.1 hj1
 refine .mono (Runs.loopO hj1 (fun s2 e σ => ∃ (w3 : PV), EnvHas e [(0, (vl Span.cs l)), (1, (vi by')), (6, w3), (7, (vi s2.1))] ∧ Hs σ [.sl w3 43 2 (s2.2.map Span.cs) true]) (fun y1 x e σ => (∃ a1, ∃ (w4 : PV), y1 = (.go a1) ∧ x = .exit 0 ∧ EnvHas e [(6, w4)] ∧ Hs σ [.sl w4 43 2 (a1.map Span.cs) true]) ∨ (∃ r', y1 = (.ret r') ∧ x = .ret ∧ Ends CX Try.f96.results.toList (.tup [(vl Span.cs r'.1), (vi r'.2)]) x e σ)) ⟨.nils, ⟨rfl, rfl, rfl, rfl, trivial⟩, H⟩ ?_) ?_
 ·intro s2 e σ hI z h
  obtain ⟨w3, he, H⟩ := hI
  obtain ⟨e, rfl⟩ := he.ex
  unfold epactref02_Move.s0 at h
  apply Runs.then
  apply Runs.then
  refine .regionH 4 rfl H ?_; intro b4 σ H
  refine .move (v := (vi s2.1)) rfl rfl (.move (v := (vl Span.cs l)) rfl rfl (.lenPt (c := Span.cs) (xs := l) rfl rfl rfl (.int (m := s2.1) (m' := (l.length : Int)) (r := .bool (decide (s2.1 < (l.length : Int)))) rfl rfl rfl rfl rfl ?_)))
  apply Ops.nil
  replace H := H.all
  refine .whether (v := (decide (s2.1 < (l.length : Int)))) rfl ?_ ?_ <;> intro hc1
  ·replace h := cond_T hc1 h
   apply Runs.skip
   apply Runs.then
   apply Runs.inBlock
   apply Runs.then
   apply Runs.then
   refine .regionH 18 rfl H ?_; intro b5 σ H
   refine .move (v := (vi by')) rfl rfl (.move (v := (vl Span.cs l)) rfl rfl (.move (v := (vi s2.1)) rfl rfl ?_))
   obtain ⟨x1, q1, h⟩ := bind_some h
   refine .indexP (c := Span.cs) (u := x1) rfl rfl q1 rfl rfl rfl rfl (.fieldAddrP rfl rfl rfl rfl (.loadP (u := (.int .i64 x1.To)) rfl rfl rfl rfl (.int (m := 1099511627776) (m' := x1.To) (r := .int .i64 (w64 (1099511627776 - x1.To))) rfl rfl rfl rfl rfl ?_)))
   refine .int (m := by') (m' := (w64 (1099511627776 - x1.To))) (r := .bool (decide (by' > (w64 (1099511627776 - x1.To))))) rfl rfl rfl rfl rfl (.move (v := (vb (decide (by' > (w64 (1099511627776 - x1.To)))))) rfl rfl ?_)
   obtain ⟨y2, hj2, h⟩ := bind_some h
   refine .mid 9 (K1 := fun e σ => EnvHas e [(31, (vb y2)), (0, (vl Span.cs l)), (1, (vi by')), (6, w3), (7, (vi s2.1))] ∧ Has σ (b5 + 18) (b5 + 18) [.sl w3 43 2 (s2.2.map Span.cs) true]) rfl ?_ ?_
   ·refine .split rfl rfl ?_ ?_ <;> intro hc2
    ·replace h := cond_T hc2 hj2
     refine .pass rfl rfl rfl (.pass rfl rfl rfl (.pass rfl rfl rfl (.pass rfl rfl rfl ?_)))
     refine .pass rfl rfl rfl (.pass rfl rfl rfl (.pass rfl rfl rfl (.pass rfl rfl rfl ?_)))
     refine .pickT (v := (vb true)) rfl rfl rfl ?_
     apply Ops.nil
     replace h := Option.some.inj h; subst h
     exact ⟨⟨rfl, rfl, rfl, rfl, rfl, trivial⟩, H.weak (by omega) (Nat.le_refl _)⟩
    ·replace h := cond_F hc2 hj2
     refine .wanted rfl rfl (.move (v := (vi by')) rfl rfl (.wanted rfl rfl (.move (v := (vl Span.cs l)) rfl rfl ?_)))
     refine .wanted rfl rfl (.move (v := (vi s2.1)) rfl rfl (.wanted rfl rfl ?_))
     obtain ⟨x2, q2, h⟩ := bind_some h
     refine .indexP (c := Span.cs) (u := x2) rfl rfl q2 rfl rfl rfl rfl (.wanted rfl rfl (.fieldAddrP rfl rfl rfl rfl (.wanted rfl rfl ?_)))
     refine .loadP (u := (.int .i64 x2.From)) rfl rfl rfl rfl (.wanted rfl rfl (.int (m := (-1099511627776)) (m' := x2.From) (r := .int .i64 (w64 ((-1099511627776) - x2.From))) rfl rfl rfl rfl rfl (.wanted rfl rfl ?_)))
     refine .int (m := by') (m' := (w64 ((-1099511627776) - x2.From))) (r := .bool (decide (by' < (w64 ((-1099511627776) - x2.From))))) rfl rfl rfl rfl rfl (.pickF (v := (vb (decide (by' < (w64 ((-1099511627776) - x2.From)))))) rfl rfl rfl ?_)
     apply Ops.nil
     replace h := Option.some.inj h; subst h
     exact ⟨⟨rfl, rfl, rfl, rfl, rfl, trivial⟩, H.weak (by omega) (Nat.le_refl _)⟩
   ·rintro e σ ⟨he, H⟩
    obtain ⟨e, rfl⟩ := he.ex
    apply Ops.nil
    replace H := H.all
    refine .whether (v := y2) rfl ?_ ?_ <;> intro hc3
    ·replace h := cond_T hc3 h
     apply Runs.then
     refine .regionH 2 rfl H ?_; intro b6 σ H
     refine .assign (v := .nils) rfl rfl (.assign (v := (vi 20)) rfl rfl ?_)
     apply Ops.nil
     replace H := H.all
     apply Runs.ret
     replace h := Option.some.inj h; subst h
     exact ⟨nofun, (.inr ⟨_, rfl, rfl, (Ends.H (xs := [.nils, (vi 20)]) (.inr rfl) H (.tmp (v := .nils) rfl (.tmp (v := (vi 20)) rfl .nil)) (.two (.cons (.c .n) (.cons (.c (.v _)) .nil))))⟩)⟩
    ·replace h := cond_F hc3 h
     apply Runs.skip
     refine .drawnH 19 rfl (by kernel_rfl) H ?_; intro b7 σ H B7
     refine .move (v := w3) rfl rfl (.move (v := (vl Span.cs l)) rfl rfl (.move (v := (vi s2.1)) rfl rfl ?_))
     obtain ⟨x3, q3, h⟩ := bind_some h
     refine .indexP (c := Span.cs) (u := x3) rfl rfl q3 rfl rfl rfl rfl (.fieldAddrP rfl rfl rfl rfl (.loadP (u := (.int .i64 x3.From)) rfl rfl rfl rfl (.move (v := (vi by')) rfl rfl ?_)))
     refine .int (m := x3.From) (m' := by') (r := .int .i64 (w64 (x3.From + by'))) rfl rfl rfl rfl rfl (.move (v := (vl Span.cs l)) rfl rfl (.move (v := (vi s2.1)) rfl rfl ?_))
     obtain ⟨x4, q4, h⟩ := bind_some h
     refine .indexP (c := Span.cs) (u := x4) rfl rfl q4 rfl rfl rfl rfl (.fieldAddrP rfl rfl rfl rfl (.loadP (u := (.int .i64 x4.To)) rfl rfl rfl rfl (.move (v := (vi by')) rfl rfl ?_)))
     refine .int (m := x4.To) (m' := by') (r := .int .i64 (w64 (x4.To + by'))) rfl rfl rfl rfl rfl (.buildA (cs := [(vi (w64 (x3.From + by'))), (vi (w64 (x4.To + by')))]) rfl rfl (.buildS (sz := 2) ([(Span.mk (w64 (x3.From + by')) (w64 (x4.To + by')))].map Span.cs) H (by omega) (by omega) rfl rfl rfl rfl rfl rfl rfl rfl rfl ?_)); intro σ H
     obtain ⟨x5, q5, h⟩ := bind_some h
     refine .appendSt (c := Span.cs) (v := w3) (w := (.buf (b7 + 16) 1 2)) (xs := s2.2) (ys := [(Span.mk (w64 (x3.From + by')) (w64 (x4.To + by')))]) H (by omega) (by omega) 1 rfl rfl rfl (.s 0 rfl) q5 rfl rfl rfl rfl rfl (fun h => ⟨(fun id ho => .inl ⟨B7 0 _ rfl id ho, (fun _ => by kernel_rfl)⟩), (fun id ho => .inr ⟨16, (by cases ho; rfl), (fun h => nomatch h), by kernel_rfl, by decide⟩)⟩) rfl ?_; intro w5 σ H
     refine .assign (v := w5) rfl rfl ?_
     apply Ops.nil
     replace H := H.all
     refine .regionH 3 rfl H ?_; intro b8 σ H
     refine .move (v := (vi s2.1)) rfl rfl (.int (m := s2.1) (m' := 1) (r := .int .i64 (w64 (s2.1 + 1))) rfl rfl rfl rfl rfl (.assign (v := (vi (w64 (s2.1 + 1)))) rfl rfl ?_))
     apply Ops.nil
     replace H := H.all
     replace h := Option.some.inj h; subst h
     exact ⟨rfl, w5, ⟨rfl, rfl, rfl, rfl, trivial⟩, (H.erase 0)⟩
  ·replace h := cond_F hc1 h
   apply Runs.exit
   replace h := Option.some.inj h; subst h
   exact ⟨nofun, (.inl ⟨_, w3, rfl, rfl, ⟨rfl, trivial⟩, H⟩)⟩
 ·rintro x e σ (⟨a2, w6, rfl, rfl, he, H⟩ | ⟨r', rfl, rfl, hE⟩)
  ·skip
   replace h := jgo h
   obtain ⟨e, rfl⟩ := he.ex
   apply Runs.then
   refine .regionH 3 rfl H ?_; intro b9 σ H
   refine .move (v := w6) rfl rfl (.assign (v := w6) rfl rfl (.assign (v := (vi 0)) rfl rfl ?_))
   apply Ops.nil
   replace H := H.all
   apply Runs.ret
   replace h := Option.some.inj h; subst h
   exact (Ends.H (xs := [w6, (vi 0)]) (.inr rfl) H (.tmp (v := w6) rfl (.tmp (v := (vi 0)) rfl .nil)) (.two (.cons (.c (.s 0 rfl)) (.cons (.c (.v _)) .nil))))
  ·skip
   replace h := jret h
   replace h := Option.some.inj h; subst h
   exact hE

theorem epactref05_Get_fn {f : Form} {i : Int} {r : (List Span) × Int} (h : epactref05_Get f i = some r) : Fn CX 68 [(.agg (vs (Form.cs f))), (vi i)] (.tup [(vl Span.cs r.1), (vi r.2)]) := by
 refine Fn.ends Try.func68 rfl rfl rfl rfl rfl rfl ?_
 have H : Hs (⟨0, fun _ => .none⟩ : Heap) [] := Has.nil (Nat.le_refl _)
 generalize (⟨0, fun _ => .none⟩ : Heap) = σ at H ⊢
 unfold epactref05_Get at h
 apply Runs.then
 refine .regionH 3 rfl H ?_; intro b1 σ H
 refine .boxH (cs := (vF f)) H (by omega) (by omega) rfl rfl rfl ?_; intro σ H
 refine .assign (v := .nils) rfl rfl (.assign (v := (vi 0)) rfl rfl ?_)
 apply Ops.nil
 replace H := H.all
 apply Runs.then
 apply Runs.then
 refine .regionH 6 rfl H ?_; intro b2 σ H
 refine .move (v := (vi i)) rfl rfl (.int (m := i) (m' := (-1099511627776)) (r := .bool (decide (i < (-1099511627776)))) rfl rfl rfl rfl rfl (.move (v := (vb (decide (i < (-1099511627776))))) rfl rfl ?_))
 refine .mid 3 (K1 := fun e σ => EnvHas e [(13, (vb ((decide (i < (-1099511627776))) || (decide (i > 1099511627776))))), (1, (vi i)), (2, (.ptr (b1 + 0) 4 0))] ∧ Has σ (b2 + 6) (b2 + 6) [.blk (b1 + 0) 25 (vF f)]) rfl ?_ ?_
 ·refine .split rfl rfl ?_ ?_ <;> intro hc1
  ·skip
   refine .pass rfl rfl rfl (.pass rfl rfl rfl (.pickT (v := (vb true)) rfl rfl rfl ?_))
   apply Ops.nil
   exact ⟨⟨or_T hc1, rfl, rfl, trivial⟩, H.weak (by omega) (Nat.le_refl _)⟩
  ·skip
   refine .wanted rfl rfl (.move (v := (vi i)) rfl rfl (.wanted rfl rfl (.int (m := i) (m' := 1099511627776) (r := .bool (decide (i > 1099511627776))) rfl rfl rfl rfl rfl ?_)))
   refine .pickF (v := (vb (decide (i > 1099511627776)))) rfl rfl rfl ?_
   apply Ops.nil
   exact ⟨⟨or_F hc1, rfl, rfl, trivial⟩, H.weak (by omega) (Nat.le_refl _)⟩
 ·rintro e σ ⟨he, H⟩
  obtain ⟨e, rfl⟩ := he.ex
  apply Ops.nil
  replace H := H.all
  refine .whether (v := ((decide (i < (-1099511627776))) || (decide (i > 1099511627776)))) rfl ?_ ?_ <;> intro hc2
  ·replace h := cond_T hc2 h
   apply Runs.then
   refine .regionH 2 rfl H ?_; intro b3 σ H
   refine .assign (v := .nils) rfl rfl (.assign (v := (vi 20)) rfl rfl ?_)
   apply Ops.nil
   replace H := H.all
   apply Runs.ret
   replace h := Option.some.inj h; subst h
   exact (Ends.H (xs := [.nils, (vi 20)]) (.inr rfl) H (.tmp (v := .nils) rfl (.tmp (v := (vi 20)) rfl .nil)) (.two (.cons (.c .n) (.cons (.c (.v _)) .nil))))
  ·replace h := cond_F hc2 h
   apply Runs.skip
   apply Runs.then
   refine .regionH 8 rfl H ?_; intro b4 σ H
   refine .loadHA (off := 0) (cs := (vF f)) H 0 rfl rfl rfl rfl rfl rfl rfl nofun rfl (.move (v := (vi i)) rfl rfl ?_)
   obtain ⟨x1, q1, h⟩ := bind_some h
   refine .call (ys := [(.agg (vF f)), (vi i)]) (r := (.tup [(vl Span.cs x1.1), (vi x1.2)])) rfl (epactref05_set_fn q1) rfl (.move (v := (.tup [(vl Span.cs x1.1), (vi x1.2)])) rfl rfl (.extract (v := (vl Span.cs x1.1)) rfl rfl rfl (.extract (v := (vi x1.2)) rfl rfl rfl ?_)))
   refine .assign (v := (vl Span.cs x1.1)) rfl rfl (.assign (v := (vi x1.2)) rfl rfl ?_)
   apply Ops.nil
   replace H := H.all
   apply Runs.then
   apply Runs.then
   refine .regionH 7 rfl H ?_; intro b5 σ H
   refine .move (v := (vl Span.cs x1.1)) rfl rfl (.lenPt (c := Span.cs) (xs := x1.1) rfl rfl rfl (.int (m := (x1.1.length : Int)) (m' := 0) (r := .bool ((x1.1.length : Int) == 0)) rfl rfl rfl rfl rfl (.move (v := (vb ((x1.1.length : Int) == 0))) rfl rfl ?_)))
   refine .mid 3 (K1 := fun e σ => EnvHas e [(26, (vb (((x1.1.length : Int) == 0) || (x1.2 == 0)))), (2, (.ptr (b1 + 0) 4 0)), (6, (vl Span.cs x1.1)), (7, (vi x1.2))] ∧ Has σ (b5 + 7) (b5 + 7) [.blk (b1 + 0) 25 (vF f)]) rfl ?_ ?_
   ·refine .split rfl rfl ?_ ?_ <;> intro hc3
    ·skip
     refine .pass rfl rfl rfl (.pass rfl rfl rfl (.pickT (v := (vb true)) rfl rfl rfl ?_))
     apply Ops.nil
     exact ⟨⟨or_T hc3, rfl, rfl, rfl, trivial⟩, H.weak (by omega) (Nat.le_refl _)⟩
    ·skip
     refine .wanted rfl rfl (.move (v := (vi x1.2)) rfl rfl (.wanted rfl rfl (.int (m := x1.2) (m' := 0) (r := .bool (x1.2 == 0)) rfl rfl rfl rfl rfl ?_)))
     refine .pickF (v := (vb (x1.2 == 0))) rfl rfl rfl ?_
     apply Ops.nil
     exact ⟨⟨or_F hc3, rfl, rfl, rfl, trivial⟩, H.weak (by omega) (Nat.le_refl _)⟩
   ·rintro e σ ⟨he, H⟩
    obtain ⟨e, rfl⟩ := he.ex
    apply Ops.nil
    replace H := H.all
    refine .whether (v := (((x1.1.length : Int) == 0) || (x1.2 == 0))) rfl ?_ ?_ <;> intro hc4
    ·replace h := cond_T hc4 h
     apply Runs.then
     refine .regionH 5 rfl H ?_; intro b6 σ H
     refine .buildS (sz := 2) ([].map Span.cs) H (by omega) (by omega) rfl rfl rfl rfl rfl rfl rfl rfl rfl ?_; intro σ H
     refine .move (v := (vl Span.cs x1.1)) rfl rfl ?_
     obtain ⟨x2, q2, h⟩ := bind_some h
     refine .appendBt (c := Span.cs) (w := (vl Span.cs x1.1)) (xs := []) (ys := x1.1) H (by omega) (by omega) 0 rfl rfl rfl (.m (fun _ => rfl)) q2 rfl rfl rfl rfl rfl nofun rfl ?_; intro σ H
     refine .assign (v := (.buf (b6 + 0) x2.length 2)) rfl rfl (.assign (v := (vi 0)) rfl rfl ?_)
     apply Ops.nil
     replace H := H.all
     apply Runs.ret
     replace h := Option.some.inj h; subst h
     exact (Ends.H (xs := [(.buf (b6 + 0) x2.length 2), (vi 0)]) (.inr rfl) H (.tmp (v := (.buf (b6 + 0) x2.length 2)) rfl (.tmp (v := (vi 0)) rfl .nil)) (.two (.cons (.c (.s 0 rfl)) (.cons (.c (.v _)) .nil))))
    ·replace h := cond_F hc4 h
     apply Runs.skip
     apply Runs.then
     apply Runs.then
     refine .regionH 14 rfl H ?_; intro b7 σ H
     refine .move (v := (vi x1.2)) rfl rfl (.fieldAddrH (off := 0) (fo := 0) H 0 rfl rfl rfl rfl rfl nofun rfl (.loadH (off := 0) (v := (vi f.Period)) H 0 rfl rfl rfl rfl rfl nofun rfl ?_))
     obtain ⟨u1, q3, h⟩ := bind_some h
     refine .quo (m := 2199023255552) (m' := f.Period) rfl rfl (nz_ne q3) rfl (.int (m := (w64 ((2199023255552 : Int).tdiv f.Period))) (m' := 1) (r := .int .i64 (w64 ((w64 ((2199023255552 : Int).tdiv f.Period)) + 1))) rfl rfl rfl rfl rfl (.int (m := x1.2) (m' := (w64 ((w64 ((2199023255552 : Int).tdiv f.Period)) + 1))) (r := .bool (decide (x1.2 > (w64 ((w64 ((2199023255552 : Int).tdiv f.Period)) + 1))))) rfl rfl rfl rfl rfl (.move (v := (vb (decide (x1.2 > (w64 ((w64 ((2199023255552 : Int).tdiv f.Period)) + 1)))))) rfl rfl ?_)))
     obtain ⟨y1, hj1, h⟩ := bind_some h
     refine .mid 7 (K1 := fun e σ => EnvHas e [(43, (vb y1)), (2, (.ptr (b1 + 0) 4 0)), (6, (vl Span.cs x1.1)), (7, (vi x1.2))] ∧ Has σ (b7 + 14) (b7 + 14) [.blk (b1 + 0) 25 (vF f)]) rfl ?_ ?_
     ·refine .split rfl rfl ?_ ?_ <;> intro hc5
      ·replace h := cond_T hc5 hj1
       refine .pass rfl rfl rfl (.pass rfl rfl rfl (.pass rfl rfl rfl (.pass rfl rfl rfl ?_)))
       refine .pass rfl rfl rfl (.pass rfl rfl rfl (.pickT (v := (vb true)) rfl rfl rfl ?_))
       apply Ops.nil
       replace h := Option.some.inj h; subst h
       exact ⟨⟨rfl, rfl, rfl, rfl, trivial⟩, H.weak (by omega) (Nat.le_refl _)⟩
      ·replace h := cond_F hc5 hj1
       refine .wanted rfl rfl (.move (v := (vi x1.2)) rfl rfl (.wanted rfl rfl (.fieldAddrH (off := 0) (fo := 0) H 0 rfl rfl rfl rfl rfl nofun rfl ?_)))
       refine .wanted rfl rfl (.loadH (off := 0) (v := (vi f.Period)) H 0 rfl rfl rfl rfl rfl nofun rfl (.wanted rfl rfl ?_))
       obtain ⟨u2, q4, h⟩ := bind_some h
       refine .quo (m := (-2199023255552)) (m' := f.Period) rfl rfl (nz_ne q4) rfl (.wanted rfl rfl (.int (m := (w64 ((-2199023255552 : Int).tdiv f.Period))) (m' := 1) (r := .int .i64 (w64 ((w64 ((-2199023255552 : Int).tdiv f.Period)) - 1))) rfl rfl rfl rfl rfl (.wanted rfl rfl ?_)))
       refine .int (m := x1.2) (m' := (w64 ((w64 ((-2199023255552 : Int).tdiv f.Period)) - 1))) (r := .bool (decide (x1.2 < (w64 ((w64 ((-2199023255552 : Int).tdiv f.Period)) - 1))))) rfl rfl rfl rfl rfl (.pickF (v := (vb (decide (x1.2 < (w64 ((w64 ((-2199023255552 : Int).tdiv f.Period)) - 1)))))) rfl rfl rfl ?_)
       apply Ops.nil
       replace h := Option.some.inj h; subst h
       exact ⟨⟨rfl, rfl, rfl, rfl, trivial⟩, H.weak (by omega) (Nat.le_refl _)⟩
     ·rintro e σ ⟨he, H⟩
      obtain ⟨e, rfl⟩ := he.ex
      apply Ops.nil
      replace H := H.all
      refine .whether (v := y1) rfl ?_ ?_ <;> intro hc6
      ·replace h := cond_T hc6 h
       apply Runs.then
       refine .regionH 2 rfl H ?_; intro b8 σ H
       refine .assign (v := .nils) rfl rfl (.assign (v := (vi 20)) rfl rfl ?_)
       apply Ops.nil
       replace H := H.all
       apply Runs.ret
       replace h := Option.some.inj h; subst h
       exact (Ends.H (xs := [.nils, (vi 20)]) (.inr rfl) H (.tmp (v := .nils) rfl (.tmp (v := (vi 20)) rfl .nil)) (.two (.cons (.c .n) (.cons (.c (.v _)) .nil))))
      ·replace h := cond_F hc6 h
       apply Runs.skip
       apply Runs.then
       refine .regionH 10 rfl H ?_; intro b9 σ H
       refine .move (v := (vl Span.cs x1.1)) rfl rfl (.move (v := (vi x1.2)) rfl rfl (.fieldAddrH (off := 0) (fo := 0) H 0 rfl rfl rfl rfl rfl nofun rfl (.loadH (off := 0) (v := (vi f.Period)) H 0 rfl rfl rfl rfl rfl nofun rfl ?_)))
       refine .int (m := x1.2) (m' := f.Period) (r := .int .i64 (w64 (x1.2 * f.Period))) rfl rfl rfl rfl rfl ?_
       obtain ⟨x3, q5, h⟩ := bind_some h
       refine .call (ys := [(vl Span.cs x1.1), (vi (w64 (x1.2 * f.Period)))]) (r := (.tup [(vl Span.cs x3.1), (vi x3.2)])) rfl (epactref02_Move_fn q5) rfl (.extract (v := (vl Span.cs x3.1)) rfl rfl rfl (.extract (v := (vi x3.2)) rfl rfl rfl (.assign (v := (vl Span.cs x3.1)) rfl rfl ?_)))
       refine .assign (v := (vi x3.2)) rfl rfl ?_
       apply Ops.nil
       replace H := H.all
       apply Runs.ret
       replace h := Option.some.inj h; subst h
       exact (Ends.H (xs := [(vl Span.cs x3.1), (vi x3.2)]) (.inr rfl) H (.tmp (v := (vl Span.cs x3.1)) rfl (.tmp (v := (vi x3.2)) rfl .nil)) (.two (.cons (.c (.v _)) (.cons (.c (.v _)) .nil))))

theorem epactref25_behind_fn {f : Form} {i : Int} {to' : Int} {r : (List Span) × Bool} (h : epactref25_behind f i to' = some r) : Fn CX 69 [(.agg (vs (Form.cs f))), (vi i), (vi to')] (.tup [(vl Span.cs r.1), (vb r.2)]) := by
 refine Fn.ends Try.func69 rfl rfl rfl rfl rfl rfl ?_
 have H : Hs (⟨0, fun _ => .none⟩ : Heap) [] := Has.nil (Nat.le_refl _)
 generalize (⟨0, fun _ => .none⟩ : Heap) = σ at H ⊢
 unfold epactref25_behind at h
 apply Runs.then
 refine .regionH 3 rfl H ?_; intro b1 σ H
 refine .boxH (cs := (vF f)) H (by omega) (by omega) rfl rfl rfl ?_; intro σ H
 refine .assign (v := .nils) rfl rfl (.assign (v := (vb false)) rfl rfl ?_)
 apply Ops.nil
 replace H := H.all
 apply Runs.then
 apply Runs.then
 refine .regionH 2 rfl H ?_; intro b2 σ H
 refine .move (v := (vi i)) rfl rfl (.assign (v := (vi i)) rfl rfl ?_)
 apply Ops.nil
 replace H := H.all
 apply Runs.inBlock
 obtain ⟨y1, hj1, h⟩ := bind_some h
 obtain ⟨n1, hj1⟩ := loopO_iff.1 hj1
 refine .mono (Runs.loopO hj1 (fun s1 e σ => EnvHas e [(2, (vi to')), (3, (.ptr (b1 + 0) 4 0)), (8, (vi s1))] ∧ Hs σ [.blk (b1 + 0) 25 (vF f)]) (fun y1 x e σ => (∃ a1, y1 = (.go a1) ∧ x = .exit 0 ∧ EnvHas e [] ∧ Hs σ []) ∨ (∃ r', y1 = (.ret r') ∧ x = .ret ∧ Ends CX Try.f69.results.toList (.tup [(vl Span.cs r'.1), (vb r'.2)]) x e σ)) ⟨⟨rfl, rfl, rfl, trivial⟩, H⟩ ?_) ?_
 ·intro s1 e σ hI z h
  obtain ⟨he, H⟩ := hI
  obtain ⟨e, rfl⟩ := he.ex
  unfold epactref25_behind.s0 at h
  apply Runs.then
  apply Runs.then
  refine .regionH 3 rfl H ?_; intro b3 σ H
  refine .move (v := (vi s1)) rfl rfl (.move (v := (vi to')) rfl rfl (.int (m := s1) (m' := to') (r := .bool (decide (s1 ≤ to'))) rfl rfl rfl rfl rfl ?_))
  apply Ops.nil
  replace H := H.all
  refine .whether (v := (decide (s1 ≤ to'))) rfl ?_ ?_ <;> intro hc1
  ·replace h := cond_T hc1 h
   apply Runs.skip
   apply Runs.then
   apply Runs.inBlock
   apply Runs.then
   refine .regionH 8 rfl H ?_; intro b4 σ H
   refine .loadHA (off := 0) (cs := (vF f)) H 0 rfl rfl rfl rfl rfl rfl rfl nofun rfl (.move (v := (vi s1)) rfl rfl ?_)
   obtain ⟨x1, q1, h⟩ := bind_some h
   refine .call (ys := [(.agg (vF f)), (vi s1)]) (r := (.tup [(vl Span.cs x1.1), (vi x1.2)])) rfl (epactref05_Get_fn q1) rfl (.move (v := (.tup [(vl Span.cs x1.1), (vi x1.2)])) rfl rfl (.extract (v := (vl Span.cs x1.1)) rfl rfl rfl (.extract (v := (vi x1.2)) rfl rfl rfl ?_)))
   refine .assign (v := (vl Span.cs x1.1)) rfl rfl (.assign (v := (vi x1.2)) rfl rfl ?_)
   apply Ops.nil
   replace H := H.all
   apply Runs.then
   refine .regionH 7 rfl H ?_; intro b5 σ H
   refine .move (v := (vi x1.2)) rfl rfl (.int (m := x1.2) (m' := 0) (r := .bool (x1.2 == 0)) rfl rfl rfl rfl rfl (.move (v := (vb (x1.2 == 0))) rfl rfl ?_))
   refine .mid 4 (K1 := fun e σ => EnvHas e [(29, (vb ((x1.2 == 0) && (decide ((x1.1.length : Int) > 0))))), (2, (vi to')), (3, (.ptr (b1 + 0) 4 0)), (8, (vi s1)), (9, (vl Span.cs x1.1))] ∧ Has σ (b5 + 7) (b5 + 7) [.blk (b1 + 0) 25 (vF f)]) rfl ?_ ?_
   ·refine .split rfl rfl ?_ ?_ <;> intro hc2
    ·skip
     refine .wanted rfl rfl (.move (v := (vl Span.cs x1.1)) rfl rfl (.wanted rfl rfl (.lenPt (c := Span.cs) (xs := x1.1) rfl rfl rfl ?_)))
     refine .wanted rfl rfl (.int (m := (x1.1.length : Int)) (m' := 0) (r := .bool (decide ((x1.1.length : Int) > 0))) rfl rfl rfl rfl rfl (.pickT (v := (vb (decide ((x1.1.length : Int) > 0)))) rfl rfl rfl ?_))
     apply Ops.nil
     exact ⟨⟨and_T hc2, rfl, rfl, rfl, rfl, trivial⟩, H.weak (by omega) (Nat.le_refl _)⟩
    ·skip
     refine .pass rfl rfl rfl (.pass rfl rfl rfl (.pass rfl rfl rfl (.pickF (v := (vb false)) rfl rfl rfl ?_)))
     apply Ops.nil
     exact ⟨⟨and_F hc2, rfl, rfl, rfl, rfl, trivial⟩, H.weak (by omega) (Nat.le_refl _)⟩
   ·rintro e σ ⟨he, H⟩
    obtain ⟨e, rfl⟩ := he.ex
    apply Ops.nil
    replace H := H.all
    refine .whether (v := ((x1.2 == 0) && (decide ((x1.1.length : Int) > 0)))) rfl ?_ ?_ <;> intro hc3
    ·replace h := cond_T hc3 h
     apply Runs.then
     refine .regionH 3 rfl H ?_; intro b6 σ H
     refine .move (v := (vl Span.cs x1.1)) rfl rfl (.assign (v := (vl Span.cs x1.1)) rfl rfl (.assign (v := (vb true)) rfl rfl ?_))
     apply Ops.nil
     replace H := H.all
     apply Runs.ret
     replace h := Option.some.inj h; subst h
     exact ⟨nofun, (.inr ⟨_, rfl, rfl, (Ends.H (xs := [(vl Span.cs x1.1), (vb true)]) (.inr rfl) H (.tmp (v := (vl Span.cs x1.1)) rfl (.tmp (v := (vb true)) rfl .nil)) (.two (.cons (.c (.v _)) (.cons (.c (.v _)) .nil))))⟩)⟩
    ·replace h := cond_F hc3 h
     apply Runs.skip
     refine .regionH 3 rfl H ?_; intro b7 σ H
     refine .move (v := (vi s1)) rfl rfl (.int (m := s1) (m' := 1) (r := .int .i64 (w64 (s1 + 1))) rfl rfl rfl rfl rfl (.assign (v := (vi (w64 (s1 + 1)))) rfl rfl ?_))
     apply Ops.nil
     replace H := H.all
     replace h := Option.some.inj h; subst h
     exact ⟨rfl, ⟨rfl, rfl, rfl, trivial⟩, H⟩
  ·replace h := cond_F hc1 h
   apply Runs.exit
   replace h := Option.some.inj h; subst h
   exact ⟨nofun, (.inl ⟨_, rfl, rfl, trivial, (H.erase 0)⟩)⟩
 ·rintro x e σ (⟨a2, rfl, rfl, he, H⟩ | ⟨r', rfl, rfl, hE⟩)
  ·skip
   replace h := jgo h
   obtain ⟨e, rfl⟩ := he.ex
   apply Runs.then
   refine .regionH 2 rfl H ?_; intro b8 σ H
   refine .assign (v := .nils) rfl rfl (.assign (v := (vb false)) rfl rfl ?_)
   apply Ops.nil
   replace H := H.all
   apply Runs.ret
   replace h := Option.some.inj h; subst h
   exact (Ends.H (xs := [.nils, (vb false)]) (.inr rfl) H (.tmp (v := .nils) rfl (.tmp (v := (vb false)) rfl .nil)) (.two (.cons (.c .n) (.cons (.c (.v _)) .nil))))
  ·skip
   replace h := jret h
   replace h := Option.some.inj h; subst h
   exact hE

end Go.Dn

namespace Go.Dn
open Go Go.Proofs
set_option maxRecDepth 100000
set_option maxHeartbeats 4000000

theorem epactref25_Gap_fn {f : Form} {m : Int} {r : Int × Bool} (h : epactref25_Gap f m = some r) : Fn CX 44 [(.agg (vs (Form.cs f))), (vi m)] (.tup [(vi r.1), (vb r.2)]) := by
 refine Fn.ends Try.func44 rfl rfl rfl rfl rfl rfl ?_
 have H : Hs (⟨0, fun _ => .none⟩ : Heap) [] := Has.nil (Nat.le_refl _)
 generalize (⟨0, fun _ => .none⟩ : Heap) = σ at H ⊢
 unfold epactref25_Gap at h
 apply Runs.then
 refine .regionH 3 rfl H ?_; intro b1 σ H
 refine .boxH (cs := (vF f)) H (by omega) (by omega) rfl rfl rfl ?_; intro σ H
 refine .assign (v := (vi 0)) rfl rfl (.assign (v := (vb false)) rfl rfl ?_)
 apply Ops.nil
 replace H := H.all
 apply Runs.then
 refine .regionH 2 rfl H ?_; intro b2 σ H
 refine .assign (v := (vi 0)) rfl rfl (.assign (v := (vb false)) rfl rfl ?_)
 apply Ops.nil
 replace H := H.all
 apply Runs.then
 apply Runs.then
 refine .regionH 1 rfl H ?_; intro b3 σ H
 refine .assign (v := (vi (-600))) rfl rfl ?_
 apply Ops.nil
 replace H := H.all
 apply Runs.inBlock
 obtain ⟨y1, hj1, h⟩ := bind_some h
 obtain ⟨n1, hj1⟩ := loopO_iff.1 hj1
 refine .mono (Runs.loopO hj1 (fun s1 e σ => EnvHas e [(1, (vi m)), (2, (.ptr (b1 + 0) 4 0)), (6, (vi s1.1)), (7, (vb s1.2.1)), (8, (vi s1.2.2))] ∧ Hs σ [.blk (b1 + 0) 25 (vF f)]) (fun y1 x e σ => x = .exit 0 ∧ EnvHas e [(6, (vi y1.1)), (7, (vb y1.2))] ∧ Hs σ []) ⟨⟨rfl, rfl, rfl, rfl, rfl, trivial⟩, H⟩ ?_) ?_
 ·intro s1 e σ hI z h
  obtain ⟨he, H⟩ := hI
  obtain ⟨e, rfl⟩ := he.ex
  unfold epactref25_Gap.s0 at h
  apply Runs.then
  apply Runs.then
  refine .regionH 2 rfl H ?_; intro b4 σ H
  refine .move (v := (vi s1.2.2)) rfl rfl (.int (m := s1.2.2) (m' := 600) (r := .bool (decide (s1.2.2 ≤ 600))) rfl rfl rfl rfl rfl ?_)
  apply Ops.nil
  replace H := H.all
  refine .whether (v := (decide (s1.2.2 ≤ 600))) rfl ?_ ?_ <;> intro hc1
  ·replace h := cond_T hc1 h
   apply Runs.skip
   apply Runs.then
   obtain ⟨y2, hj2, h⟩ := bind_some h
   refine .mono (Q := fun x e σ => x = .normal ∧ EnvHas e [(1, (vi m)), (2, (.ptr (b1 + 0) 4 0)), (6, (vi y2.1)), (7, (vb y2.2)), (8, (vi s1.2.2))] ∧ Hs σ [.blk (b1 + 0) 25 (vF f)]) ?_ ?_
   ·replace h := hj2
    apply Runs.inBlock
    obtain ⟨y3, hj3, h⟩ := bind_some h
    refine .mono (Q := fun x e σ => (∃ a1, y3 = (.go a1) ∧ x = .normal ∧ EnvHas e [(1, (vi m)), (2, (.ptr (b1 + 0) 4 0)), (6, (vi a1.1)), (7, (vb a1.2)), (8, (vi s1.2.2))] ∧ Hs σ [.blk (b1 + 0) 25 (vF f)]) ∨ (∃ a2, y3 = (.ret a2) ∧ x = .exit 1 ∧ EnvHas e [(1, (vi m)), (2, (.ptr (b1 + 0) 4 0)), (6, (vi s1.1)), (7, (vb s1.2.1)), (8, (vi s1.2.2))] ∧ Hs σ [.blk (b1 + 0) 25 (vF f)])) ?_ ?_
    ·replace h := hj3
     apply Runs.then
     refine .regionH 8 rfl H ?_; intro b5 σ H
     refine .loadHA (off := 0) (cs := (vF f)) H 0 rfl rfl rfl rfl rfl rfl rfl nofun rfl (.move (v := (vi s1.2.2)) rfl rfl ?_)
     obtain ⟨x1, q1, h⟩ := bind_some h
     refine .call (ys := [(.agg (vF f)), (vi s1.2.2)]) (r := (.tup [(vl Span.cs x1.1), (vi x1.2)])) rfl (epactref05_Get_fn q1) rfl (.move (v := (.tup [(vl Span.cs x1.1), (vi x1.2)])) rfl rfl (.extract (v := (vl Span.cs x1.1)) rfl rfl rfl (.extract (v := (vi x1.2)) rfl rfl rfl ?_)))
     refine .assign (v := (vl Span.cs x1.1)) rfl rfl (.assign (v := (vi x1.2)) rfl rfl ?_)
     apply Ops.nil
     replace H := H.all
     apply Runs.then
     apply Runs.then
     refine .regionH 7 rfl H ?_; intro b6 σ H
     refine .move (v := (vi x1.2)) rfl rfl (.int (m := x1.2) (m' := 0) (r := .bool (x1.2 != 0)) rfl rfl rfl rfl rfl (.move (v := (vb (x1.2 != 0))) rfl rfl ?_))
     refine .mid 4 (K1 := fun e σ => EnvHas e [(30, (vb ((x1.2 != 0) || ((x1.1.length : Int) == 0)))), (1, (vi m)), (2, (.ptr (b1 + 0) 4 0)), (6, (vi s1.1)), (7, (vb s1.2.1)), (8, (vi s1.2.2)), (9, (vl Span.cs x1.1))] ∧ Has σ (b6 + 7) (b6 + 7) [.blk (b1 + 0) 25 (vF f)]) rfl ?_ ?_
     ·refine .split rfl rfl ?_ ?_ <;> intro hc2
      ·skip
       refine .pass rfl rfl rfl (.pass rfl rfl rfl (.pass rfl rfl rfl (.pickT (v := (vb true)) rfl rfl rfl ?_)))
       apply Ops.nil
       exact ⟨⟨or_T hc2, rfl, rfl, rfl, rfl, rfl, rfl, trivial⟩, H.weak (by omega) (Nat.le_refl _)⟩
      ·skip
       refine .wanted rfl rfl (.move (v := (vl Span.cs x1.1)) rfl rfl (.wanted rfl rfl (.lenPt (c := Span.cs) (xs := x1.1) rfl rfl rfl ?_)))
       refine .wanted rfl rfl (.int (m := (x1.1.length : Int)) (m' := 0) (r := .bool ((x1.1.length : Int) == 0)) rfl rfl rfl rfl rfl (.pickF (v := (vb ((x1.1.length : Int) == 0))) rfl rfl rfl ?_))
       apply Ops.nil
       exact ⟨⟨or_F hc2, rfl, rfl, rfl, rfl, rfl, rfl, trivial⟩, H.weak (by omega) (Nat.le_refl _)⟩
     ·rintro e σ ⟨he, H⟩
      obtain ⟨e, rfl⟩ := he.ex
      apply Ops.nil
      replace H := H.all
      refine .whether (v := ((x1.2 != 0) || ((x1.1.length : Int) == 0))) rfl ?_ ?_ <;> intro hc3
      ·replace h := cond_T hc3 h
       apply Runs.exit
       replace h := Option.some.inj h; subst h
       exact (.inr ⟨_, rfl, rfl, ⟨rfl, rfl, rfl, rfl, rfl, trivial⟩, H⟩)
      ·replace h := cond_F hc3 h
       apply Runs.skip
       apply Runs.then
       refine .regionH 15 rfl H ?_; intro b7 σ H
       refine .loadHA (off := 0) (cs := (vF f)) H 0 rfl rfl rfl rfl rfl rfl rfl nofun rfl (.move (v := (vi s1.2.2)) rfl rfl (.move (v := (vi m)) rfl rfl (.int (m := s1.2.2) (m' := m) (r := .int .i64 (w64 (s1.2.2 + m))) rfl rfl rfl rfl rfl ?_)))
       refine .move (v := (vi s1.2.2)) rfl rfl (.move (v := (vi m)) rfl rfl (.int (m := s1.2.2) (m' := m) (r := .int .i64 (w64 (s1.2.2 + m))) rfl rfl rfl rfl rfl (.int (m := (w64 (s1.2.2 + m))) (m' := 30) (r := .int .i64 (w64 ((w64 (s1.2.2 + m)) + 30))) rfl rfl rfl rfl rfl ?_)))
       refine .max2 rfl rfl rfl ?_
       obtain ⟨x2, q2, h⟩ := bind_some h
       refine .call (ys := [(.agg (vF f)), (vi (w64 (s1.2.2 + m))), (vi (iMax (w64 ((w64 (s1.2.2 + m)) + 30)) 130))]) (r := (.tup [(vl Span.cs x2.1), (vb x2.2)])) rfl (epactref25_behind_fn q2) rfl (.move (v := (.tup [(vl Span.cs x2.1), (vb x2.2)])) rfl rfl (.extract (v := (vl Span.cs x2.1)) rfl rfl rfl (.extract (v := (vb x2.2)) rfl rfl rfl ?_)))
       refine .assign (v := (vl Span.cs x2.1)) rfl rfl (.assign (v := (vb x2.2)) rfl rfl ?_)
       apply Ops.nil
       replace H := H.all
       apply Runs.then
       apply Runs.then
       refine .regionH 2 rfl H ?_; intro b8 σ H
       refine .move (v := (vb x2.2)) rfl rfl (.not (b := x2.2) rfl rfl ?_)
       apply Ops.nil
       replace H := H.all
       refine .whether (v := (!x2.2)) rfl ?_ ?_ <;> intro hc4
       ·replace h := cond_T hc4 h
        apply Runs.exit
        replace h := Option.some.inj h; subst h
        exact (.inr ⟨_, rfl, rfl, ⟨rfl, rfl, rfl, rfl, rfl, trivial⟩, H⟩)
       ·replace h := cond_F hc4 h
        apply Runs.skip
        apply Runs.then
        refine .drawnH 13 rfl (by kernel_rfl) H ?_; intro b9 σ H B9
        refine .move (v := (vl Span.cs x2.1)) rfl rfl ?_
        obtain ⟨x3, q3, h⟩ := bind_some h
        refine .indexP (c := Span.cs) (u := x3) rfl rfl q3 rfl rfl rfl rfl (.fieldAddrP rfl rfl rfl rfl (.loadP (u := (.int .i64 x3.From)) rfl rfl rfl rfl (.move (v := (vl Span.cs x1.1)) rfl rfl ?_)))
        refine .move (v := (vl Span.cs x1.1)) rfl rfl (.lenPt (c := Span.cs) (xs := x1.1) rfl rfl rfl (.int (m := (x1.1.length : Int)) (m' := 1) (r := .int .i64 (w64 ((x1.1.length : Int) - 1))) rfl rfl rfl rfl rfl ?_))
        obtain ⟨x4, q4, h⟩ := bind_some h
        refine .indexP (c := Span.cs) (u := x4) rfl rfl q4 rfl rfl rfl rfl (.fieldAddrP rfl rfl rfl rfl (.loadP (u := (.int .i64 x4.To)) rfl rfl rfl rfl (.int (m := x3.From) (m' := x4.To) (r := .int .i64 (w64 (x3.From - x4.To))) rfl rfl rfl rfl rfl ?_)))
        refine .assign (v := (vi (w64 (x3.From - x4.To)))) rfl rfl ?_
        apply Ops.nil
        replace H := H.all
        apply Runs.then
        refine .regionH 7 rfl H ?_; intro b10 σ H
        refine .move (v := (vb s1.2.1)) rfl rfl (.not (b := s1.2.1) rfl rfl (.move (v := (vb (!s1.2.1))) rfl rfl ?_))
        refine .mid 4 (K1 := fun e σ => EnvHas e [(64, (vb ((!s1.2.1) || (decide ((w64 (x3.From - x4.To)) < s1.1))))), (1, (vi m)), (2, (.ptr (b1 + 0) 4 0)), (6, (vi s1.1)), (7, (vb s1.2.1)), (8, (vi s1.2.2)), (13, (vi (w64 (x3.From - x4.To))))] ∧ Has σ (b10 + 7) (b10 + 7) [.blk (b1 + 0) 25 (vF f)]) rfl ?_ ?_
        ·refine .split rfl rfl ?_ ?_ <;> intro hc5
         ·skip
          refine .pass rfl rfl rfl (.pass rfl rfl rfl (.pass rfl rfl rfl (.pickT (v := (vb true)) rfl rfl rfl ?_)))
          apply Ops.nil
          exact ⟨⟨or_T hc5, rfl, rfl, rfl, rfl, rfl, rfl, trivial⟩, H.weak (by omega) (Nat.le_refl _)⟩
         ·skip
          refine .wanted rfl rfl (.move (v := (vi (w64 (x3.From - x4.To)))) rfl rfl (.wanted rfl rfl (.move (v := (vi s1.1)) rfl rfl ?_)))
          refine .wanted rfl rfl (.int (m := (w64 (x3.From - x4.To))) (m' := s1.1) (r := .bool (decide ((w64 (x3.From - x4.To)) < s1.1))) rfl rfl rfl rfl rfl (.pickF (v := (vb (decide ((w64 (x3.From - x4.To)) < s1.1)))) rfl rfl rfl ?_))
          apply Ops.nil
          exact ⟨⟨or_F hc5, rfl, rfl, rfl, rfl, rfl, rfl, trivial⟩, H.weak (by omega) (Nat.le_refl _)⟩
        ·rintro e σ ⟨he, H⟩
         obtain ⟨e, rfl⟩ := he.ex
         apply Ops.nil
         replace H := H.all
         refine .whether (v := ((!s1.2.1) || (decide ((w64 (x3.From - x4.To)) < s1.1)))) rfl ?_ ?_ <;> intro hc6
         ·replace h := cond_T hc6 h
          refine .regionH 3 rfl H ?_; intro b11 σ H
          refine .move (v := (vi (w64 (x3.From - x4.To)))) rfl rfl (.assign (v := (vi (w64 (x3.From - x4.To)))) rfl rfl (.assign (v := (vb true)) rfl rfl ?_))
          apply Ops.nil
          replace H := H.all
          replace h := Option.some.inj h; subst h
          exact (.inl ⟨_, rfl, rfl, ⟨rfl, rfl, rfl, rfl, rfl, trivial⟩, H⟩)
         ·replace h := cond_F hc6 h
          apply Runs.skip
          replace h := Option.some.inj h; subst h
          exact (.inl ⟨_, rfl, rfl, ⟨rfl, rfl, rfl, rfl, rfl, trivial⟩, H⟩)
    ·rintro x e σ (⟨a3, rfl, rfl, he, H⟩ | ⟨a4, rfl, rfl, he, H⟩)
     ·skip
      replace h := jgo h
      obtain ⟨e, rfl⟩ := he.ex
      replace h := Option.some.inj h; subst h
      exact ⟨rfl, ⟨rfl, rfl, rfl, rfl, rfl, trivial⟩, H⟩
     ·skip
      replace h := jret h
      obtain ⟨e, rfl⟩ := he.ex
      replace h := Option.some.inj h; subst h
      exact ⟨rfl, ⟨rfl, rfl, rfl, rfl, rfl, trivial⟩, H⟩
   ·rintro x e σ ⟨rfl, he, H⟩
    obtain ⟨e, rfl⟩ := he.ex
    refine .regionH 3 rfl H ?_; intro b12 σ H
    refine .move (v := (vi s1.2.2)) rfl rfl (.int (m := s1.2.2) (m' := 1) (r := .int .i64 (w64 (s1.2.2 + 1))) rfl rfl rfl rfl rfl (.assign (v := (vi (w64 (s1.2.2 + 1)))) rfl rfl ?_))
    apply Ops.nil
    replace H := H.all
    replace h := Option.some.inj h; subst h
    exact ⟨rfl, ⟨rfl, rfl, rfl, rfl, rfl, trivial⟩, H⟩
  ·replace h := cond_F hc1 h
   apply Runs.exit
   replace h := Option.some.inj h; subst h
   exact ⟨nofun, ⟨rfl, ⟨rfl, rfl, trivial⟩, (H.erase 0)⟩⟩
 ·rintro x e σ ⟨rfl, he, H⟩
  obtain ⟨e, rfl⟩ := he.ex
  apply Runs.then
  refine .regionH 4 rfl H ?_; intro b13 σ H
  refine .move (v := (vi y1.1)) rfl rfl (.move (v := (vb y1.2)) rfl rfl (.assign (v := (vi y1.1)) rfl rfl (.assign (v := (vb y1.2)) rfl rfl ?_)))
  apply Ops.nil
  replace H := H.all
  apply Runs.ret
  replace h := Option.some.inj h; subst h
  exact (Ends.H (xs := [(vi y1.1), (vb y1.2)]) (.inr rfl) H (.tmp (v := (vi y1.1)) rfl (.tmp (v := (vb y1.2)) rfl .nil)) (.two (.cons (.c (.v _)) (.cons (.c (.v _)) .nil))))

theorem epactref25_Low_fn {f : Form} {m : Int} {r : Bound} (h : epactref25_Low f m = some r) : Fn CX 14 [(.agg (vs (Form.cs f))), (vi m)] (.agg (vs (Bound.cs r))) := by
 refine Fn.ends Try.func14 rfl rfl rfl rfl rfl rfl ?_
 have H : Hs (⟨0, fun _ => .none⟩ : Heap) [] := Has.nil (Nat.le_refl _)
 generalize (⟨0, fun _ => .none⟩ : Heap) = σ at H ⊢
 unfold epactref25_Low at h
 apply Runs.then
 refine .regionH 2 rfl H ?_; intro b1 σ H
 refine .boxH (cs := (vF f)) H (by omega) (by omega) rfl rfl rfl ?_; intro σ H
 refine .allocH (cs := [(.v (.int .i8 0)), (vi 0)]) H (by omega) (by omega) rfl rfl ?_; intro σ H
 apply Ops.nil
 replace H := H.all
 apply Runs.then
 refine .regionH 8 rfl H ?_; intro b2 σ H
 refine .loadHA (off := 0) (cs := (vF f)) H 1 rfl rfl rfl rfl rfl rfl rfl nofun rfl (.move (v := (vi m)) rfl rfl ?_)
 obtain ⟨x1, q1, h⟩ := bind_some h
 refine .call (ys := [(.agg (vF f)), (vi m)]) (r := (.tup [(vi x1.1), (vb x1.2)])) rfl (epactref25_Gap_fn q1) rfl (.move (v := (.tup [(vi x1.1), (vb x1.2)])) rfl rfl (.extract (v := (vi x1.1)) rfl rfl rfl (.extract (v := (vb x1.2)) rfl rfl rfl ?_)))
 refine .assign (v := (vi x1.1)) rfl rfl (.assign (v := (vb x1.2)) rfl rfl ?_)
 apply Ops.nil
 replace H := H.all
 apply Runs.then
 apply Runs.then
 refine .regionH 6 rfl H ?_; intro b3 σ H
 refine .move (v := (vb x1.2)) rfl rfl (.not (b := x1.2) rfl rfl (.move (v := (vb (!x1.2))) rfl rfl ?_))
 refine .mid 3 (K1 := fun e σ => EnvHas e [(18, (vb ((!x1.2) || (decide (x1.1 > 1099511627776))))), (4, (.ptr (b1 + 1) 2 0)), (5, (vi x1.1))] ∧ Has σ (b3 + 6) (b3 + 6) [.blk (b1 + 1) 32 [(.v (.int .i8 0)), (vi 0)]]) rfl ?_ ?_
 ·refine .split rfl rfl ?_ ?_ <;> intro hc1
  ·skip
   refine .pass rfl rfl rfl (.pass rfl rfl rfl (.pickT (v := (vb true)) rfl rfl rfl ?_))
   apply Ops.nil
   exact ⟨⟨or_T hc1, rfl, rfl, trivial⟩, (H.erase 1).weak (by omega) (Nat.le_refl _)⟩
  ·skip
   refine .wanted rfl rfl (.move (v := (vi x1.1)) rfl rfl (.wanted rfl rfl (.int (m := x1.1) (m' := 1099511627776) (r := .bool (decide (x1.1 > 1099511627776))) rfl rfl rfl rfl rfl ?_)))
   refine .pickF (v := (vb (decide (x1.1 > 1099511627776)))) rfl rfl rfl ?_
   apply Ops.nil
   exact ⟨⟨or_F hc1, rfl, rfl, trivial⟩, (H.erase 1).weak (by omega) (Nat.le_refl _)⟩
 ·rintro e σ ⟨he, H⟩
  obtain ⟨e, rfl⟩ := he.ex
  apply Ops.nil
  replace H := H.all
  refine .whether (v := ((!x1.2) || (decide (x1.1 > 1099511627776)))) rfl ?_ ?_ <;> intro hc2
  ·replace h := cond_T hc2 h
   apply Runs.then
   refine .regionH 2 rfl H ?_; intro b4 σ H
   refine .buildA (cs := [(.v (.int .i8 0)), (vi 1099511627776)]) rfl rfl (.storeH (off := 0) (cells' := [(.v (.int .i8 0)), (vi 1099511627776)]) H 0 rfl rfl rfl rfl rfl rfl rfl rfl rfl nofun ?_); intro σ H
   apply Ops.nil
   replace H := H.all
   apply Runs.ret
   replace h := Option.some.inj h; subst h
   exact (Ends.H (xs := [(.agg [(.v (.int .i8 0)), (vi 1099511627776)])]) (.inr rfl) H (.agg (cs := [(.v (.int .i8 0)), (vi 1099511627776)]) (off := 0) 0 rfl rfl rfl rfl rfl rfl rfl .nil) (.one (.p rfl)))
  ·replace h := cond_F hc2 h
   apply Runs.skip
   apply Runs.then
   apply Runs.then
   refine .regionH 2 rfl H ?_; intro b5 σ H
   refine .move (v := (vi x1.1)) rfl rfl (.int (m := x1.1) (m' := (-1099511627776)) (r := .bool (decide (x1.1 ≤ (-1099511627776)))) rfl rfl rfl rfl rfl ?_)
   apply Ops.nil
   replace H := H.all
   refine .whether (v := (decide (x1.1 ≤ (-1099511627776)))) rfl ?_ ?_ <;> intro hc3
   ·replace h := cond_T hc3 h
    apply Runs.then
    refine .regionH 2 rfl H ?_; intro b6 σ H
    refine .buildA (cs := [(.v (.int .i8 (-1))), (vi 0)]) rfl rfl (.storeH (off := 0) (cells' := [(.v (.int .i8 (-1))), (vi 0)]) H 0 rfl rfl rfl rfl rfl rfl rfl rfl rfl nofun ?_); intro σ H
    apply Ops.nil
    replace H := H.all
    apply Runs.ret
    replace h := Option.some.inj h; subst h
    exact (Ends.H (xs := [(.agg [(.v (.int .i8 (-1))), (vi 0)])]) (.inr rfl) H (.agg (cs := [(.v (.int .i8 (-1))), (vi 0)]) (off := 0) 0 rfl rfl rfl rfl rfl rfl rfl .nil) (.one (.p rfl)))
   ·replace h := cond_F hc3 h
    apply Runs.skip
    apply Runs.then
    refine .regionH 3 rfl H ?_; intro b7 σ H
    refine .move (v := (vi x1.1)) rfl rfl (.buildA (cs := [(.v (.int .i8 0)), (vi x1.1)]) rfl rfl (.storeH (off := 0) (cells' := [(.v (.int .i8 0)), (vi x1.1)]) H 0 rfl rfl rfl rfl rfl rfl rfl rfl rfl nofun ?_)); intro σ H
    apply Ops.nil
    replace H := H.all
    apply Runs.ret
    replace h := Option.some.inj h; subst h
    exact (Ends.H (xs := [(.agg [(.v (.int .i8 0)), (vi x1.1)])]) (.inr rfl) H (.agg (cs := [(.v (.int .i8 0)), (vi x1.1)]) (off := 0) 0 rfl rfl rfl rfl rfl rfl rfl .nil) (.one (.p rfl)))

theorem epactref25_High_fn {f : Form} {n : Int} {r : Bound} (h : epactref25_High f n = some r) : Fn CX 15 [(.agg (vs (Form.cs f))), (vi n)] (.agg (vs (Bound.cs r))) := by
 refine Fn.ends Try.func15 rfl rfl rfl rfl rfl rfl ?_
 have H : Hs (⟨0, fun _ => .none⟩ : Heap) [] := Has.nil (Nat.le_refl _)
 generalize (⟨0, fun _ => .none⟩ : Heap) = σ at H ⊢
 unfold epactref25_High at h
 apply Runs.then
 refine .regionH 2 rfl H ?_; intro b1 σ H
 refine .boxH (cs := (vF f)) H (by omega) (by omega) rfl rfl rfl ?_; intro σ H
 refine .allocH (cs := [(.v (.int .i8 0)), (vi 0)]) H (by omega) (by omega) rfl rfl ?_; intro σ H
 apply Ops.nil
 replace H := H.all
 apply Runs.then
 refine .regionH 6 rfl H ?_; intro b2 σ H
 refine .loadHA (off := 0) (cs := (vF f)) H 1 rfl rfl rfl rfl rfl rfl rfl nofun rfl (.move (v := (vi n)) rfl rfl (.neg (m := n) rfl rfl ?_))
 obtain ⟨x1, q1, h⟩ := bind_some h
 refine .call (ys := [(.agg (vF f)), (vi (w64 (0 - n)))]) (r := (.agg [(.v (.int .i8 x1.Inf)), (vi x1.N)])) rfl (epactref25_Low_fn q1) rfl (.allocH (cs := [(.v (.int .i8 0)), (vi 0)]) H (by omega) (by omega) rfl rfl ?_); intro σ H
 refine .storeH (off := 0) (cells' := [(.v (.int .i8 x1.Inf)), (vi x1.N)]) H 0 rfl rfl rfl rfl rfl rfl rfl rfl rfl nofun ?_; intro σ H
 apply Ops.nil
 replace H := H.all
 apply Runs.then
 refine .regionH 8 rfl H ?_; intro b3 σ H
 refine .fieldAddrH (off := 0) (fo := 0) H 0 rfl rfl rfl rfl rfl nofun rfl (.loadH (off := 0) (v := (.v (.int .i8 x1.Inf))) H 0 rfl rfl rfl rfl rfl nofun rfl (.neg (m := x1.Inf) rfl rfl (.fieldAddrH (off := 0) (fo := 1) H 0 rfl rfl rfl rfl rfl nofun rfl ?_)))
 refine .loadH (off := 1) (v := (vi x1.N)) H 0 rfl rfl rfl rfl rfl nofun rfl (.neg (m := x1.N) rfl rfl (.buildA (cs := [(.v (.int .i8 (IntKind.i8.wrap (0 - x1.Inf)))), (vi (w64 (0 - x1.N)))]) rfl rfl (.storeH (off := 0) (cells' := [(.v (.int .i8 (IntKind.i8.wrap (0 - x1.Inf)))), (vi (w64 (0 - x1.N)))]) H 1 rfl rfl rfl rfl rfl rfl rfl rfl rfl nofun ?_))); intro σ H
 apply Ops.nil
 replace H := H.all
 apply Runs.ret
 replace h := Option.some.inj h; subst h
 exact (Ends.H (xs := [(.agg [(.v (.int .i8 (IntKind.i8.wrap (0 - x1.Inf)))), (vi (w64 (0 - x1.N)))])]) (.inr rfl) H (.agg (cs := [(.v (.int .i8 (IntKind.i8.wrap (0 - x1.Inf)))), (vi (w64 (0 - x1.N)))]) (off := 0) 1 rfl rfl rfl rfl rfl rfl rfl .nil) (.one (.p rfl)))

theorem epactlaw25_CarryTells_fn {f : Form} {r' : Range} {r : Bool} (h : epactlaw25_CarryTells f r' = some r) : Fn CX 3 [(.agg (vs (Form.cs f))), (.agg (vs (Range.cs r')))] (vb r) := by
 refine Fn.ends Try.func3 rfl rfl rfl rfl rfl rfl ?_
 have H : Hs (⟨0, fun _ => .none⟩ : Heap) [] := Has.nil (Nat.le_refl _)
 generalize (⟨0, fun _ => .none⟩ : Heap) = σ at H ⊢
 unfold epactlaw25_CarryTells at h
 apply Runs.then
 refine .regionH 3 rfl H ?_; intro b1 σ H
 refine .boxH (cs := (vF f)) H (by omega) (by omega) rfl rfl rfl ?_; intro σ H
 refine .boxH (cs := [(vi r'.Low), (vi r'.High), (vb r'.HasLow), (vb r'.HasHigh)]) H (by omega) (by omega) rfl rfl rfl ?_; intro σ H
 refine .assign (v := (vb false)) rfl rfl ?_
 apply Ops.nil
 replace H := H.all
 apply Runs.then
 apply Runs.then
 refine .regionH 3 rfl H ?_; intro b2 σ H
 refine .loadHA (off := 0) (cs := (vF f)) H 1 rfl rfl rfl rfl rfl rfl rfl nofun rfl ?_
 obtain ⟨x1, q1, h⟩ := bind_some h
 refine .call (ys := [(.agg (vF f))]) (r := (vb x1)) rfl (epactlaw23_Near_fn q1) rfl (.not (b := x1) rfl rfl ?_)
 apply Ops.nil
 replace H := H.all
 refine .whether (v := (!x1)) rfl ?_ ?_ <;> intro hc1
 ·replace h := cond_T hc1 h
  apply Runs.then
  refine .regionH 2 rfl H ?_; intro b3 σ H
  refine .call (ys := []) (r := (vb epactlaw25_awake)) rfl (epactlaw25_awake_fn rfl) rfl (.assign (v := (vb epactlaw25_awake)) rfl rfl ?_)
  apply Ops.nil
  replace H := H.all
  apply Runs.ret
  replace h := Option.some.inj h; subst h
  exact (Ends.H (xs := [(vb epactlaw25_awake)]) (.inr rfl) H (.tmp (v := (vb epactlaw25_awake)) rfl .nil) (.one (.c (.v _))))
 ·replace h := cond_F hc1 h
  apply Runs.skip
  apply Runs.then
  refine .drawnH 8 rfl (by kernel_rfl) H ?_; intro b4 σ H B4
  refine .fieldAddrH (off := 0) (fo := 0) H 0 rfl rfl rfl rfl rfl (fun _ => .inl ⟨B4 0 _ rfl _ rfl, nofun⟩) rfl (.loadH (off := 0) (v := (vi r'.Low)) H 0 rfl rfl rfl rfl rfl (fun _ => .inl ⟨B4 0 _ rfl _ rfl, nofun⟩) rfl (.rem (m := r'.Low) (m' := 200) rfl rfl (by decide) rfl (.fieldAddrH (off := 0) (fo := 1) H 0 rfl rfl rfl rfl rfl (fun _ => .inl ⟨B4 0 _ rfl _ rfl, nofun⟩) rfl ?_)))
  refine .loadH (off := 1) (v := (vi r'.High)) H 0 rfl rfl rfl rfl rfl (fun _ => .inl ⟨B4 0 _ rfl _ rfl, nofun⟩) rfl (.rem (m := r'.High) (m' := 200) rfl rfl (by decide) rfl (.assign (v := (vi (r'.Low.tmod 200))) rfl rfl (.assign (v := (vi (r'.High.tmod 200))) rfl rfl ?_)))
  apply Ops.nil
  replace H := H.all
  apply Runs.then
  refine .regionH 6 rfl H ?_; intro b5 σ H
  refine .buildA (cs := [(.v (.int .i8 (-1))), (vi 0)]) rfl rfl (.buildA (cs := [(.v (.int .i8 1)), (vi 0)]) rfl rfl (.allocH (cs := [(.v (.int .i8 0)), (vi 0)]) H (by omega) (by omega) rfl rfl ?_)); intro σ H
  refine .allocH (cs := [(.v (.int .i8 0)), (vi 0)]) H (by omega) (by omega) rfl rfl ?_; intro σ H
  refine .storeH (off := 0) (cells' := [(.v (.int .i8 (-1))), (vi 0)]) H 1 rfl rfl rfl rfl rfl rfl rfl rfl rfl nofun ?_; intro σ H
  refine .storeH (off := 0) (cells' := [(.v (.int .i8 1)), (vi 0)]) H 0 rfl rfl rfl rfl rfl rfl rfl rfl rfl nofun ?_; intro σ H
  apply Ops.nil
  replace H := H.all
  apply Runs.then
  obtain ⟨y1, hj1, h⟩ := bind_some h
  refine .mono (Q := fun x e σ => x = .normal ∧ EnvHas e [(2, (.ptr (b1 + 0) 4 0)), (3, (.ptr (b1 + 1) 4 0)), (5, (vi (r'.Low.tmod 200))), (6, (vi (r'.High.tmod 200))), (7, (.ptr (b5 + 2) 2 0)), (8, (.ptr (b5 + 3) 2 0))] ∧ Hs σ [.blk (b5 + 3) 32 [(.v (.int .i8 1)), (vi 0)], .blk (b5 + 2) 32 [(.v (.int .i8 y1.1)), (vi y1.2)], .blk (b1 + 1) 27 [(vi r'.Low), (vi r'.High), (vb r'.HasLow), (vb r'.HasHigh)], .blk (b1 + 0) 25 (vF f)]) ?_ ?_
  ·replace h := hj1
   apply Runs.then
   refine .regionH 2 rfl H ?_; intro b6 σ H
   refine .fieldAddrH (off := 0) (fo := 2) H 2 rfl rfl rfl rfl rfl nofun rfl (.loadH (off := 2) (v := (vb r'.HasLow)) H 2 rfl rfl rfl rfl rfl nofun rfl ?_)
   apply Ops.nil
   replace H := H.all
   refine .whether (v := r'.HasLow) rfl ?_ ?_ <;> intro hc2
   ·replace h := cond_T hc2 h
    refine .regionH 4 rfl H ?_; intro b7 σ H
    refine .loadHA (off := 0) (cs := (vF f)) H 3 rfl rfl rfl rfl rfl rfl rfl nofun rfl (.move (v := (vi (r'.Low.tmod 200))) rfl rfl ?_)
    obtain ⟨x2, q2, h⟩ := bind_some h
    refine .call (ys := [(.agg (vF f)), (vi (r'.Low.tmod 200))]) (r := (.agg [(.v (.int .i8 x2.Inf)), (vi x2.N)])) rfl (epactref25_Low_fn q2) rfl (.storeH (off := 0) (cells' := [(.v (.int .i8 x2.Inf)), (vi x2.N)]) H 1 rfl rfl rfl rfl rfl rfl rfl rfl rfl nofun ?_); intro σ H
    apply Ops.nil
    replace H := H.all
    replace h := Option.some.inj h; subst h
    exact ⟨rfl, ⟨rfl, rfl, rfl, rfl, rfl, rfl, trivial⟩, H⟩
   ·replace h := cond_F hc2 h
    apply Runs.skip
    replace h := Option.some.inj h; subst h
    exact ⟨rfl, ⟨rfl, rfl, rfl, rfl, rfl, rfl, trivial⟩, H⟩
  ·rintro x e σ ⟨rfl, he, H⟩
   obtain ⟨e, rfl⟩ := he.ex
   apply Runs.then
   obtain ⟨y2, hj2, h⟩ := bind_some h
   refine .mono (Q := fun x e σ => x = .normal ∧ EnvHas e [(2, (.ptr (b1 + 0) 4 0)), (3, (.ptr (b1 + 1) 4 0)), (5, (vi (r'.Low.tmod 200))), (6, (vi (r'.High.tmod 200))), (7, (.ptr (b5 + 2) 2 0)), (8, (.ptr (b5 + 3) 2 0))] ∧ Hs σ [.blk (b5 + 3) 32 [(.v (.int .i8 y2.1)), (vi y2.2)], .blk (b5 + 2) 32 [(.v (.int .i8 y1.1)), (vi y1.2)], .blk (b1 + 1) 27 [(vi r'.Low), (vi r'.High), (vb r'.HasLow), (vb r'.HasHigh)], .blk (b1 + 0) 25 (vF f)]) ?_ ?_
   ·replace h := hj2
    apply Runs.then
    refine .regionH 2 rfl H ?_; intro b8 σ H
    refine .fieldAddrH (off := 0) (fo := 3) H 2 rfl rfl rfl rfl rfl nofun rfl (.loadH (off := 3) (v := (vb r'.HasHigh)) H 2 rfl rfl rfl rfl rfl nofun rfl ?_)
    apply Ops.nil
    replace H := H.all
    refine .whether (v := r'.HasHigh) rfl ?_ ?_ <;> intro hc3
    ·replace h := cond_T hc3 h
     refine .regionH 4 rfl H ?_; intro b9 σ H
     refine .loadHA (off := 0) (cs := (vF f)) H 3 rfl rfl rfl rfl rfl rfl rfl nofun rfl (.move (v := (vi (r'.High.tmod 200))) rfl rfl ?_)
     obtain ⟨x3, q3, h⟩ := bind_some h
     refine .call (ys := [(.agg (vF f)), (vi (r'.High.tmod 200))]) (r := (.agg [(.v (.int .i8 x3.Inf)), (vi x3.N)])) rfl (epactref25_High_fn q3) rfl (.storeH (off := 0) (cells' := [(.v (.int .i8 x3.Inf)), (vi x3.N)]) H 0 rfl rfl rfl rfl rfl rfl rfl rfl rfl nofun ?_); intro σ H
     apply Ops.nil
     replace H := H.all
     replace h := Option.some.inj h; subst h
     exact ⟨rfl, ⟨rfl, rfl, rfl, rfl, rfl, rfl, trivial⟩, H⟩
    ·replace h := cond_F hc3 h
     apply Runs.skip
     replace h := Option.some.inj h; subst h
     exact ⟨rfl, ⟨rfl, rfl, rfl, rfl, rfl, rfl, trivial⟩, H⟩
   ·rintro x e σ ⟨rfl, he, H⟩
    obtain ⟨e, rfl⟩ := he.ex
    apply Runs.then
    refine .regionH 16 rfl H ?_; intro b10 σ H
    refine .loadHA (off := 0) (cs := (vF f)) H 3 rfl rfl rfl rfl rfl rfl rfl nofun rfl (.move (v := (vi (r'.Low.tmod 200))) rfl rfl (.move (v := (vi (r'.High.tmod 200))) rfl rfl (.fieldAddrH (off := 0) (fo := 2) H 2 rfl rfl rfl rfl rfl nofun rfl ?_)))
    refine .loadH (off := 2) (v := (vb r'.HasLow)) H 2 rfl rfl rfl rfl rfl nofun rfl (.fieldAddrH (off := 0) (fo := 3) H 2 rfl rfl rfl rfl rfl nofun rfl (.loadH (off := 3) (v := (vb r'.HasHigh)) H 2 rfl rfl rfl rfl rfl nofun rfl (.buildA (cs := [(vi (r'.Low.tmod 200)), (vi (r'.High.tmod 200)), (vb r'.HasLow), (vb r'.HasHigh)]) rfl rfl ?_)))
    obtain ⟨x4, q4, h⟩ := bind_some h
    refine .call (ys := [(.agg (vF f)), (.agg [(vi (r'.Low.tmod 200)), (vi (r'.High.tmod 200)), (vb r'.HasLow), (vb r'.HasHigh)])]) (r := (.tup [(.agg [(.v (.int .i8 x4.1.Inf)), (vi x4.1.N)]), (.agg [(.v (.int .i8 x4.2.Inf)), (vi x4.2.N)])])) rfl (carry_Ticks_fn q4) rfl (.move (v := (.tup [(.agg [(.v (.int .i8 x4.1.Inf)), (vi x4.1.N)]), (.agg [(.v (.int .i8 x4.2.Inf)), (vi x4.2.N)])])) rfl rfl (.extract (v := (.agg [(.v (.int .i8 x4.1.Inf)), (vi x4.1.N)])) rfl rfl rfl (.extract (v := (.agg [(.v (.int .i8 x4.2.Inf)), (vi x4.2.N)])) rfl rfl rfl ?_)))
    refine .allocH (cs := [(.v (.int .i8 0)), (vi 0)]) H (by omega) (by omega) rfl rfl ?_; intro σ H
    refine .allocH (cs := [(.v (.int .i8 0)), (vi 0)]) H (by omega) (by omega) rfl rfl ?_; intro σ H
    refine .storeH (off := 0) (cells' := [(.v (.int .i8 x4.1.Inf)), (vi x4.1.N)]) H 1 rfl rfl rfl rfl rfl rfl rfl rfl rfl nofun ?_; intro σ H
    refine .storeH (off := 0) (cells' := [(.v (.int .i8 x4.2.Inf)), (vi x4.2.N)]) H 0 rfl rfl rfl rfl rfl rfl rfl rfl rfl nofun ?_; intro σ H
    apply Ops.nil
    replace H := H.all
    apply Runs.then
    refine .drawnH 30 rfl (by kernel_rfl) H ?_; intro b11 σ H B11
    refine .loadHA (off := 0) (cs := [(.v (.int .i8 x4.1.Inf)), (vi x4.1.N)]) H 1 rfl rfl rfl rfl rfl rfl rfl (fun _ => .inl ⟨B11 1 _ rfl _ rfl, nofun⟩) rfl (.loadHA (off := 0) (cs := [(.v (.int .i8 y1.1)), (vi y1.2)]) H 3 rfl rfl rfl rfl rfl rfl rfl (fun _ => .inl ⟨B11 3 _ rfl _ rfl, nofun⟩) rfl (.binA (u := (.agg [(.v (.int .i8 x4.1.Inf)), (vi x4.1.N)])) (w := (.agg [(.v (.int .i8 y1.1)), (vi y1.2)])) (r := .bool ((x4.1.Inf == y1.1) && ((x4.1.N == y1.2) && true))) rfl rfl (by kernel_rfl) (fun _ => ask_eqA rfl rfl rfl rfl) rfl (.move (v := (vb ((x4.1.Inf == y1.1) && ((x4.1.N == y1.2) && true)))) rfl rfl ?_)))
    refine .mid 4 (K1 := fun e σ => EnvHas e [(52, (vb (((x4.1.Inf == y1.1) && ((x4.1.N == y1.2) && true)) && ((x4.2.Inf == y2.1) && ((x4.2.N == y2.2) && true))))), (2, (.ptr (b1 + 0) 4 0)), (5, (vi (r'.Low.tmod 200))), (6, (vi (r'.High.tmod 200)))] ∧ Has σ (b11 + 8) (b11 + 30) [.blk (b1 + 0) 25 (vF f)]) rfl ?_ ?_
    ·refine .split rfl rfl ?_ ?_ <;> intro hc4
     ·skip
      refine .wanted rfl rfl (.loadHA (off := 0) (cs := [(.v (.int .i8 x4.2.Inf)), (vi x4.2.N)]) H 0 rfl rfl rfl rfl rfl rfl rfl (fun _ => .inl ⟨B11 0 _ rfl _ rfl, nofun⟩) rfl (.wanted rfl rfl (.loadHA (off := 0) (cs := [(.v (.int .i8 y2.1)), (vi y2.2)]) H 2 rfl rfl rfl rfl rfl rfl rfl (fun _ => .inl ⟨B11 2 _ rfl _ rfl, nofun⟩) rfl ?_)))
      refine .wanted rfl rfl (.binA (u := (.agg [(.v (.int .i8 x4.2.Inf)), (vi x4.2.N)])) (w := (.agg [(.v (.int .i8 y2.1)), (vi y2.2)])) (r := .bool ((x4.2.Inf == y2.1) && ((x4.2.N == y2.2) && true))) rfl rfl (by kernel_rfl) (fun _ => ask_eqA rfl rfl rfl rfl) rfl (.pickT (v := (vb ((x4.2.Inf == y2.1) && ((x4.2.N == y2.2) && true)))) rfl rfl rfl ?_))
      apply Ops.nil
      exact ⟨⟨and_T hc4, rfl, rfl, rfl, trivial⟩, (((((H.erase 4).erase 3).erase 2).erase 1).erase 0).weak (by omega) (Nat.le_refl _)⟩
     ·skip
      refine .pass rfl rfl rfl (.pass rfl rfl rfl (.pass rfl rfl rfl (.pickF (v := (vb false)) rfl rfl rfl ?_)))
      apply Ops.nil
      exact ⟨⟨and_F hc4, rfl, rfl, rfl, trivial⟩, (((((H.erase 4).erase 3).erase 2).erase 1).erase 0).weak (by omega) (Nat.le_refl _)⟩
    ·rintro e σ ⟨he, H⟩
     obtain ⟨e, rfl⟩ := he.ex
     refine .move (v := (vb (((x4.1.Inf == y1.1) && ((x4.1.N == y1.2) && true)) && ((x4.2.Inf == y2.1) && ((x4.2.N == y2.2) && true))))) rfl rfl ?_
     obtain ⟨y3, hj3, h⟩ := bind_some h
     refine .mid 8 (K1 := fun e σ => EnvHas e [(61, (vb y3)), (2, (.ptr (b1 + 0) 4 0)), (6, (vi (r'.High.tmod 200)))] ∧ Has σ (b11 + 17) (b11 + 30) [.blk (b1 + 0) 25 (vF f)]) rfl ?_ ?_
     ·refine .split rfl rfl ?_ ?_ <;> intro hc5
      ·replace h := cond_T hc5 hj3
       refine .wanted rfl rfl (.loadHA (off := 0) (cs := (vF f)) H 0 rfl rfl rfl rfl rfl rfl rfl (fun _ => .inl ⟨B11 5 _ rfl _ rfl, nofun⟩) rfl (.wanted rfl rfl (.move (v := (vi (r'.Low.tmod 200))) rfl rfl ?_)))
       refine .wanted rfl rfl ?_
       obtain ⟨x5, q5, h⟩ := bind_some h
       refine .call (ys := [(.agg (vF f)), (vi (r'.Low.tmod 200))]) (r := (.agg [(.v (.int .i8 x5.Inf)), (vi x5.N)])) rfl (carry_Low_fn q5) rfl (.wanted rfl rfl (.loadHA (off := 0) (cs := (vF f)) H 0 rfl rfl rfl rfl rfl rfl rfl (fun _ => .inl ⟨B11 5 _ rfl _ rfl, nofun⟩) rfl (.wanted rfl rfl ?_)))
       refine .move (v := (vi (r'.Low.tmod 200))) rfl rfl (.wanted rfl rfl ?_)
       obtain ⟨x6, q6, h⟩ := bind_some h
       refine .call (ys := [(.agg (vF f)), (vi (r'.Low.tmod 200))]) (r := (.agg [(.v (.int .i8 x6.Inf)), (vi x6.N)])) rfl (epactref25_Low_fn q6) rfl (.wanted rfl rfl (.binA (u := (.agg [(.v (.int .i8 x5.Inf)), (vi x5.N)])) (w := (.agg [(.v (.int .i8 x6.Inf)), (vi x6.N)])) (r := .bool ((x5.Inf == x6.Inf) && ((x5.N == x6.N) && true))) rfl rfl (by kernel_rfl) (fun _ => ask_eqA rfl rfl rfl rfl) rfl (.pickT (v := (vb ((x5.Inf == x6.Inf) && ((x5.N == x6.N) && true)))) rfl rfl rfl ?_)))
       apply Ops.nil
       replace h := Option.some.inj h; subst h
       exact ⟨⟨rfl, rfl, rfl, trivial⟩, H.weak (by omega) (Nat.le_refl _)⟩
      ·replace h := cond_F hc5 hj3
       refine .pass rfl rfl rfl (.pass rfl rfl rfl (.pass rfl rfl rfl (.pass rfl rfl rfl ?_)))
       refine .pass rfl rfl rfl (.pass rfl rfl rfl (.pass rfl rfl rfl (.pickF (v := (vb false)) rfl rfl rfl ?_)))
       apply Ops.nil
       replace h := Option.some.inj h; subst h
       exact ⟨⟨rfl, rfl, rfl, trivial⟩, H.weak (by omega) (Nat.le_refl _)⟩
     ·rintro e σ ⟨he, H⟩
      obtain ⟨e, rfl⟩ := he.ex
      refine .move (v := (vb y3)) rfl rfl ?_
      obtain ⟨y4, hj4, h⟩ := bind_some h
      refine .mid 8 (K1 := fun e σ => EnvHas e [(70, (vb y4))] ∧ Has σ (b11 + 26) (b11 + 30) []) rfl ?_ ?_
      ·refine .split rfl rfl ?_ ?_ <;> intro hc6
       ·replace h := cond_T hc6 hj4
        refine .wanted rfl rfl (.loadHA (off := 0) (cs := (vF f)) H 0 rfl rfl rfl rfl rfl rfl rfl (fun _ => .inl ⟨B11 5 _ rfl _ rfl, nofun⟩) rfl (.wanted rfl rfl (.move (v := (vi (r'.High.tmod 200))) rfl rfl ?_)))
        refine .wanted rfl rfl ?_
        obtain ⟨x7, q7, h⟩ := bind_some h
        refine .call (ys := [(.agg (vF f)), (vi (r'.High.tmod 200))]) (r := (.agg [(.v (.int .i8 x7.Inf)), (vi x7.N)])) rfl (carry_High_fn q7) rfl (.wanted rfl rfl (.loadHA (off := 0) (cs := (vF f)) H 0 rfl rfl rfl rfl rfl rfl rfl (fun _ => .inl ⟨B11 5 _ rfl _ rfl, nofun⟩) rfl (.wanted rfl rfl ?_)))
        refine .move (v := (vi (r'.High.tmod 200))) rfl rfl (.wanted rfl rfl ?_)
        obtain ⟨x8, q8, h⟩ := bind_some h
        refine .call (ys := [(.agg (vF f)), (vi (r'.High.tmod 200))]) (r := (.agg [(.v (.int .i8 x8.Inf)), (vi x8.N)])) rfl (epactref25_High_fn q8) rfl (.wanted rfl rfl (.binA (u := (.agg [(.v (.int .i8 x7.Inf)), (vi x7.N)])) (w := (.agg [(.v (.int .i8 x8.Inf)), (vi x8.N)])) (r := .bool ((x7.Inf == x8.Inf) && ((x7.N == x8.N) && true))) rfl rfl (by kernel_rfl) (fun _ => ask_eqA rfl rfl rfl rfl) rfl (.pickT (v := (vb ((x7.Inf == x8.Inf) && ((x7.N == x8.N) && true)))) rfl rfl rfl ?_)))
        apply Ops.nil
        replace h := Option.some.inj h; subst h
        exact ⟨⟨rfl, trivial⟩, (H.erase 0).weak (by omega) (Nat.le_refl _)⟩
       ·replace h := cond_F hc6 hj4
        refine .pass rfl rfl rfl (.pass rfl rfl rfl (.pass rfl rfl rfl (.pass rfl rfl rfl ?_)))
        refine .pass rfl rfl rfl (.pass rfl rfl rfl (.pass rfl rfl rfl (.pickF (v := (vb false)) rfl rfl rfl ?_)))
        apply Ops.nil
        replace h := Option.some.inj h; subst h
        exact ⟨⟨rfl, trivial⟩, (H.erase 0).weak (by omega) (Nat.le_refl _)⟩
      ·rintro e σ ⟨he, H⟩
       obtain ⟨e, rfl⟩ := he.ex
       refine .move (v := (vb y4)) rfl rfl ?_
       refine .mid 2 (K1 := fun e σ => EnvHas e [(73, (vb (y4 && epactlaw25_awake)))] ∧ Has σ (b11 + 29) (b11 + 30) []) rfl ?_ ?_
       ·refine .split rfl rfl ?_ ?_ <;> intro hc7
        ·skip
         refine .wanted rfl rfl (.call (ys := []) (r := (vb epactlaw25_awake)) rfl (epactlaw25_awake_fn rfl) rfl (.pickT (v := (vb epactlaw25_awake)) rfl rfl rfl ?_))
         apply Ops.nil
         exact ⟨⟨and_T hc7, trivial⟩, H.weak (by omega) (Nat.le_refl _)⟩
        ·skip
         refine .pass rfl rfl rfl (.pickF (v := (vb false)) rfl rfl rfl ?_)
         apply Ops.nil
         exact ⟨⟨and_F hc7, trivial⟩, H.weak (by omega) (Nat.le_refl _)⟩
       ·rintro e σ ⟨he, H⟩
        obtain ⟨e, rfl⟩ := he.ex
        refine .assign (v := (vb (y4 && epactlaw25_awake))) rfl rfl ?_
        apply Ops.nil
        replace H := H.all
        apply Runs.ret
        replace h := Option.some.inj h; subst h
        exact (Ends.H (xs := [(vb (y4 && epactlaw25_awake))]) (.inr rfl) H (.tmp (v := (vb (y4 && epactlaw25_awake))) rfl .nil) (.one (.c (.v _))))

end Go.Dn

namespace Go.Dn
open Go

theorem loopO_inv {S R : Type} {step : S → Option (S ⊕ R)} (I : S → Prop) (m : S → Nat) (post : R → Prop)
  (h : ∀ s, I s → (∃ s', step s = some (.inl s') ∧ I s' ∧ m s' < m s) ∨ (∃ r, step s = some (.inr r) ∧ post r)) : ∀ s, I s → ∃ r, loopO step s = some r ∧ post r := by
 have key : ∀ n s, m s = n → I s → ∃ r, loopO step s = some r ∧ post r := by
  intro n
  induction n using Nat.strongRecOn with
  | _ n ih =>
   intro s hm hI
   rcases h s hI with ⟨s', h1, h2, h3⟩ | ⟨r, h1, h2⟩
   ·obtain ⟨r, q1, q2⟩ := ih (m s') (by omega) s' rfl h2
    exact ⟨r, by rw [loopO_eq, h1]; exact q1, q2⟩
   ·exact ⟨r, by rw [loopO_eq, h1], h2⟩
 exact fun s hI => key _ s rfl hI

theorem loopO_val {S R : Type} {step : S → Option (S ⊕ R)} (I : S → R → Prop) (m : S → Nat)
  (h : ∀ s r, I s r → (∃ s', step s = some (.inl s') ∧ I s' r ∧ m s' < m s) ∨ step s = some (.inr r)) {s : S} {r : R} (hI : I s r) : loopO step s = some r := by
 obtain ⟨r', h1, h2⟩ := loopO_inv (I := fun s => I s r) m (fun r' => r' = r) (fun s hs => by
  rcases h s r hs with ⟨s', h1, h2, h3⟩ | h1
  ·exact .inl ⟨s', h1, h2, h3⟩
  ·exact .inr ⟨r, h1, rfl⟩) s hI
 rw [h1, h2]

theorem wrap_i64 (a : Int) : IntKind.i64.wrap a = (a + 9223372036854775808) % 18446744073709551616 - 9223372036854775808 := by
 simp [IntKind.wrap, IntKind.bits, IntKind.signed]
 split <;> omega
theorem wrap_u64 (a : Int) : IntKind.u64.wrap a = a % 18446744073709551616 := by
 simp [IntKind.wrap, IntKind.bits, IntKind.signed]
theorem w64_id {x : Int} (h : -9223372036854775808 ≤ x ∧ x ≤ 9223372036854775807) : w64 x = x := by
 unfold w64; rw [wrap_i64]; omega
theorem maxLen_eq : maxLen = 9223372036854775807 := rfl
theorem room_eq : room = 140737488355328 := rfl

theorem at?_lt {α : Type} {l : List α} {i : Int} (h0 : 0 ≤ i) (h : i < l.length) : at? l i = some (l[i.toNat]'(by omega)) := by
 unfold at?; rw [if_pos h0, List.getElem?_eq_getElem]
theorem at?_nat {α : Type} {l : List α} {k : Nat} (h : k < l.length) : at? l (k : Int) = some l[k] := by
 rw [at?_lt (by omega) (by omega)]; rfl
theorem app?_ok {α : Type} {b : Nat} {l m : List α} (h : (l.length + m.length) * b ≤ room) : app? b l m = some (l ++ m) := if_pos h
theorem nz?_ok {b : Int} (h : b ≠ 0) : nz? b = some () := if_neg h

theorem beq_t {a b : Int} (h : a = b) : (a == b) = true := by simp [h]
theorem beq_f {a b : Int} (h : a ≠ b) : (a == b) = false := by simp [h]
theorem bne_t {a b : Int} (h : a ≠ b) : (a != b) = true := by simp [h]
theorem bne_f {a b : Int} (h : a = b) : (a != b) = false := by simp [h]
theorem ibeq (a b : Int) : (a == b) = decide (a = b) := by by_cases h : a = b <;> simp [h]
theorem dec_t {p : Prop} [Decidable p] (h : p) : decide p = true := by simp [h]
theorem dec_f {p : Prop} [Decidable p] (h : ¬ p) : decide p = false := by simp [h]

theorem pickB {α : Type} (c : Bool) (a b : α) : (bif c then a else b) = if c = true then a else b := by cases c <;> rfl

theorem first_bad {α : Type} {l : List α} {good : Nat → α → Prop} (h : ¬ ∀ k x, l[k]? = some x → good k x) : ∃ (k : Nat) (x : α), l[k]? = some x ∧ ¬ good k x ∧ ∀ j y, j < k → l[j]? = some y → good j y := by
 have hex : ∃ k : Nat, ∃ x, l[k]? = some x ∧ ¬ good k x := by
  apply Classical.byContradiction
  intro hn
  exact h fun k x hk => Classical.byContradiction fun hg => hn ⟨k, x, hk, hg⟩
 obtain ⟨k, hk⟩ := hex
 induction k using Nat.strongRecOn with
 | _ k ih =>
  by_cases h : ∃ j, j < k ∧ ∃ x, l[j]? = some x ∧ ¬ good j x
  ·obtain ⟨j, hj, hx⟩ := h
   exact ih j hj hx
  ·obtain ⟨x, hx, hb⟩ := hk
   exact ⟨k, x, hx, hb, fun j y hj hy => Classical.byContradiction fun hg => h ⟨j, hj, y, hy, hg⟩⟩

theorem all_loop {α R : Type} {l : List α} {step : Int → Option (Int ⊕ R)} (good : Nat → α → Prop) {no yes : R}
  (hstep : ∀ (k : Nat) (x : α), l[k]? = some x → (∀ j y, j < k → l[j]? = some y → good j y) → (step (k : Int) = some (.inl ((k : Int) + 1)) ∧ good k x) ∨ (step (k : Int) = some (.inr no) ∧ ¬ good k x))
  (hend : step (l.length : Int) = some (.inr yes)) : (loopO step 0 = some yes ∧ ∀ k x, l[k]? = some x → good k x) ∨ (loopO step 0 = some no ∧ ¬ ∀ k x, l[k]? = some x → good k x) := by
 by_cases hall : ∀ k x, l[k]? = some x → good k x
 ·refine .inl ⟨?_, hall⟩
  refine loopO_val (I := fun (s : Int) r => r = yes ∧ ∃ k : Nat, s = k ∧ k ≤ l.length) (fun s => (l.length - s.toNat)) ?_ ⟨rfl, 0, rfl, Nat.zero_le _⟩
  rintro s r ⟨rfl, k, rfl, hk⟩
  by_cases hlt : k < l.length
  ·rcases hstep k l[k] (List.getElem?_eq_getElem hlt) (fun j y _ hy => hall j y hy) with ⟨h1, _⟩ | ⟨_, h2⟩
   ·exact .inl ⟨_, h1, ⟨rfl, k + 1, by push_cast; rfl, hlt⟩, by simp; omega⟩
   ·exact absurd (hall k _ (List.getElem?_eq_getElem hlt)) h2
  ·have : k = l.length := by omega
   subst this
   exact .inr hend
 ·refine .inr ⟨?_, hall⟩
  obtain ⟨k0, x0, hx0, hb0, hgood⟩ := first_bad hall
  have hlt0 := (List.getElem?_eq_some_iff.1 hx0).1
  refine loopO_val (I := fun (s : Int) r => r = no ∧ ∃ k : Nat, s = k ∧ k ≤ k0) (fun s => (l.length - s.toNat)) ?_ ⟨rfl, 0, rfl, Nat.zero_le _⟩
  rintro s r ⟨rfl, k, rfl, hk⟩
  by_cases hlt : k < k0
  ·have hkl : k < l.length := by omega
   rcases hstep k l[k] (List.getElem?_eq_getElem hkl) (fun j y hj hy => hgood j y (by omega) hy) with ⟨h1, _⟩ | ⟨_, h2⟩
   ·exact .inl ⟨_, h1, ⟨rfl, k + 1, by push_cast; rfl, hlt⟩, by simp; omega⟩
   ·exact absurd (hgood k _ hlt (List.getElem?_eq_getElem hkl)) h2
  ·have : k = k0 := by omega
   subst this
   rcases hstep k x0 hx0 hgood with ⟨_, h2⟩ | ⟨h1, _⟩
   ·exact absurd h2 hb0
   ·exact .inr h1

theorem fold_loop {α A R : Type} {l : List α} {step : A × Int → Option ((A × Int) ⊕ R)} (f : A → Nat → α → A) (fin : A → R) (I : Nat → A → Prop) {a0 : A} (h0 : I 0 a0)
  (hgo : ∀ (k : Nat) (x : α) (a : A), l[k]? = some x → I k a → step (a, (k : Int)) = some (.inl (f a k x, (k : Int) + 1)) ∧ I (k + 1) (f a k x))
  (hend : ∀ a, I l.length a → step (a, (l.length : Int)) = some (.inr (fin a))) : ∃ a, loopO step (a0, 0) = some (fin a) ∧ I l.length a := by
 obtain ⟨r, h1, a, rfl, h2⟩ := loopO_inv (step := step) (I := fun s => ∃ (k : Nat) (a : A), s = (a, (k : Int)) ∧ k ≤ l.length ∧ I k a) (fun s => l.length - s.2.toNat) (fun r => ∃ a, r = fin a ∧ I l.length a) (by
  rintro s ⟨k, a, rfl, hk, hI⟩
  by_cases hlt : k < l.length
  ·obtain ⟨q1, q2⟩ := hgo k l[k] a (List.getElem?_eq_getElem hlt) hI
   exact .inl ⟨_, q1, ⟨k + 1, _, by push_cast; rfl, hlt, q2⟩, by simp; omega⟩
  ·have : k = l.length := by omega
   subst this
   exact .inr ⟨_, hend a hI, a, rfl, hI⟩) (a0, 0) ⟨0, a0, rfl, Nat.zero_le _, h0⟩
 exact ⟨a, h1, h2⟩
end Go.Dn

namespace Go.Dn
open Go

def In64 (a : Int) : Prop := -9223372036854775808 ≤ a ∧ a ≤ 9223372036854775807
def InU64 (a : Int) : Prop := 0 ≤ a ∧ a ≤ 18446744073709551615
def fitS (a : Int) : Int × Int := if -9223372036854775808 ≤ a ∧ a ≤ 9223372036854775807 then (a, 0) else (0, 10)
theorem fitS_of {a : Int} (h : In64 a) : fitS a = (a, 0) := if_pos h
theorem fitS_not {a : Int} (h : ¬ In64 a) : fitS a = (0, 10) := if_neg h
theorem fit_or (x : Int) : (In64 x ∧ fitS x = (x, 0)) ∨ (¬ In64 x ∧ fitS x = (0, 10)) := by
 by_cases h : In64 x
 ·exact .inl ⟨h, fitS_of h⟩
 ·exact .inr ⟨h, fitS_not h⟩
theorem and32 (x : Int) (h : InU64 x) : (((BitVec.ofInt 64 x &&& BitVec.ofInt 64 4294967295).toNat : Nat) : Int) = x % 4294967296 := by
 obtain ⟨n, rfl⟩ := Int.eq_ofNat_of_zero_le h.1
 have hn : n < 2 ^ 64 := by have := h.2; omega
 have h1 : (BitVec.ofInt 64 (n : Int)).toNat = n := by simp [BitVec.toNat_ofInt]; omega
 have h2 : (BitVec.ofInt 64 4294967295).toNat = 2 ^ 32 - 1 := by decide
 rw [BitVec.toNat_and, h1, h2, Nat.and_two_pow_sub_one_eq_mod]
 omega

theorem mul64_fact {x y : Int} (hx : InU64 x) (hy : InU64 y) :
  (x / 4294967296 * (y / 4294967296) + (x / 4294967296 * (y % 4294967296) + x % 4294967296 * (y % 4294967296) / 4294967296) / 4294967296 +
   ((x / 4294967296 * (y % 4294967296) + x % 4294967296 * (y % 4294967296) / 4294967296) % 4294967296 + x % 4294967296 * (y / 4294967296)) / 4294967296) = x * y / 18446744073709551616 ∧
  0 ≤ x % 4294967296 * (y % 4294967296) ∧ x % 4294967296 * (y % 4294967296) ≤ 18446744065119617025 ∧
  0 ≤ x / 4294967296 * (y % 4294967296) ∧ x / 4294967296 * (y % 4294967296) ≤ 18446744065119617025 ∧
  0 ≤ x % 4294967296 * (y / 4294967296) ∧ x % 4294967296 * (y / 4294967296) ≤ 18446744065119617025 ∧
  0 ≤ x / 4294967296 * (y / 4294967296) ∧ x / 4294967296 * (y / 4294967296) ≤ 18446744065119617025 := by
 have b : ∀ {u v : Int}, 0 ≤ u → u ≤ 4294967295 → 0 ≤ v → v ≤ 4294967295 → 0 ≤ u * v ∧ u * v ≤ 18446744065119617025 := by
  intro u v h1 h2 h3 h4
  exact ⟨Int.mul_nonneg h1 h3, Int.le_trans (Int.mul_le_mul h2 h4 h3 (by omega)) (by decide)⟩
 obtain ⟨hx1, hx2⟩ := hx
 obtain ⟨hy1, hy2⟩ := hy
 obtain ⟨a1, a2⟩ := b (u := x % 4294967296) (v := y % 4294967296) (by omega) (by omega) (by omega) (by omega)
 obtain ⟨b1, b2⟩ := b (u := x / 4294967296) (v := y % 4294967296) (by omega) (by omega) (by omega) (by omega)
 obtain ⟨c1, c2⟩ := b (u := x % 4294967296) (v := y / 4294967296) (by omega) (by omega) (by omega) (by omega)
 obtain ⟨d1, d2⟩ := b (u := x / 4294967296) (v := y / 4294967296) (by omega) (by omega) (by omega) (by omega)
 refine ⟨?_, a1, a2, b1, b2, c1, c2, d1, d2⟩
 have e : x * y = x / 4294967296 * (y / 4294967296) * 18446744073709551616 + (x / 4294967296 * (y % 4294967296) + x % 4294967296 * (y / 4294967296)) * 4294967296 + x % 4294967296 * (y % 4294967296) := by
  have ex : x = x / 4294967296 * 4294967296 + x % 4294967296 := by omega
  have ey : y = y / 4294967296 * 4294967296 + y % 4294967296 := by omega
  clear a1 a2 b1 b2 c1 c2 d1 d2 b hx1 hx2 hy1 hy2
  generalize x / 4294967296 = x1 at *
  generalize x % 4294967296 = x0 at *
  generalize y / 4294967296 = y1 at *
  generalize y % 4294967296 = y0 at *
  subst ex ey
  simp only [Int.add_mul, Int.mul_add]
  have h1 : x1 * 4294967296 * (y1 * 4294967296) = x1 * y1 * 18446744073709551616 := by
   rw [Int.mul_assoc, Int.mul_comm 4294967296, Int.mul_assoc y1, ← Int.mul_assoc]
   rfl
  have h2 : x1 * 4294967296 * y0 = x1 * y0 * 4294967296 := by rw [Int.mul_assoc, Int.mul_comm 4294967296, ← Int.mul_assoc]
  have h3 : x0 * (y1 * 4294967296) = x0 * y1 * 4294967296 := by rw [← Int.mul_assoc]
  rw [h1, h2, h3]
  omega
 rw [e]
 generalize x / 4294967296 * (y / 4294967296) = d at *
 generalize x / 4294967296 * (y % 4294967296) = b' at *
 generalize x % 4294967296 * (y / 4294967296) = c at *
 generalize x % 4294967296 * (y % 4294967296) = a at *
 omega

theorem safe_Add_eq {a b : Int} (ha : In64 a) (hb : In64 b) : safe_Add a b = fitS (a + b) := by
 unfold In64 at ha hb
 unfold safe_Add fitS w64
 rw [wrap_i64]
 cases h : ((decide ((a + b + 9223372036854775808) % 18446744073709551616 - 9223372036854775808 > a) != decide (b > 0)) && b != 0)
 ·rw [cond_false]
  simp only [Bool.and_eq_false_iff, bne_eq_false_iff_eq, decide_eq_decide] at h
  split <;> simp only [Prod.mk.injEq, and_true] <;> omega
 ·rw [cond_true]
  simp only [Bool.and_eq_true, bne_iff_ne, ne_eq, decide_eq_decide] at h
  split <;> simp only [Prod.mk.injEq] <;> omega

theorem safe_size_eq {a : Int} (h : In64 a) : safe_size a = a.natAbs := by
 unfold In64 at h
 unfold safe_size
 rw [pickB]
 simp only [decide_eq_true_eq, wrap_u64]
 split <;> omega

theorem inU_abs {a : Int} (h : In64 a) : InU64 a.natAbs := by unfold In64 at h; unfold InU64; omega
theorem natAbs_prod (a b : Int) : (a.natAbs : Int) * b.natAbs = (a * b).natAbs := by rw [Int.natAbs_mul]; simp

theorem mul64_eq {x y : Int} (hx : InU64 x) (hy : InU64 y) : math_bits_Mul64 x y = (x * y / 18446744073709551616, x * y % 18446744073709551616) := by
 unfold math_bits_Mul64
 have hb : ∀ z : Int, z.fdiv (2 ^ 32) = z / 4294967296 := fun z => Int.fdiv_eq_ediv_of_nonneg z (by decide)
 have hm : (IntKind.u64.bits) = 64 := rfl
 obtain ⟨h1, h2, h3, h4, h5, h6, h7, h8, h9⟩ := mul64_fact hx hy
 have hw : ∀ z : Int, 0 ≤ z → z ≤ 18446744073709551615 → IntKind.u64.wrap z = z := fun z q1 q2 => by rw [wrap_u64]; omega
 simp only [hb, iAnd]
 rw [hm, and32 x hx, and32 y hy]
 have x0 : 0 ≤ x % 4294967296 ∧ x % 4294967296 < 4294967296 := by omega
 have y0 : 0 ≤ y % 4294967296 ∧ y % 4294967296 < 4294967296 := by omega
 rw [hw (x % 4294967296) (by omega) (by omega), hw (y % 4294967296) (by omega) (by omega), hw _ h2 (by omega), hw _ h4 (by omega), hw _ h6 (by omega), hw _ h8 (by omega)]
 rw [hw (x / 4294967296 * (y % 4294967296) + x % 4294967296 * (y % 4294967296) / 4294967296) (by omega) (by omega)]
 rw [and32 _ ⟨by omega, by omega⟩]
 have t0 : 0 ≤ (x / 4294967296 * (y % 4294967296) + x % 4294967296 * (y % 4294967296) / 4294967296) % 4294967296 ∧ (x / 4294967296 * (y % 4294967296) + x % 4294967296 * (y % 4294967296) / 4294967296) % 4294967296 < 4294967296 := by omega
 rw [hw ((x / 4294967296 * (y % 4294967296) + x % 4294967296 * (y % 4294967296) / 4294967296) % 4294967296) (by omega) (by omega)]
 rw [hw ((x / 4294967296 * (y % 4294967296) + x % 4294967296 * (y % 4294967296) / 4294967296) % 4294967296 + x % 4294967296 * (y / 4294967296)) (by omega) (by omega)]
 rw [hw (x / 4294967296 * (y / 4294967296) + (x / 4294967296 * (y % 4294967296) + x % 4294967296 * (y % 4294967296) / 4294967296) / 4294967296) (by omega) (by omega)]
 rw [hw _ (by omega) (by omega), h1, wrap_u64]

theorem safe_signed_eq {n : Int} (m : Bool) (h : InU64 n) : safe_signed n m = fitS (if m then -n else n) := by
 unfold InU64 at h
 unfold safe_signed fitS w64
 rw [pickB, pickB, wrap_u64, wrap_i64, wrap_i64]
 cases m <;> simp only [Bool.true_and, Bool.false_and, Bool.not_true, Bool.not_false, decide_eq_true_eq, Bool.false_eq_true, if_false, if_true]
 ·split
  ·rw [if_pos (by omega)]; simp only [Prod.mk.injEq, and_true]; omega
  ·rw [if_neg (by omega)]
 ·split
  ·rw [if_pos (by omega)]; simp only [Prod.mk.injEq, and_true]; omega
  ·rw [if_neg (by omega)]

theorem safe_Mul_eq {a b : Int} (ha : In64 a) (hb : In64 b) : safe_Mul a b = fitS (a * b) := by
 unfold safe_Mul
 rw [safe_size_eq ha, safe_size_eq hb, mul64_eq (inU_abs ha) (inU_abs hb), pickB]
 simp only [natAbs_prod]
 rw [safe_signed_eq _ (by unfold InU64; omega)]
 by_cases h : ((a * b).natAbs : Int) / 18446744073709551616 = 0
 ·rw [if_neg (by simp [h])]
  have e : ((a * b).natAbs : Int) % 18446744073709551616 = (a * b).natAbs := by omega
  rw [e]
  show fitS _ = _
  refine congrArg fitS ?_
  by_cases h1 : a < 0 <;> by_cases h2 : b < 0 <;> simp only [h1, h2, decide_true, decide_false]
  ·have := Int.mul_nonneg_of_nonpos_of_nonpos (Int.le_of_lt h1) (Int.le_of_lt h2)
   simp; omega
  ·have := Int.mul_nonpos_of_nonpos_of_nonneg (Int.le_of_lt h1) (Int.not_lt.1 h2)
   simp; omega
  ·have := Int.mul_nonpos_of_nonneg_of_nonpos (Int.not_lt.1 h1) (Int.le_of_lt h2)
   simp; omega
  ·have := Int.mul_nonneg (Int.not_lt.1 h1) (Int.not_lt.1 h2)
   simp; omega
 ·rw [if_pos (by simp [h])]
  unfold fitS
  rw [if_neg]
  omega

def floorS (a b : Int) : Int × Int × Int := if b = 0 then (0, 0, 11) else if b = -1 ∧ a = -9223372036854775808 then (0, 0, 10) else (a.fdiv b, a.fmod b, 0)
theorem floor_up {a b : Int} (hb : b ≠ 0) (h1 : a.tmod b ≠ 0) (h2 : ¬(a.tmod b < 0 ↔ b < 0)) : a.fdiv b = a.tdiv b - 1 ∧ a.fmod b = a.tmod b + b := by
 have q1 := Int.emod_nonneg a hb
 have q2 := Int.emod_lt a hb
 have hd : b ∣ a ↔ a % b = 0 := Int.dvd_iff_emod_eq_zero
 rw [Int.fdiv_eq_ediv, Int.fmod_eq_emod, Int.tdiv_eq_ediv]
 rw [Int.tmod_eq_emod] at h1 h2 ⊢
 simp only [hd] at h1 h2 ⊢
 rcases Int.lt_or_gt_of_ne hb with h | h
 ·rw [Int.sign_eq_neg_one_of_neg h]
  split at h1 <;> split <;> simp_all <;> omega
 ·rw [Int.sign_eq_one_of_pos h]
  split at h1 <;> split <;> simp_all <;> omega

theorem floor_same {a b : Int} (hb : b ≠ 0) (h : a.tmod b = 0 ∨ (a.tmod b < 0 ↔ b < 0)) : a.fdiv b = a.tdiv b ∧ a.fmod b = a.tmod b := by
 have q1 := Int.emod_nonneg a hb
 have q2 := Int.emod_lt a hb
 have hd : b ∣ a ↔ a % b = 0 := Int.dvd_iff_emod_eq_zero
 rw [Int.fdiv_eq_ediv, Int.fmod_eq_emod, Int.tdiv_eq_ediv]
 rw [Int.tmod_eq_emod] at h ⊢
 simp only [hd] at h ⊢
 rcases Int.lt_or_gt_of_ne hb with hh | hh
 ·rw [Int.sign_eq_neg_one_of_neg hh]
  split at h <;> split <;> simp_all <;> omega
 ·rw [Int.sign_eq_one_of_pos hh]
  split at h <;> split <;> simp_all <;> omega

theorem tdiv_in {a b : Int} (ha : In64 a) (hb : b ≠ 0) (hn : ¬(b = -1 ∧ a = -9223372036854775808)) : In64 (a.tdiv b) := by
 have h : (a.tdiv b).natAbs = a.natAbs / b.natAbs := Int.natAbs_tdiv a b
 obtain ⟨h1, h2⟩ := ha
 by_cases hb1 : b = 1
 ·subst hb1; rw [Int.tdiv_one]; exact ⟨h1, h2⟩
 ·by_cases hb2 : b = -1
  ·have ha' : a ≠ -9223372036854775808 := fun e => hn ⟨hb2, e⟩
   have : a.natAbs / b.natAbs ≤ a.natAbs := Nat.div_le_self _ _
   unfold In64; omega
  ·have h3 : a.natAbs / b.natAbs ≤ a.natAbs / 2 := Nat.div_le_div_left (by omega) (by omega)
   unfold In64; omega

theorem tdiv_in1 {a b : Int} (ha : In64 a) (hb : b ≠ 0) (h1 : a.tmod b ≠ 0) : In64 (a.tdiv b - 1) := by
 have h : (a.tdiv b).natAbs = a.natAbs / b.natAbs := Int.natAbs_tdiv a b
 obtain ⟨h2, h3⟩ := ha
 by_cases hb1 : b = 1
 ·subst hb1; simp at h1
 ·by_cases hb2 : b = -1
  ·subst hb2; simp at h1
  ·have h3 : a.natAbs / b.natAbs ≤ a.natAbs / 2 := Nat.div_le_div_left (by omega) (by omega)
   unfold In64; omega

theorem tmod_in {a b : Int} (hb : In64 b) (hb0 : b ≠ 0) : In64 (a.tmod b) := by
 have h : (a.tmod b).natAbs = a.natAbs % b.natAbs := Int.natAbs_tmod a b
 have : a.natAbs % b.natAbs < b.natAbs := Nat.mod_lt _ (by omega)
 unfold In64 at *; omega

theorem wrap_in {a : Int} (h : In64 a) : IntKind.i64.wrap a = a := by rw [wrap_i64]; unfold In64 at h; omega

theorem fmod_in {a b : Int} (hb : In64 b) (hb0 : b ≠ 0) : In64 (a.fmod b) := by
 have q1 := Int.emod_nonneg a hb0
 have q2 := Int.emod_lt a hb0
 rw [Int.fmod_eq_emod]
 unfold In64 at *
 split <;> omega

theorem floor_leaf1 {a b : Int} (ha : In64 a) (hb : In64 b) (h0 : b ≠ 0) (hn : ¬(b = -1 ∧ a = -9223372036854775808)) (h1 : a.tmod b ≠ 0) (h2 : ¬(a.tmod b < 0 ↔ b < 0)) :
  (IntKind.i64.wrap (IntKind.i64.wrap (a.tdiv b) - 1), IntKind.i64.wrap (a.tmod b + b), (0 : Int)) = floorS a b := by
 obtain ⟨e1, e2⟩ := floor_up h0 h1 h2
 rw [floorS, if_neg h0, if_neg hn, e1, e2, wrap_in (tdiv_in ha h0 hn), wrap_in (tdiv_in1 ha h0 h1), wrap_in (by rw [← e2]; exact fmod_in hb h0)]

theorem floor_leaf2 {a b : Int} (ha : In64 a) (hb : In64 b) (h0 : b ≠ 0) (hn : ¬(b = -1 ∧ a = -9223372036854775808)) (h : a.tmod b = 0 ∨ (a.tmod b < 0 ↔ b < 0)) :
  (IntKind.i64.wrap (a.tdiv b), a.tmod b, (0 : Int)) = floorS a b := by
 obtain ⟨e1, e2⟩ := floor_same h0 h
 rw [floorS, if_neg h0, if_neg hn, e1, e2, wrap_in (tdiv_in ha h0 hn)]


theorem safe_Floor_eq {a b : Int} (ha : In64 a) (hb : In64 b) : safe_Floor a b = some (floorS a b) := by
 unfold safe_Floor
 by_cases h0 : b = 0
 ·subst h0; rfl
 rw [beq_f h0, cond_false]
 by_cases hn : b = -1 ∧ a = -9223372036854775808
 ·obtain ⟨rfl, rfl⟩ := hn
  rfl
 have : (b == -1 && a == -9223372036854775808) = false := by
  simp only [Bool.and_eq_false_iff, beq_eq_false_iff_ne]
  by_cases h : b = -1
  ·exact .inr fun e => hn ⟨h, e⟩
  ·exact .inl h
 rw [this, cond_false, nz?_ok h0]
 simp only [Option.bind_some, pickB, Bool.and_eq_true, bne_iff_ne, ne_eq, decide_eq_decide]
 split
 ·rename_i h
  simp only [Option.bind_some]
  exact congrArg some (floor_leaf1 ha hb h0 hn h.1 h.2)
 ·rename_i h
  simp only [Option.bind_some]
  refine congrArg some (floor_leaf2 ha hb h0 hn ?_)
  by_cases h1 : a.tmod b = 0
  ·exact .inl h1
  ·exact .inr (Classical.byContradiction fun h2 => h ⟨h1, h2⟩)

theorem fdiv_nonneg_eq {a b : Int} (hb : 0 < b) : a.fdiv b = a / b ∧ a.fmod b = a % b := ⟨Int.fdiv_eq_ediv_of_nonneg a (Int.le_of_lt hb), Int.fmod_eq_emod_of_nonneg a (Int.le_of_lt hb)⟩
theorem floorS_pos {a b : Int} (hb : 0 < b) : floorS a b = (a / b, a % b, 0) := by
 unfold floorS
 rw [if_neg (by omega), if_neg (by omega), (fdiv_nonneg_eq hb).1, (fdiv_nonneg_eq hb).2]

end Go.Dn

namespace Go.Dn
open Go

theorem reach_eq : reachBytes = 140737488351232 := rfl

def tickP (t : Int) : Prop := -1099511627776 ≤ t ∧ t ≤ 1099511627776
instance (t : Int) : Decidable (tickP t) := by unfold tickP; infer_instance
theorem spans_tick_eq (t : Int) : spans_tick t = decide (tickP t) := by
 rw [Bool.eq_iff_iff, decide_eq_true_iff]; simp [spans_tick, tickP]
theorem inRange_eq (t : Int) : gran_inRange t = decide (tickP t) := by
 rw [Bool.eq_iff_iff, decide_eq_true_iff]; simp [gran_inRange, tickP]
theorem tick64 {t : Int} (h : tickP t) : In64 t := by unfold tickP at h; unfold In64; omega

structure RightL (l : List Span) : Prop where
 ok : ∀ (k : Nat) (s : Span), l[k]? = some s → tickP s.From ∧ tickP s.To ∧ s.From ≤ s.To
 gap : ∀ (k : Nat) (s t : Span), l[k]? = some s → l[k + 1]? = some t → s.To + 2 ≤ t.From

abbrev Len (l : List Span) : Prop := l.length * 16 ≤ reachBytes
abbrev Sp64 (l : List Span) : Prop := ∀ s ∈ l, In64 s.From ∧ In64 s.To

theorem Span.ok64 {s : Span} (h : s.ok) : In64 s.From ∧ In64 s.To := h
theorem okSpans {l : List Span} (h : okL 16 Span.ok l) : Len l ∧ Sp64 l := ⟨h.1, fun s hs => Span.ok64 (h.2 s hs)⟩
theorem RightL.sp64 {l : List Span} (h : RightL l) : Sp64 l := fun s hs => by
 obtain ⟨k, hk⟩ := List.getElem?_of_mem hs
 have := h.ok k s hk
 exact ⟨tick64 this.1, tick64 this.2.1⟩

def goodSpan (l : List Span) (k : Nat) (s : Span) : Prop := tickP s.From ∧ tickP s.To ∧ s.From ≤ s.To ∧ ∀ p, k ≠ 0 → l[k - 1]? = some p → p.To + 2 ≤ s.From

theorem rightL_iff {l : List Span} : RightL l ↔ ∀ k s, l[k]? = some s → goodSpan l k s := by
 constructor
 ·intro h k s hk
  obtain ⟨h1, h2, h3⟩ := h.ok k s hk
  refine ⟨h1, h2, h3, fun p h0 hp => ?_⟩
  have : k - 1 + 1 = k := by omega
  exact h.gap (k - 1) p s hp (by rw [this]; exact hk)
 ·intro h
  refine ⟨fun k s hk => ⟨(h k s hk).1, (h k s hk).2.1, (h k s hk).2.2.1⟩, fun k s t hs ht => (h (k + 1) t ht).2.2.2 s (by omega) (by simpa using hs)⟩

theorem spans_Right_eq {l : List Span} (hl : Len l) (h64 : Sp64 l) : ∃ b, spans_Right l = some b ∧ (b = true ↔ RightL l) := by
 have hlen : l.length ≤ maxLen := by rw [maxLen_eq]; have := reach_eq; unfold Len at hl; omega
 have step : ∀ (k : Nat) (s : Span), l[k]? = some s → (∀ j y, j < k → l[j]? = some y → goodSpan l j y) → ∃ b, spans_Right.s0 l (k : Int) = (if b = true then some (.inl ((k : Int) + 1)) else some (.inr (.ret false))) ∧ (b = true ↔ goodSpan l k s) := by
  intro k s hk hprev
  have hlt := (List.getElem?_eq_some_iff.1 hk).1
  have hat : at? l (k : Int) = some s := by rw [at?_nat hlt]; rw [List.getElem?_eq_getElem hlt] at hk; exact hk
  unfold spans_Right.s0
  rw [dec_t (show (k : Int) < l.length by omega), cond_true, hat]
  simp only [Option.bind_some, spans_tick_eq]
  have hk1 : w64 ((k : Int) + 1) = k + 1 := w64_id (by rw [maxLen_eq] at hlen; omega)
  by_cases h1 : tickP s.From ∧ tickP s.To ∧ s.From ≤ s.To
  ·have : (!decide (tickP s.From) || !decide (tickP s.To) || decide (s.From > s.To)) = false := by
    rw [dec_t h1.1, dec_t h1.2.1, dec_f (by omega)]; rfl
   rw [this, cond_false]
   by_cases h0 : k = 0
   ·subst h0
    refine ⟨true, by simp [w64]; rw [wrap_i64]; rfl, by simp [goodSpan, h1]⟩
   ·have hk0 : (k : Int) > 0 := by omega
    have hpl : k - 1 < l.length := by omega
    have hp : at? l (w64 ((k : Int) - 1)) = some l[k - 1] := by
     rw [w64_id (by rw [maxLen_eq] at hlen; omega), show ((k : Int) - 1) = ((k - 1 : Nat) : Int) by omega, at?_nat hpl]
    have hpg := hprev (k - 1) _ (by omega) (List.getElem?_eq_getElem hpl)
    have hpt : w64 (l[k - 1].To + 2) = l[k - 1].To + 2 := by
     have := hpg.2.1; unfold tickP at this; exact w64_id (by omega)
    rw [dec_t hk0, cond_true, hp]
    simp only [Option.bind_some, hpt]
    refine ⟨!decide (s.From < l[k - 1].To + 2), ?_, ?_⟩
    ·cases hd : decide (s.From < l[k - 1].To + 2) <;> simp [hk1]
    ·simp only [Bool.not_eq_true', decide_eq_false_iff_not, goodSpan]
     constructor
     ·intro h; refine ⟨h1.1, h1.2.1, h1.2.2, fun p _ hp' => ?_⟩
      rw [List.getElem?_eq_getElem hpl] at hp'; cases hp'; omega
     ·intro h; have := h.2.2.2 _ h0 (List.getElem?_eq_getElem hpl); omega
  ·refine ⟨false, ?_, by simp only [Bool.false_eq_true, goodSpan, false_iff]; intro h; exact h1 ⟨h.1, h.2.1, h.2.2.1⟩⟩
   have : (!decide (tickP s.From) || !decide (tickP s.To) || decide (s.From > s.To)) = true := by
    by_cases a1 : tickP s.From
    ·by_cases a2 : tickP s.To
     ·have a3 : s.From > s.To := by
       apply Classical.byContradiction
       intro h
       exact h1 ⟨a1, a2, by omega⟩
      rw [dec_t a3]; simp
     ·rw [dec_f a2]; simp
    ·rw [dec_f a1]; simp
   rw [this]; rfl
 unfold spans_Right
 rcases all_loop (l := l) (step := spans_Right.s0 l) (goodSpan l) (no := .ret false) (yes := .go ()) (fun k x hk hp => by
   obtain ⟨b, h1, h2⟩ := step k x hk hp
   cases b
   ·exact .inr ⟨h1, fun h => by have := h2.2 h; cases this⟩
   ·exact .inl ⟨h1, h2.1 rfl⟩) (by
   unfold spans_Right.s0; rw [dec_f (by omega)]; rfl) with ⟨h1, h2⟩ | ⟨h1, h2⟩
 ·rw [h1]; exact ⟨true, rfl, by simp [rightL_iff.2 h2]⟩
 ·rw [h1]; exact ⟨false, rfl, by simp only [Bool.false_eq_true, false_iff]; exact fun h => h2 (rightL_iff.1 h)⟩


def shiftS (by_ : Int) (s : Span) : Span := ⟨s.From + by_, s.To + by_⟩

theorem spans_Move_eq {l : List Span} {b : Int} (hl : Len l) (h64 : Sp64 l) (hb : In64 b) :
  ((∀ s ∈ l, tickP (s.From + b) ∧ tickP (s.To + b)) ∧ spans_Move l b = some (l.map (shiftS b), 0)) ∨ ((¬ ∀ s ∈ l, tickP (s.From + b) ∧ tickP (s.To + b)) ∧ spans_Move l b = some ([], 20)) := by
 have hlen : (l.length : Int) < 9223372036854775807 := by have := reach_eq; unfold Len at hl; omega
 have step : ∀ (k : Nat) (s : Span) (acc : List Span), l[k]? = some s → acc.length = k → spans_Move.s0 l b ((k : Int), acc) = if tickP (s.From + b) ∧ tickP (s.To + b) then some (.inl ((k : Int) + 1, acc ++ [shiftS b s])) else some (.inr (.ret ([], 20))) := by
  intro k s acc hk hacc
  have hlt := (List.getElem?_eq_some_iff.1 hk).1
  have hat : at? l (k : Int) = some s := by rw [at?_nat hlt]; rw [List.getElem?_eq_getElem hlt] at hk; exact hk
  obtain ⟨f64, t64⟩ := h64 s (List.mem_of_getElem? hk)
  unfold spans_Move.s0
  rw [dec_t (show (k : Int) < l.length by omega), cond_true, hat]
  simp only [Option.bind_some]
  rw [safe_Add_eq f64 hb, safe_Add_eq t64 hb, spans_tick_eq, spans_tick_eq]
  have hk1 : w64 ((k : Int) + 1) = k + 1 := w64_id (by omega)
  have happ : ∀ x : Span, app? 16 acc [x] = some (acc ++ [x]) := fun x => app?_ok (by
   have := reach_eq; have := room_eq; unfold Len at hl; simp; omega)
  rcases fit_or (s.From + b) with ⟨q1, q2⟩ | ⟨q1, q2⟩ <;> rcases fit_or (s.To + b) with ⟨q3, q4⟩ | ⟨q3, q4⟩ <;> rw [q2, q4]
  ·by_cases h : tickP (s.From + b) ∧ tickP (s.To + b)
   ·rw [if_pos h, dec_t h.1, dec_t h.2]
    simp [happ, hk1, shiftS]
   ·rw [if_neg h]
    have : (!decide (tickP (s.From + b)) || !decide (tickP (s.To + b))) = true := by
     by_cases h1 : tickP (s.From + b)
     ·rw [dec_f (fun h2 => h ⟨h1, h2⟩)]; simp
     ·rw [dec_f h1]; simp
    simp only [bne_self_eq_false, Bool.false_or, Bool.or_assoc] at this ⊢
    rw [this]; rfl
  ·rw [if_neg (fun h => q3 (tick64 h.2))]; rfl
  ·rw [if_neg (fun h => q1 (tick64 h.1))]; rfl
  ·rw [if_neg (fun h => q1 (tick64 h.1))]; rfl
 have hend : ∀ acc, spans_Move.s0 l b ((l.length : Int), acc) = some (.inr (.go acc)) := fun acc => by unfold spans_Move.s0; rw [dec_f (by omega)]; rfl
 unfold spans_Move
 by_cases hall : ∀ s ∈ l, tickP (s.From + b) ∧ tickP (s.To + b)
 ·refine .inl ⟨hall, ?_⟩
  have : loopO (spans_Move.s0 l b) (0, []) = some (.go (l.map (shiftS b))) := by
   refine loopO_val (I := fun (s : Int × List Span) r => r = .go (l.map (shiftS b)) ∧ ∃ k : Nat, k ≤ l.length ∧ s = ((k : Int), (l.take k).map (shiftS b))) (fun s => l.length - s.1.toNat) ?_ ⟨rfl, 0, Nat.zero_le _, by simp⟩
   rintro s r ⟨rfl, k, hk, rfl⟩
   by_cases hlt : k < l.length
   ·refine .inl ⟨_, by rw [step k l[k] _ (List.getElem?_eq_getElem hlt) (by simp; omega), if_pos (hall _ (List.getElem_mem hlt))], ⟨rfl, k + 1, hlt, ?_⟩, by simp; omega⟩
    rw [List.take_succ_eq_append_getElem hlt, List.map_append]; push_cast; rfl
   ·have : k = l.length := by omega
    subst this
    rw [List.take_length]
    exact .inr (hend _)
  rw [this]; rfl
 ·refine .inr ⟨hall, ?_⟩
  obtain ⟨k0, s0, hk0, hb0, hg⟩ := first_bad (l := l) (good := fun _ s => tickP (s.From + b) ∧ tickP (s.To + b)) (fun h => hall fun s hs => by
   obtain ⟨k, hk⟩ := List.getElem?_of_mem hs; exact h k s hk)
  have hlt0 := (List.getElem?_eq_some_iff.1 hk0).1
  have : loopO (spans_Move.s0 l b) (0, []) = some (.ret ([], 20)) := by
   refine loopO_val (I := fun (s : Int × List Span) r => r = .ret ([], 20) ∧ ∃ k : Nat, k ≤ k0 ∧ s.1 = (k : Int) ∧ s.2.length = k) (fun s => l.length - s.1.toNat) ?_ ⟨rfl, 0, Nat.zero_le _, rfl, rfl⟩
   rintro ⟨i, acc⟩ r ⟨rfl, k, hk, h1, h2⟩
   simp only at h1 h2
   subst h1
   by_cases hlt : k < k0
   ·have hkl : k < l.length := by omega
    exact .inl ⟨_, by rw [step k l[k] _ (List.getElem?_eq_getElem hkl) h2, if_pos (hg k _ hlt (List.getElem?_eq_getElem hkl))], ⟨rfl, k + 1, hlt, by push_cast; rfl, by simp; omega⟩, by simp; omega⟩
   ·have : k = k0 := by omega
    subst this
    exact .inr (by rw [step k s0 _ hk0 h2, if_neg hb0])
  rw [this]; rfl

theorem RightL.shift {l : List Span} {b : Int} (h : RightL l) (ht : ∀ s ∈ l, tickP (s.From + b) ∧ tickP (s.To + b)) : RightL (l.map (shiftS b)) := by
 constructor
 ·intro k s hk
  rw [List.getElem?_map, Option.map_eq_some_iff] at hk
  obtain ⟨s, hk, rfl⟩ := hk
  have h1 := h.ok k s hk
  have h2 := ht s (List.mem_of_getElem? hk)
  exact ⟨h2.1, h2.2, by simp only [shiftS]; omega⟩
 ·intro k s t hk hk1
  rw [List.getElem?_map, Option.map_eq_some_iff] at hk hk1
  obtain ⟨s, hk, rfl⟩ := hk
  obtain ⟨t, hk1, rfl⟩ := hk1
  have := h.gap k s t hk hk1
  simp only [shiftS]; omega

def AheadL (a b : List Span) : Prop := ∀ x, a.getLast? = some x → ∀ y, b.head? = some y → x.To < y.From

theorem spans_Ahead_eq {a b : List Span} (ha : Len a) : ∃ r, spans_Ahead a b = some r ∧ (r = true ↔ AheadL a b) := by
 unfold spans_Ahead
 cases a with
 | nil => exact ⟨true, by simp, by simp [AheadL]⟩
 | cons x a =>
  cases b with
  | nil => exact ⟨true, by simp, by simp [AheadL]⟩
  | cons y b =>
   have hl : ((x :: a).length : Int) < 9223372036854775807 := by have := reach_eq; unfold Len at ha; omega
   have e1 : (((x :: a).length : Int) == 0 || ((y :: b).length : Int) == 0) = false := by simp; omega
   have hlt : (x :: a).length - 1 < (x :: a).length := by simp
   have e2 : at? (x :: a) (w64 (((x :: a).length : Int) - 1)) = some (x :: a)[(x :: a).length - 1] := by
    rw [w64_id (by simp at hl ⊢; omega), show (((x :: a).length : Int) - 1) = (((x :: a).length - 1 : Nat) : Int) by simp, at?_nat hlt]
   have e3 : at? (y :: b) 0 = some y := rfl
   rw [e1, cond_false, e2, e3]
   refine ⟨decide ((x :: a)[(x :: a).length - 1].To < y.From), rfl, ?_⟩
   have hlast : (x :: a).getLast? = some (x :: a)[(x :: a).length - 1] := by rw [List.getLast?_eq_getElem?, List.getElem?_eq_getElem hlt]
   simp only [decide_eq_true_eq, AheadL, hlast, List.head?_cons, Option.some.injEq]
   exact ⟨fun h x' hx y' hy => by rw [← hx, ← hy]; exact h, fun h => h _ rfl _ rfl⟩

theorem span_beq (x y : Span) : ((x.From == y.From) && ((x.To == y.To) && true)) = decide (x = y) := by
 obtain ⟨x1, x2⟩ := x
 obtain ⟨y1, y2⟩ := y
 by_cases h1 : x1 = y1 <;> by_cases h2 : x2 = y2 <;> simp [h1, h2]

theorem spans_Same_eq {a b : List Span} (ha : Len a) : ∃ r, spans_Same a b = some r ∧ (r = true ↔ a = b) := by
 have hl : (a.length : Int) < 9223372036854775807 := by have := reach_eq; unfold Len at ha; omega
 unfold spans_Same slices_Equal_SSpan_Span
 by_cases hlen : a.length = b.length
 ·have e1 : ((a.length : Int) != (b.length : Int)) = false := bne_f (by omega)
  rw [e1, cond_false]
  rcases all_loop (l := a) (step := slices_Equal_SSpan_Span.s0 a b) (fun k x => b[k]? = some x) (no := .ret false) (yes := .go ()) (fun k x hk hp => by
   have hlt := (List.getElem?_eq_some_iff.1 hk).1
   have hat : at? a (k : Int) = some x := by rw [at?_nat hlt]; rw [List.getElem?_eq_getElem hlt] at hk; exact hk
   have hbt : at? b (k : Int) = some (b[k]'(by omega)) := at?_nat (by omega)
   unfold slices_Equal_SSpan_Span.s0
   rw [dec_t (show (k : Int) < a.length by omega), cond_true, hat, hbt, w64_id (show _ by omega)]
   simp only [Option.bind_some, span_beq]
   rw [List.getElem?_eq_getElem (show k < b.length by omega)]
   by_cases h : x = b[k]'(by omega)
   ·rw [dec_t h]; exact .inl ⟨rfl, congrArg some h.symm⟩
   ·rw [dec_f h]; exact .inr ⟨rfl, fun e => h (Option.some.inj e).symm⟩) (by
   unfold slices_Equal_SSpan_Span.s0; rw [dec_f (by omega)]; rfl) with ⟨h1, h2⟩ | ⟨h1, h2⟩
  ·rw [h1]
   refine ⟨true, rfl, ⟨fun _ => List.ext_getElem? fun k => ?_, fun _ => rfl⟩⟩
   by_cases hk : k < a.length
   ·rw [List.getElem?_eq_getElem hk]; exact (h2 k _ (List.getElem?_eq_getElem hk)).symm
   ·rw [List.getElem?_eq_none (by omega), List.getElem?_eq_none (by omega)]
  ·rw [h1]
   refine ⟨false, rfl, by simp only [Bool.false_eq_true, false_iff]; rintro rfl; exact h2 fun k x hk => hk⟩
 ·have e1 : ((a.length : Int) != (b.length : Int)) = true := bne_t (by omega)
  rw [e1, cond_true]
  exact ⟨false, rfl, by simp only [Bool.false_eq_true, false_iff]; rintro rfl; exact hlen rfl⟩

end Go.Dn
