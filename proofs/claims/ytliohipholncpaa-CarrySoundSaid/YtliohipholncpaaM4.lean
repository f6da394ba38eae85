/- Part 4 of what the row stands on. -/
import Derived.Test.YtliohipholncpaaM3
set_option linter.unusedVariables false
set_option linter.unusedSimpArgs false
namespace Go.Dn
open Go Go.Proofs
set_option maxRecDepth 100000
set_option maxHeartbeats 4000000

theorem Z8w {g : Form} {d : Int} {up : Bool} {r : Int × Bool × Int} (h : ZZ g d up = some r) : Fn CX 62 [(.agg (vs (Form.cs g))), (vi d), (vb up)] (.tup [(vi r.1), (vb r.2.1), (vi r.2.2)]) := by
 refine Fn.ends Try.func62 rfl rfl rfl rfl rfl rfl ?_
 have H : Hs (⟨0, fun _ => .none⟩ : Heap) [] := Has.nil (Nat.le_refl _)
 generalize (⟨0, fun _ => .none⟩ : Heap) = σ at H ⊢
 unfold ZZ at h
 refine .then (.Z0 4 rfl H fun b1 σ H => (.boxH (cs := (vF g)) H (by omega) (by omega) rfl rfl rfl fun σ H => (.assign (v := (vi 0)) rfl rfl (.assign (v := (vb false)) rfl rfl (.assign (v := (vi 0)) rfl rfl ?_)))))
 refine .nila H fun H => (.then (.then (.Z0 3 rfl H fun b2 σ H => (.move (v := (vi d)) rfl rfl (.call (ys := [(vi d)]) (r := (vb (Z1I d))) rfl (Z9H rfl) rfl ?_)))))
 refine .not (b := (Z1I d)) rfl rfl (.nila H fun H => ?_)
 refine .whether (v := (!(Z1I d))) rfl ?_ ?_ <;> intro hc1
 ·replace h := Z7 hc1 h
  refine .then (.Z0 3 rfl H fun b3 σ H => (.assign (v := (vi 0)) rfl rfl (.assign (v := (vb false)) rfl rfl (.assign (v := (vi 2)) rfl rfl (.nila H fun H => ?_)))))
  refine .ret ?_
  replace h := sj h; subst h
  exact (Ends.H (xs := [(vi 0), (vb false), (vi 2)]) (.inr rfl) H (.tmp (v := (vi 0)) rfl (.tmp (v := (vb false)) rfl (.tmp (v := (vi 2)) rfl .nil))) (.two (.cons (.c (.v _)) (.cons (.c (.v _)) (.cons (.c (.v _)) .nil)))))
 ·replace h := Z8 hc1 h
  refine .skip (.then (.Z0 4 rfl H fun b4 σ H => (.ZI (off := 0) (cs := (vF g)) H 0 rfl rfl rfl rfl rfl rfl rfl nofun rfl ?_)))
  obtain ⟨x1, q1, h⟩ := bind_some h
  refine .call (ys := [(.agg (vF g))]) (r := (.agg (vG x1))) rfl (size_made_fn q1) rfl (.Zk (cs := [(vi 0), (vi 0), .nils, .nils, .nils]) H (by omega) (by omega) rfl rfl fun σ H => (.ZV (off := 0) (cells' := (vG x1)) H 0 rfl rfl rfl rfl rfl rfl rfl rfl rfl nofun fun σ H => (.nila H fun H => (.then (.Z0 1 rfl H fun b5 σ H => ?_)))))
  refine .assign (v := (vi 1)) rfl rfl (.nila H fun H => (.then ?_))
  obtain ⟨y1, hj1, h⟩ := bind_some h
  refine .mono (Q := fun x e σ => x = .normal ∧ Z4 e [(1, (vi d)), (2, (vb up)), (9, (.ptr (b4 + 2) 5 0)), (10, (vi y1))] ∧ Hs σ [.blk (b4 + 2) 96 (vG x1)]) ?_ ?_
  ·replace h := hj1
   refine .then (.Z0 1 rfl H fun b6 σ H => (.move (v := (vb up)) rfl rfl (.nila H fun H => ?_)))
   refine .whether (v := up) rfl ?_ ?_ <;> intro hc2
   ·replace h := Z7 hc2 h
    refine .Z0 1 rfl H fun b7 σ H => (.assign (v := (vi (-1))) rfl rfl (.nila H fun H => ?_))
    replace h := sj h; subst h
    exact ⟨rfl, ⟨rfl, rfl, rfl, rfl, trivial⟩, (H.erase 1)⟩
   ·replace h := Z8 hc2 h
    refine .skip ?_
    replace h := sj h; subst h
    exact ⟨rfl, ⟨rfl, rfl, rfl, rfl, trivial⟩, (H.erase 1)⟩
  ·rintro x e σ ⟨rfl, he, H⟩
   obtain ⟨e, rfl⟩ := he.ex
   refine .then (.Z0 1 rfl H fun b8 σ H => (.Zk (cs := [(vi 0), (vb false)]) H (by omega) (by omega) rfl rfl fun σ H => (.nila H fun H => (.then (.then ?_)))))
   refine .Z0 4 rfl H fun b9 σ H => (.Z2 (off := 0) (fo := 4) H 1 rfl rfl rfl rfl rfl nofun rfl (.ZC (off := 4) (v := (vl size_spot.cs x1.spots)) H 1 rfl rfl rfl rfl rfl nofun rfl (.Z0K (c := size_spot.cs) (xs := x1.spots) rfl rfl rfl (.move (v := (vi 0)) rfl rfl (.nila H fun H => ?_)))))
   refine .inBlock ?_
   obtain ⟨y2, hj2, h⟩ := bind_some h
   obtain ⟨n1, hj2⟩ := Zb.1 hj2
   refine .mono (Runs.ZO hj2 (fun s1 e σ => Z4 e [(1, (vi d)), (2, (vb up)), (9, (.ptr (b4 + 2) 5 0)), (10, (vi y1)), (11, (.ptr (b8 + 0) 2 0)), (32, (vl size_spot.cs x1.spots)), (33, (vi (x1.spots.length : Int))), (34, (vi s1.1))] ∧ Hs σ [.blk (b8 + 0) 119 [(vi s1.2.1), (vb s1.2.2)], .blk (b4 + 2) 96 (vG x1)]) (fun y2 x e σ => x = .exit 0 ∧ Z4 e [(1, (vi d)), (2, (vb up)), (9, (.ptr (b4 + 2) 5 0)), (10, (vi y1)), (11, (.ptr (b8 + 0) 2 0))] ∧ Hs σ [.blk (b8 + 0) 119 [(vi y2.1), (vb y2.2)], .blk (b4 + 2) 96 (vG x1)]) ⟨⟨rfl, rfl, rfl, rfl, rfl, rfl, rfl, rfl, trivial⟩, H⟩ ?_) ?_
   ·intro s1 e σ hI z h
    obtain ⟨he, H⟩ := hI
    obtain ⟨e, rfl⟩ := he.ex
    unfold ZZ.s0 at h
    refine .then (.Z0 1 rfl H fun b10 σ H => (.int (m := s1.1) (m' := (x1.spots.length : Int)) (r := .bool (decide (s1.1 < (x1.spots.length : Int)))) rfl rfl rfl rfl rfl (.nila H fun H => (.then ?_))))
    refine .whether (v := (decide (s1.1 < (x1.spots.length : Int)))) rfl ?_ ?_ <;> intro hc3
    ·replace h := Z7 hc3 h
     refine .skip (.then ?_)
     obtain ⟨y3, hj3, h⟩ := bind_some h
     refine .mono (Q := fun x e σ => x = .normal ∧ Z4 e [(1, (vi d)), (2, (vb up)), (9, (.ptr (b4 + 2) 5 0)), (10, (vi y1)), (11, (.ptr (b8 + 0) 2 0)), (32, (vl size_spot.cs x1.spots)), (33, (vi (x1.spots.length : Int))), (34, (vi s1.1))] ∧ Hs σ [.blk (b8 + 0) 119 [(vi y3.1), (vb y3.2)], .blk (b4 + 2) 96 (vG x1)]) ?_ ?_
     ·replace h := hj3
      refine .inBlock ?_
      obtain ⟨y4, hj4, h⟩ := bind_some h
      refine .mono (Q := fun x e σ => x = .normal ∧ Z4 e [(1, (vi d)), (2, (vb up)), (9, (.ptr (b4 + 2) 5 0)), (10, (vi y1)), (11, (.ptr (b8 + 0) 2 0)), (32, (vl size_spot.cs x1.spots)), (33, (vi (x1.spots.length : Int))), (34, (vi s1.1))] ∧ Hs σ [.blk (b8 + 0) 119 [(vi y4.1), (vb y4.2)], .blk (b4 + 2) 96 (vG x1)]) ?_ ?_
      ·replace h := hj4
       refine .then (.Z0 4 rfl H fun b11 σ H => ?_)
       obtain ⟨x2, q2, h⟩ := bind_some h
       refine .Zy (c := size_spot.cs) (u := x2) rfl rfl q2 rfl rfl rfl rfl (.Z26 (cs := [(.int .i64 x2.index), (.int .i64 x2.place.first), (.int .i64 x2.place.last)]) rfl rfl rfl rfl rfl rfl (.Zk (cs := [(vi 0), (vi 0), (vi 0)]) H (by omega) (by omega) rfl rfl fun σ H => (.ZV (off := 0) (cells' := [(vi x2.index), (vi x2.place.first), (vi x2.place.last)]) H 0 rfl rfl rfl rfl rfl rfl rfl rfl rfl nofun fun σ H => (.nila H fun H => (.then ?_)))))
       refine .Z0 4 rfl H fun b12 σ H => (.Z2 (off := 0) (fo := 1) H 0 rfl rfl rfl rfl rfl nofun rfl (.Z2 (off := 1) (fo := 1) H 0 rfl rfl rfl rfl rfl nofun rfl (.ZC (off := 2) (v := (vi x2.place.last)) H 0 rfl rfl rfl rfl rfl nofun rfl (.assign (v := (vi x2.place.last)) rfl rfl (.nila H fun H => ?_)))))
       refine .then ?_
       obtain ⟨y5, hj5, h⟩ := bind_some h
       refine .mono (Q := fun x e σ => x = .normal ∧ Z4 e [(1, (vi d)), (2, (vb up)), (9, (.ptr (b4 + 2) 5 0)), (10, (vi y1)), (11, (.ptr (b8 + 0) 2 0)), (13, (.ptr (b11 + 2) 3 0)), (14, (vi y5)), (32, (vl size_spot.cs x1.spots)), (33, (vi (x1.spots.length : Int))), (34, (vi s1.1))] ∧ Hs σ [.blk (b11 + 2) 116 [(vi x2.index), (vi x2.place.first), (vi x2.place.last)], .blk (b8 + 0) 119 [(vi s1.2.1), (vb s1.2.2)], .blk (b4 + 2) 96 (vG x1)]) ?_ ?_
       ·replace h := hj5
        refine .then (.Z0 1 rfl H fun b13 σ H => (.move (v := (vb up)) rfl rfl (.nila H fun H => ?_)))
        refine .whether (v := up) rfl ?_ ?_ <;> intro hc4
        ·replace h := Z7 hc4 h
         refine .Z0 4 rfl H fun b14 σ H => (.Z2 (off := 0) (fo := 1) H 0 rfl rfl rfl rfl rfl nofun rfl (.Z2 (off := 1) (fo := 0) H 0 rfl rfl rfl rfl rfl nofun rfl (.ZC (off := 1) (v := (vi x2.place.first)) H 0 rfl rfl rfl rfl rfl nofun rfl (.assign (v := (vi x2.place.first)) rfl rfl (.nila H fun H => ?_)))))
         replace h := sj h; subst h
         exact ⟨rfl, ⟨rfl, rfl, rfl, rfl, rfl, rfl, rfl, rfl, rfl, rfl, trivial⟩, H⟩
        ·replace h := Z8 hc4 h
         refine .skip ?_
         replace h := sj h; subst h
         exact ⟨rfl, ⟨rfl, rfl, rfl, rfl, rfl, rfl, rfl, rfl, rfl, rfl, trivial⟩, H⟩
       ·rintro x e σ ⟨rfl, he, H⟩
        obtain ⟨e, rfl⟩ := he.ex
        refine .Z0w 13 rfl (by kernel_rfl) H fun b15 σ H B15 => (.move (v := (vi y1)) rfl rfl (.ZI (off := 0) (cs := (vG x1)) H 2 rfl rfl rfl rfl rfl rfl rfl (fun _ => .inl ⟨B15 2 _ rfl _ rfl, nofun, (fun _ => by kernel_rfl)⟩) rfl (.move (v := (vi y5)) rfl rfl (.move (v := (vi d)) rfl rfl (.int (m := y5) (m' := d) (r := .int .i64 (w64 (y5 + d))) rfl rfl rfl rfl rfl ?_)))))
        refine .move (v := (vb up)) rfl rfl ?_
        obtain ⟨x3, q3, h⟩ := bind_some h
        refine .call (ys := [(.agg (vG x1)), (vi (w64 (y5 + d))), (vb up)]) (r := (vi x3)) rfl (Z4p q3) rfl (.Z2 (off := 0) (fo := 0) H 0 rfl rfl rfl rfl rfl (fun _ => .inl ⟨B15 0 _ rfl _ rfl, nofun, (fun _ => by kernel_rfl)⟩) rfl (.ZC (off := 0) (v := (vi x2.index)) H 0 rfl rfl rfl rfl rfl (fun _ => .inl ⟨B15 0 _ rfl _ rfl, nofun, (fun _ => by kernel_rfl)⟩) rfl (.int (m := x3) (m' := x2.index) (r := .int .i64 (w64 (x3 - x2.index))) rfl rfl rfl rfl rfl (.int (m := y1) (m' := (w64 (x3 - x2.index))) (r := .int .i64 (w64 (y1 * (w64 (x3 - x2.index))))) rfl rfl rfl rfl rfl (.Z3K (sz := 1) ([(w64 (y1 * (w64 (x3 - x2.index))))].map (cI .i64)) H (by omega) (by omega) rfl rfl rfl rfl rfl rfl rfl rfl rfl fun σ H => ?_)))))
        obtain ⟨y6, hj6, h⟩ := bind_some h
        refine .callI (PostA := fun r A => r = (.tup []) ∧ A = [.sl (.buf (b15 + 11) 1 1) 3 1 (y6.1.map (cI .i64)) true, .blk (b11 + 2) 116 [(vi x2.index), (vi x2.place.first), (vi x2.place.last)], .blk (b8 + 0) 119 [(vi y6.2.1), (vb y6.2.2)], .blk (b4 + 2) 96 (vG x1)]) (cv := (.v (.fn 86))) (ys := [(.ptr (b8 + 0) 2 0), (.buf (b15 + 11) 1 1)]) (L := []) [.sl (.buf (b15 + 11) 1 1) 3 1 ([(w64 (y1 * (w64 (x3 - x2.index))))].map (cI .i64)) true, .blk (b11 + 2) 116 [(vi x2.index), (vi x2.place.first), (vi x2.place.last)], .blk (b8 + 0) 119 [(vi s1.2.1), (vb s1.2.2)], .blk (b4 + 2) 96 (vG x1)] H rfl rfl (fun T1 hT H => Z5y Try.func86 rfl (fun _ => rfl) rfl rfl rfl rfl ?_) (fun _ => by kernel_rfl) rfl ?_
        ·replace h := hj6
         refine .then (.Z0 3 rfl H fun b16 σ H => (.move (v := (.buf (b15 + 11) 1 1)) rfl rfl (.lenSt (c := (cI .i64)) (xs := [(w64 (y1 * (w64 (x3 - x2.index))))]) H 0 rfl rfl rfl nofun rfl (.move (v := (vi 0)) rfl rfl (.nila H fun H => ?_)))))
         refine .inBlock ?_
         obtain ⟨y7, hj7, h⟩ := bind_some h
         obtain ⟨n2, hj7⟩ := Zb.1 hj7
         refine .mono (Runs.ZO hj7 (fun s2 e σ => Z4 e [(0, (.ptr (b8 + 0) 2 0)), (6, (.buf (b15 + 11) 1 1)), (7, (vi s2.1)), (8, (vi s2.2.1))] ∧ Hs σ (.sl (.buf (b15 + 11) 1 1) 3 1 (s2.2.2.1.map (cI .i64)) true :: .blk (b11 + 2) 116 [(vi x2.index), (vi x2.place.first), (vi x2.place.last)] :: .blk (b8 + 0) 119 [(vi s2.2.2.2.1), (vb s2.2.2.2.2)] :: .blk (b4 + 2) 96 (vG x1) :: T1)) (fun y7 x e σ => x = .exit 0 ∧ Z4 e [] ∧ Hs σ (.sl (.buf (b15 + 11) 1 1) 3 1 (y7.1.map (cI .i64)) true :: .blk (b11 + 2) 116 [(vi x2.index), (vi x2.place.first), (vi x2.place.last)] :: .blk (b8 + 0) 119 [(vi y7.2.1), (vb y7.2.2)] :: .blk (b4 + 2) 96 (vG x1) :: T1)) ⟨⟨rfl, rfl, rfl, rfl, trivial⟩, H⟩ ?_) ?_
         ·intro s2 e σ hI z h
          obtain ⟨he, H⟩ := hI
          obtain ⟨e, rfl⟩ := he.ex
          unfold ZZ.s1 at h
          refine .then (.Z0 1 rfl H fun b17 σ H => (.int (m := s2.2.1) (m' := s2.1) (r := .bool (decide (s2.2.1 < s2.1))) rfl rfl rfl rfl rfl (.nila H fun H => (.then ?_))))
          refine .whether (v := (decide (s2.2.1 < s2.1))) rfl ?_ ?_ <;> intro hc5
          ·replace h := Z7 hc5 h
           refine .skip (.then ?_)
           obtain ⟨y8, hj8, h⟩ := bind_some h
           refine .mono (Q := fun x e σ => x = .normal ∧ Z4 e [(0, (.ptr (b8 + 0) 2 0)), (6, (.buf (b15 + 11) 1 1)), (7, (vi s2.1)), (8, (vi s2.2.1))] ∧ Hs σ (.sl (.buf (b15 + 11) 1 1) 3 1 (s2.2.2.1.map (cI .i64)) true :: .blk (b11 + 2) 116 [(vi x2.index), (vi x2.place.first), (vi x2.place.last)] :: .blk (b8 + 0) 119 [(vi y8.1), (vb y8.2)] :: .blk (b4 + 2) 96 (vG x1) :: T1)) ?_ ?_
           ·replace h := hj8
            refine .inBlock ?_
            obtain ⟨y9, hj9, h⟩ := bind_some h
            refine .mono (Q := fun x e σ => x = .normal ∧ Z4 e [(0, (.ptr (b8 + 0) 2 0)), (6, (.buf (b15 + 11) 1 1)), (7, (vi s2.1)), (8, (vi s2.2.1))] ∧ Hs σ (.sl (.buf (b15 + 11) 1 1) 3 1 (s2.2.2.1.map (cI .i64)) true :: .blk (b11 + 2) 116 [(vi x2.index), (vi x2.place.first), (vi x2.place.last)] :: .blk (b8 + 0) 119 [(vi y9.1), (vb y9.2)] :: .blk (b4 + 2) 96 (vG x1) :: T1)) ?_ ?_
            ·replace h := hj9
             refine .then (.Z0 3 rfl H fun b18 σ H => ?_)
             obtain ⟨x4, q4, h⟩ := bind_some h
             refine .Z77 H 0 rfl rfl rfl (at?_map q4) rfl rfl nofun rfl ?_; intro id1 hv1
             refine .loadS (id := id1) (j := 0) (w := (.int .i64 x4)) H 0 rfl hv1 (by simp) (at?_map q4) rfl (by simp) rfl rfl rfl nofun rfl ?_
             refine .assign (v := (vi x4)) rfl rfl (.nila H fun H => (.then (.Z0 13 rfl H fun b19 σ H => (.move (v := (.ptr (b8 + 0) 2 0)) rfl rfl (.Z0T (off := 0) H 2 rfl rfl rfl nofun rfl ?_)))))
             refine .Z2 (off := 0) (fo := 1) H 2 rfl rfl rfl rfl rfl nofun rfl (.ZC (off := 1) (v := (vb s2.2.2.2.2)) H 2 rfl rfl rfl rfl rfl nofun rfl (.not (b := s2.2.2.2.2) rfl rfl (.move (v := (vb (!s2.2.2.2.2))) rfl rfl ?_)))
             refine .mid 7 (K1 := fun e σ => Z4 e [(24, (vb ((!s2.2.2.2.2) || (decide (x4 > s2.2.2.2.1))))), (0, (.ptr (b8 + 0) 2 0)), (5, (vi x4)), (6, (.buf (b15 + 11) 1 1)), (7, (vi s2.1)), (8, (vi s2.2.1))] ∧ Has σ (b19 + 13) (b19 + 13) (.sl (.buf (b15 + 11) 1 1) 3 1 (s2.2.2.1.map (cI .i64)) true :: .blk (b11 + 2) 116 [(vi x2.index), (vi x2.place.first), (vi x2.place.last)] :: .blk (b8 + 0) 119 [(vi s2.2.2.2.1), (vb s2.2.2.2.2)] :: .blk (b4 + 2) 96 (vG x1) :: T1)) rfl ?_ ?_
             ·refine .split rfl rfl ?_ ?_ <;> intro hc6
              ·skip
               refine .pass rfl rfl rfl (.pass rfl rfl rfl (.pass rfl rfl rfl (.pass rfl rfl rfl (.pass rfl rfl rfl (.pass rfl rfl rfl ?_)))))
               refine .Zf (v := (vb true)) rfl rfl rfl (.nil ?_)
               exact ⟨⟨or_T hc6, rfl, rfl, rfl, rfl, rfl, trivial⟩, H.weak (by omega) (Nat.le_refl _)⟩
              ·skip
               refine .wanted rfl rfl (.move (v := (vi x4)) rfl rfl (.wanted rfl rfl (.move (v := (.ptr (b8 + 0) 2 0)) rfl rfl (.wanted rfl rfl (.Z0T (off := 0) H 2 rfl rfl rfl nofun rfl ?_)))))
               refine .wanted rfl rfl (.Z2 (off := 0) (fo := 0) H 2 rfl rfl rfl rfl rfl nofun rfl (.wanted rfl rfl (.ZC (off := 0) (v := (vi s2.2.2.2.1)) H 2 rfl rfl rfl rfl rfl nofun rfl (.wanted rfl rfl (.int (m := x4) (m' := s2.2.2.2.1) (r := .bool (decide (x4 > s2.2.2.2.1))) rfl rfl rfl rfl rfl ?_)))))
               refine .Zh (v := (vb (decide (x4 > s2.2.2.2.1)))) rfl rfl rfl (.nil ?_)
               exact ⟨⟨or_F hc6, rfl, rfl, rfl, rfl, rfl, trivial⟩, H.weak (by omega) (Nat.le_refl _)⟩
             ·rintro e σ ⟨he, H⟩
              obtain ⟨e, rfl⟩ := he.ex
              refine .nila H fun H => ?_
              refine .whether (v := ((!s2.2.2.2.2) || (decide (x4 > s2.2.2.2.1)))) rfl ?_ ?_ <;> intro hc7
              ·replace h := Z7 hc7 h
               refine .Z0 9 rfl H fun b20 σ H => (.move (v := (.ptr (b8 + 0) 2 0)) rfl rfl (.move (v := (.ptr (b8 + 0) 2 0)) rfl rfl (.move (v := (vi x4)) rfl rfl (.Z0T (off := 0) H 2 rfl rfl rfl nofun rfl (.Z2 (off := 0) (fo := 0) H 2 rfl rfl rfl rfl rfl nofun rfl ?_)))))
               refine .ZV (off := 0) (cells' := [(vi x4), (vb s2.2.2.2.2)]) H 2 rfl rfl rfl rfl rfl rfl rfl rfl rfl nofun fun σ H => (.Z0T (off := 0) H 2 rfl rfl rfl nofun rfl (.Z2 (off := 0) (fo := 1) H 2 rfl rfl rfl rfl rfl nofun rfl (.ZV (off := 1) (cells' := [(vi x4), (vb true)]) H 2 rfl rfl rfl rfl rfl rfl rfl rfl rfl nofun fun σ H => (.nila H fun H => ?_))))
               replace h := sj h; subst h
               exact ⟨rfl, ⟨rfl, rfl, rfl, rfl, trivial⟩, H⟩
              ·replace h := Z8 hc7 h
               refine .skip ?_
               replace h := sj h; subst h
               exact ⟨rfl, ⟨rfl, rfl, rfl, rfl, trivial⟩, H⟩
            ·rintro x e σ ⟨rfl, he, H⟩
             obtain ⟨e, rfl⟩ := he.ex
             replace h := sj h; subst h
             exact ⟨rfl, ⟨rfl, rfl, rfl, rfl, trivial⟩, H⟩
           ·rintro x e σ ⟨rfl, he, H⟩
            obtain ⟨e, rfl⟩ := he.ex
            refine .Z0 2 rfl H fun b21 σ H => (.int (m := s2.2.1) (m' := 1) (r := .int .i64 (w64 (s2.2.1 + 1))) rfl rfl rfl rfl rfl (.move (v := (vi (w64 (s2.2.1 + 1)))) rfl rfl (.nila H fun H => ?_)))
            replace h := sj h; subst h
            exact ⟨rfl, ⟨rfl, rfl, rfl, rfl, trivial⟩, H⟩
          ·replace h := Z8 hc5 h
           refine .exit ?_
           replace h := sj h; subst h
           exact ⟨nofun, ⟨rfl, trivial, H⟩⟩
         ·rintro x e σ ⟨rfl, he, H⟩
          obtain ⟨e, rfl⟩ := he.ex
          replace h := sj h; subst h
          exact ⟨.inl rfl, _, Z4r H .nil, _, ⟨rfl, rfl⟩, H⟩
        ·rintro _ _ σ ⟨rfl, rfl⟩ H
         refine .nila H fun H => ?_
         replace h := sj h; subst h
         exact ⟨rfl, ⟨rfl, rfl, rfl, rfl, rfl, rfl, rfl, rfl, trivial⟩, ((H.erase 1).erase 0)⟩
      ·rintro x e σ ⟨rfl, he, H⟩
       obtain ⟨e, rfl⟩ := he.ex
       replace h := sj h; subst h
       exact ⟨rfl, ⟨rfl, rfl, rfl, rfl, rfl, rfl, rfl, rfl, trivial⟩, H⟩
     ·rintro x e σ ⟨rfl, he, H⟩
      obtain ⟨e, rfl⟩ := he.ex
      refine .Z0 2 rfl H fun b22 σ H => (.int (m := s1.1) (m' := 1) (r := .int .i64 (w64 (s1.1 + 1))) rfl rfl rfl rfl rfl (.move (v := (vi (w64 (s1.1 + 1)))) rfl rfl (.nila H fun H => ?_)))
      replace h := sj h; subst h
      exact ⟨rfl, ⟨rfl, rfl, rfl, rfl, rfl, rfl, rfl, rfl, trivial⟩, H⟩
    ·replace h := Z8 hc3 h
     refine .exit ?_
     replace h := sj h; subst h
     exact ⟨nofun, ⟨rfl, ⟨rfl, rfl, rfl, rfl, rfl, trivial⟩, H⟩⟩
   ·rintro x e σ ⟨rfl, he, H⟩
    obtain ⟨e, rfl⟩ := he.ex
    refine .then (.then (.Z0 5 rfl H fun b23 σ H => (.Z2 (off := 0) (fo := 0) H 1 rfl rfl rfl rfl rfl nofun rfl (.Z2 (off := 0) (fo := 3) H 1 rfl rfl rfl rfl rfl nofun rfl (.ZC (off := 3) (v := (vl Granule.cs x1.Form.Odd)) H 1 rfl rfl rfl rfl rfl nofun rfl ?_)))))
    refine .Z0K (c := Granule.cs) (xs := x1.Form.Odd) rfl rfl rfl (.move (v := (vi 0)) rfl rfl (.nila H fun H => (.inBlock ?_)))
    obtain ⟨y10, hj10, h⟩ := bind_some h
    obtain ⟨n3, hj10⟩ := Zb.1 hj10
    refine .mono (Runs.ZO hj10 (fun s3 e σ => Z4 e [(1, (vi d)), (2, (vb up)), (9, (.ptr (b4 + 2) 5 0)), (10, (vi y1)), (11, (.ptr (b8 + 0) 2 0)), (61, (vl Granule.cs x1.Form.Odd)), (62, (vi (x1.Form.Odd.length : Int))), (63, (vi s3.1))] ∧ Hs σ [.blk (b8 + 0) 119 [(vi s3.2.1), (vb s3.2.2)], .blk (b4 + 2) 96 (vG x1)]) (fun y10 x e σ => x = .exit 2 ∧ Z4 e [(10, (vi y1)), (11, (.ptr (b8 + 0) 2 0))] ∧ Hs σ [.blk (b8 + 0) 119 [(vi y10.1), (vb y10.2)]]) ⟨⟨rfl, rfl, rfl, rfl, rfl, rfl, rfl, rfl, trivial⟩, H⟩ ?_) ?_
    ·intro s3 e σ hI z h
     obtain ⟨he, H⟩ := hI
     obtain ⟨e, rfl⟩ := he.ex
     unfold ZZ.s2 at h
     refine .then (.Z0 1 rfl H fun b24 σ H => (.int (m := s3.1) (m' := (x1.Form.Odd.length : Int)) (r := .bool (decide (s3.1 < (x1.Form.Odd.length : Int)))) rfl rfl rfl rfl rfl (.nila H fun H => (.then ?_))))
     refine .whether (v := (decide (s3.1 < (x1.Form.Odd.length : Int)))) rfl ?_ ?_ <;> intro hc8
     ·replace h := Z7 hc8 h
      refine .skip (.then ?_)
      obtain ⟨y11, hj11, h⟩ := bind_some h
      refine .mono (Q := fun x e σ => x = .normal ∧ Z4 e [(1, (vi d)), (2, (vb up)), (9, (.ptr (b4 + 2) 5 0)), (10, (vi y1)), (11, (.ptr (b8 + 0) 2 0)), (61, (vl Granule.cs x1.Form.Odd)), (62, (vi (x1.Form.Odd.length : Int))), (63, (vi s3.1))] ∧ Hs σ [.blk (b8 + 0) 119 [(vi y11.1), (vb y11.2)], .blk (b4 + 2) 96 (vG x1)]) ?_ ?_
      ·replace h := hj11
       refine .inBlock ?_
       obtain ⟨y12, hj12, h⟩ := bind_some h
       refine .mono (Q := fun x e σ => (∃ a1, y12 = (.go a1) ∧ x = .normal ∧ Z4 e [(1, (vi d)), (2, (vb up)), (9, (.ptr (b4 + 2) 5 0)), (10, (vi y1)), (11, (.ptr (b8 + 0) 2 0)), (61, (vl Granule.cs x1.Form.Odd)), (62, (vi (x1.Form.Odd.length : Int))), (63, (vi s3.1))] ∧ Hs σ [.blk (b8 + 0) 119 [(vi a1.1), (vb a1.2)], .blk (b4 + 2) 96 (vG x1)]) ∨ (∃ a2, y12 = (.ret a2) ∧ x = .exit 3 ∧ Z4 e [(1, (vi d)), (2, (vb up)), (9, (.ptr (b4 + 2) 5 0)), (10, (vi y1)), (11, (.ptr (b8 + 0) 2 0)), (61, (vl Granule.cs x1.Form.Odd)), (62, (vi (x1.Form.Odd.length : Int))), (63, (vi s3.1))] ∧ Hs σ [.blk (b8 + 0) 119 [(vi s3.2.1), (vb s3.2.2)], .blk (b4 + 2) 96 (vG x1)])) ?_ ?_
       ·replace h := hj12
        refine .then (.Z0 4 rfl H fun b25 σ H => ?_)
        obtain ⟨x5, q5, h⟩ := bind_some h
        refine .Zy (c := Granule.cs) (u := x5) rfl rfl q5 rfl rfl rfl rfl (.Z26 (cs := [(.int .i64 x5.Index), (.sl (x5.Ticks.map Span.cs))]) rfl rfl rfl rfl rfl rfl (.Zk (cs := [(vi 0), .nils]) H (by omega) (by omega) rfl rfl fun σ H => (.ZV (off := 0) (cells' := [(vi x5.Index), (vl Span.cs x5.Ticks)]) H 0 rfl rfl rfl rfl rfl rfl rfl rfl rfl nofun fun σ H => (.nila H fun H => (.then ?_)))))
        refine .Z0 9 rfl H fun b26 σ H => (.Z2 (off := 0) (fo := 1) H 0 rfl rfl rfl rfl rfl nofun rfl (.ZC (off := 1) (v := (vl Span.cs x5.Ticks)) H 0 rfl rfl rfl rfl rfl nofun rfl ?_))
        obtain ⟨x6, q6, h⟩ := bind_some h
        refine .call (ys := [(vl Span.cs x5.Ticks)]) (r := (.tup [(.agg [(vi x6.1.From), (vi x6.1.To)]), (vb x6.2)])) rfl (Z2z q6) rfl (.move (v := (.tup [(.agg [(vi x6.1.From), (vi x6.1.To)]), (vb x6.2)])) rfl rfl (.extract (v := (.agg [(vi x6.1.From), (vi x6.1.To)])) rfl rfl rfl (.extract (v := (vb x6.2)) rfl rfl rfl (.Zk (cs := [(vi 0), (vi 0)]) H (by omega) (by omega) rfl rfl fun σ H => (.ZV (off := 0) (cells' := [(vi x6.1.From), (vi x6.1.To)]) H 0 rfl rfl rfl rfl rfl rfl rfl rfl rfl nofun fun σ H => ?_)))))
        refine .assign (v := (vb x6.2)) rfl rfl (.nila H fun H => (.then (.then (.Z0 2 rfl H fun b27 σ H => (.move (v := (vb x6.2)) rfl rfl ?_)))))
        refine .not (b := x6.2) rfl rfl (.nila H fun H => ?_)
        refine .whether (v := (!x6.2)) rfl ?_ ?_ <;> intro hc9
        ·replace h := Z7 hc9 h
         refine .exit ?_
         replace h := sj h; subst h
         exact (.inr ⟨_, rfl, rfl, ⟨rfl, rfl, rfl, rfl, rfl, rfl, rfl, rfl, trivial⟩, ((H.erase 1).erase 0)⟩)
        ·replace h := Z8 hc9 h
         refine .skip (.then (.Z0w 6 rfl (by kernel_rfl) H fun b28 σ H B28 => (.Z2 (off := 0) (fo := 0) H 0 rfl rfl rfl rfl rfl (fun _ => .inl ⟨B28 0 _ rfl _ rfl, nofun, (fun _ => by kernel_rfl)⟩) rfl (.ZC (off := 0) (v := (vi x6.1.From)) H 0 rfl rfl rfl rfl rfl (fun _ => .inl ⟨B28 0 _ rfl _ rfl, nofun, (fun _ => by kernel_rfl)⟩) rfl (.Z2 (off := 0) (fo := 1) H 0 rfl rfl rfl rfl rfl (fun _ => .inl ⟨B28 0 _ rfl _ rfl, nofun, (fun _ => by kernel_rfl)⟩) rfl ?_)))))
         refine .ZC (off := 1) (v := (vi x6.1.To)) H 0 rfl rfl rfl rfl rfl (fun _ => .inl ⟨B28 0 _ rfl _ rfl, nofun, (fun _ => by kernel_rfl)⟩) rfl (.assign (v := (vi x6.1.From)) rfl rfl (.assign (v := (vi x6.1.To)) rfl rfl (.nila H fun H => (.then ?_))))
         obtain ⟨y13, hj13, h⟩ := bind_some h
         refine .mono (Q := fun x e σ => x = .normal ∧ Z4 e [(1, (vi d)), (2, (vb up)), (9, (.ptr (b4 + 2) 5 0)), (10, (vi y1)), (11, (.ptr (b8 + 0) 2 0)), (16, (.ptr (b25 + 2) 2 0)), (19, (vi y13.1)), (20, (vi y13.2)), (61, (vl Granule.cs x1.Form.Odd)), (62, (vi (x1.Form.Odd.length : Int))), (63, (vi s3.1))] ∧ Hs σ [.blk (b25 + 2) 76 [(vi x5.Index), (vl Span.cs x5.Ticks)], .blk (b8 + 0) 119 [(vi s3.2.1), (vb s3.2.2)], .blk (b4 + 2) 96 (vG x1)]) ?_ ?_
         ·replace h := hj13
          refine .then (.Z0 1 rfl H fun b29 σ H => (.move (v := (vb up)) rfl rfl (.nila H fun H => ?_)))
          refine .whether (v := up) rfl ?_ ?_ <;> intro hc10
          ·replace h := Z7 hc10 h
           refine .Z0 4 rfl H fun b30 σ H => (.move (v := (vi x6.1.To)) rfl rfl (.move (v := (vi x6.1.From)) rfl rfl (.assign (v := (vi x6.1.To)) rfl rfl (.assign (v := (vi x6.1.From)) rfl rfl (.nila H fun H => ?_)))))
           replace h := sj h; subst h
           exact ⟨rfl, ⟨rfl, rfl, rfl, rfl, rfl, rfl, rfl, rfl, rfl, rfl, rfl, trivial⟩, (H.erase 0)⟩
          ·replace h := Z8 hc10 h
           refine .skip ?_
           replace h := sj h; subst h
           exact ⟨rfl, ⟨rfl, rfl, rfl, rfl, rfl, rfl, rfl, rfl, rfl, rfl, rfl, trivial⟩, (H.erase 0)⟩
         ·rintro x e σ ⟨rfl, he, H⟩
          obtain ⟨e, rfl⟩ := he.ex
          refine .then ?_
          obtain ⟨y14, hj14, h⟩ := bind_some h
          refine .mono (Q := fun x e σ => x = .normal ∧ Z4 e [(1, (vi d)), (2, (vb up)), (9, (.ptr (b4 + 2) 5 0)), (10, (vi y1)), (11, (.ptr (b8 + 0) 2 0)), (16, (.ptr (b25 + 2) 2 0)), (19, (vi y13.1)), (61, (vl Granule.cs x1.Form.Odd)), (62, (vi (x1.Form.Odd.length : Int))), (63, (vi s3.1))] ∧ Hs σ [.blk (b25 + 2) 76 [(vi x5.Index), (vl Span.cs x5.Ticks)], .blk (b8 + 0) 119 [(vi y14.1), (vb y14.2)], .blk (b4 + 2) 96 (vG x1)]) ?_ ?_
          ·replace h := hj14
           refine .then (.Z0 11 rfl H fun b31 σ H => (.ZI (off := 0) (cs := (vG x1)) H 2 rfl rfl rfl rfl rfl rfl rfl nofun rfl (.move (v := (vi y13.2)) rfl rfl (.move (v := (vi d)) rfl rfl (.int (m := y13.2) (m' := d) (r := .int .i64 (w64 (y13.2 + d))) rfl rfl rfl rfl rfl ?_)))))
           refine .move (v := (vb up)) rfl rfl ?_
           obtain ⟨x7, q7, h⟩ := bind_some h
           refine .call (ys := [(.agg (vG x1)), (vi (w64 (y13.2 + d))), (vb up)]) (r := (.tup [(vi x7.1), (vb x7.2)])) rfl (Z4Q q7) rfl (.move (v := (.tup [(vi x7.1), (vb x7.2)])) rfl rfl (.extract (v := (vi x7.1)) rfl rfl rfl (.extract (v := (vb x7.2)) rfl rfl rfl (.assign (v := (vi x7.1)) rfl rfl (.assign (v := (vb x7.2)) rfl rfl ?_)))))
           refine .nila H fun H => (.then (.Z0 1 rfl H fun b32 σ H => (.move (v := (vb x7.2)) rfl rfl (.nila H fun H => ?_))))
           refine .whether (v := x7.2) rfl ?_ ?_ <;> intro hc11
           ·replace h := Z7 hc11 h
            refine .Z0 8 rfl H fun b33 σ H => (.move (v := (vi y1)) rfl rfl (.move (v := (vi x7.1)) rfl rfl (.Z2 (off := 0) (fo := 0) H 0 rfl rfl rfl rfl rfl nofun rfl (.ZC (off := 0) (v := (vi x5.Index)) H 0 rfl rfl rfl rfl rfl nofun rfl (.int (m := x7.1) (m' := x5.Index) (r := .int .i64 (w64 (x7.1 - x5.Index))) rfl rfl rfl rfl rfl ?_)))))
            refine .int (m := y1) (m' := (w64 (x7.1 - x5.Index))) (r := .int .i64 (w64 (y1 * (w64 (x7.1 - x5.Index))))) rfl rfl rfl rfl rfl (.Z3K (sz := 1) ([(w64 (y1 * (w64 (x7.1 - x5.Index))))].map (cI .i64)) H (by omega) (by omega) rfl rfl rfl rfl rfl rfl rfl rfl rfl fun σ H => ?_)
            obtain ⟨y15, hj15, h⟩ := bind_some h
            refine .callI (PostA := fun r A => r = (.tup []) ∧ A = [.sl (.buf (b33 + 6) 1 1) 3 1 (y15.1.map (cI .i64)) true, .blk (b25 + 2) 76 [(vi x5.Index), (vl Span.cs x5.Ticks)], .blk (b8 + 0) 119 [(vi y15.2.1), (vb y15.2.2)], .blk (b4 + 2) 96 (vG x1)]) (cv := (.v (.fn 86))) (ys := [(.ptr (b8 + 0) 2 0), (.buf (b33 + 6) 1 1)]) (L := []) [.sl (.buf (b33 + 6) 1 1) 3 1 ([(w64 (y1 * (w64 (x7.1 - x5.Index))))].map (cI .i64)) true, .blk (b25 + 2) 76 [(vi x5.Index), (vl Span.cs x5.Ticks)], .blk (b8 + 0) 119 [(vi s3.2.1), (vb s3.2.2)], .blk (b4 + 2) 96 (vG x1)] H rfl rfl (fun T2 hT H => Z5y Try.func86 rfl (fun _ => rfl) rfl rfl rfl rfl ?_) nofun rfl ?_
            ·replace h := hj15
             refine .then (.Z0 3 rfl H fun b34 σ H => (.move (v := (.buf (b33 + 6) 1 1)) rfl rfl (.lenSt (c := (cI .i64)) (xs := [(w64 (y1 * (w64 (x7.1 - x5.Index))))]) H 0 rfl rfl rfl nofun rfl (.move (v := (vi 0)) rfl rfl (.nila H fun H => ?_)))))
             refine .inBlock ?_
             obtain ⟨y16, hj16, h⟩ := bind_some h
             obtain ⟨n4, hj16⟩ := Zb.1 hj16
             refine .mono (Runs.ZO hj16 (fun s4 e σ => Z4 e [(0, (.ptr (b8 + 0) 2 0)), (6, (.buf (b33 + 6) 1 1)), (7, (vi s4.1)), (8, (vi s4.2.1))] ∧ Hs σ (.sl (.buf (b33 + 6) 1 1) 3 1 (s4.2.2.1.map (cI .i64)) true :: .blk (b25 + 2) 76 [(vi x5.Index), (vl Span.cs x5.Ticks)] :: .blk (b8 + 0) 119 [(vi s4.2.2.2.1), (vb s4.2.2.2.2)] :: .blk (b4 + 2) 96 (vG x1) :: T2)) (fun y16 x e σ => x = .exit 0 ∧ Z4 e [] ∧ Hs σ (.sl (.buf (b33 + 6) 1 1) 3 1 (y16.1.map (cI .i64)) true :: .blk (b25 + 2) 76 [(vi x5.Index), (vl Span.cs x5.Ticks)] :: .blk (b8 + 0) 119 [(vi y16.2.1), (vb y16.2.2)] :: .blk (b4 + 2) 96 (vG x1) :: T2)) ⟨⟨rfl, rfl, rfl, rfl, trivial⟩, H⟩ ?_) ?_
             ·intro s4 e σ hI z h
              obtain ⟨he, H⟩ := hI
              obtain ⟨e, rfl⟩ := he.ex
              unfold ZZ.s3 at h
              refine .then (.Z0 1 rfl H fun b35 σ H => (.int (m := s4.2.1) (m' := s4.1) (r := .bool (decide (s4.2.1 < s4.1))) rfl rfl rfl rfl rfl (.nila H fun H => (.then ?_))))
              refine .whether (v := (decide (s4.2.1 < s4.1))) rfl ?_ ?_ <;> intro hc12
              ·replace h := Z7 hc12 h
               refine .skip (.then ?_)
               obtain ⟨y17, hj17, h⟩ := bind_some h
               refine .mono (Q := fun x e σ => x = .normal ∧ Z4 e [(0, (.ptr (b8 + 0) 2 0)), (6, (.buf (b33 + 6) 1 1)), (7, (vi s4.1)), (8, (vi s4.2.1))] ∧ Hs σ (.sl (.buf (b33 + 6) 1 1) 3 1 (s4.2.2.1.map (cI .i64)) true :: .blk (b25 + 2) 76 [(vi x5.Index), (vl Span.cs x5.Ticks)] :: .blk (b8 + 0) 119 [(vi y17.1), (vb y17.2)] :: .blk (b4 + 2) 96 (vG x1) :: T2)) ?_ ?_
               ·replace h := hj17
                refine .inBlock ?_
                obtain ⟨y18, hj18, h⟩ := bind_some h
                refine .mono (Q := fun x e σ => x = .normal ∧ Z4 e [(0, (.ptr (b8 + 0) 2 0)), (6, (.buf (b33 + 6) 1 1)), (7, (vi s4.1)), (8, (vi s4.2.1))] ∧ Hs σ (.sl (.buf (b33 + 6) 1 1) 3 1 (s4.2.2.1.map (cI .i64)) true :: .blk (b25 + 2) 76 [(vi x5.Index), (vl Span.cs x5.Ticks)] :: .blk (b8 + 0) 119 [(vi y18.1), (vb y18.2)] :: .blk (b4 + 2) 96 (vG x1) :: T2)) ?_ ?_
                ·replace h := hj18
                 refine .then (.Z0 3 rfl H fun b36 σ H => ?_)
                 obtain ⟨x8, q8, h⟩ := bind_some h
                 refine .Z77 H 0 rfl rfl rfl (at?_map q8) rfl rfl nofun rfl ?_; intro id2 hv2
                 refine .loadS (id := id2) (j := 0) (w := (.int .i64 x8)) H 0 rfl hv2 (by simp) (at?_map q8) rfl (by simp) rfl rfl rfl nofun rfl ?_
                 refine .assign (v := (vi x8)) rfl rfl (.nila H fun H => (.then (.Z0 13 rfl H fun b37 σ H => (.move (v := (.ptr (b8 + 0) 2 0)) rfl rfl (.Z0T (off := 0) H 2 rfl rfl rfl nofun rfl ?_)))))
                 refine .Z2 (off := 0) (fo := 1) H 2 rfl rfl rfl rfl rfl nofun rfl (.ZC (off := 1) (v := (vb s4.2.2.2.2)) H 2 rfl rfl rfl rfl rfl nofun rfl (.not (b := s4.2.2.2.2) rfl rfl (.move (v := (vb (!s4.2.2.2.2))) rfl rfl ?_)))
                 refine .mid 7 (K1 := fun e σ => Z4 e [(24, (vb ((!s4.2.2.2.2) || (decide (x8 > s4.2.2.2.1))))), (0, (.ptr (b8 + 0) 2 0)), (5, (vi x8)), (6, (.buf (b33 + 6) 1 1)), (7, (vi s4.1)), (8, (vi s4.2.1))] ∧ Has σ (b37 + 13) (b37 + 13) (.sl (.buf (b33 + 6) 1 1) 3 1 (s4.2.2.1.map (cI .i64)) true :: .blk (b25 + 2) 76 [(vi x5.Index), (vl Span.cs x5.Ticks)] :: .blk (b8 + 0) 119 [(vi s4.2.2.2.1), (vb s4.2.2.2.2)] :: .blk (b4 + 2) 96 (vG x1) :: T2)) rfl ?_ ?_
                 ·refine .split rfl rfl ?_ ?_ <;> intro hc13
                  ·skip
                   refine .pass rfl rfl rfl (.pass rfl rfl rfl (.pass rfl rfl rfl (.pass rfl rfl rfl (.pass rfl rfl rfl (.pass rfl rfl rfl ?_)))))
                   refine .Zf (v := (vb true)) rfl rfl rfl (.nil ?_)
                   exact ⟨⟨or_T hc13, rfl, rfl, rfl, rfl, rfl, trivial⟩, H.weak (by omega) (Nat.le_refl _)⟩
                  ·skip
                   refine .wanted rfl rfl (.move (v := (vi x8)) rfl rfl (.wanted rfl rfl (.move (v := (.ptr (b8 + 0) 2 0)) rfl rfl (.wanted rfl rfl (.Z0T (off := 0) H 2 rfl rfl rfl nofun rfl ?_)))))
                   refine .wanted rfl rfl (.Z2 (off := 0) (fo := 0) H 2 rfl rfl rfl rfl rfl nofun rfl (.wanted rfl rfl (.ZC (off := 0) (v := (vi s4.2.2.2.1)) H 2 rfl rfl rfl rfl rfl nofun rfl (.wanted rfl rfl (.int (m := x8) (m' := s4.2.2.2.1) (r := .bool (decide (x8 > s4.2.2.2.1))) rfl rfl rfl rfl rfl ?_)))))
                   refine .Zh (v := (vb (decide (x8 > s4.2.2.2.1)))) rfl rfl rfl (.nil ?_)
                   exact ⟨⟨or_F hc13, rfl, rfl, rfl, rfl, rfl, trivial⟩, H.weak (by omega) (Nat.le_refl _)⟩
                 ·rintro e σ ⟨he, H⟩
                  obtain ⟨e, rfl⟩ := he.ex
                  refine .nila H fun H => ?_
                  refine .whether (v := ((!s4.2.2.2.2) || (decide (x8 > s4.2.2.2.1)))) rfl ?_ ?_ <;> intro hc14
                  ·replace h := Z7 hc14 h
                   refine .Z0 9 rfl H fun b38 σ H => (.move (v := (.ptr (b8 + 0) 2 0)) rfl rfl (.move (v := (.ptr (b8 + 0) 2 0)) rfl rfl (.move (v := (vi x8)) rfl rfl (.Z0T (off := 0) H 2 rfl rfl rfl nofun rfl (.Z2 (off := 0) (fo := 0) H 2 rfl rfl rfl rfl rfl nofun rfl ?_)))))
                   refine .ZV (off := 0) (cells' := [(vi x8), (vb s4.2.2.2.2)]) H 2 rfl rfl rfl rfl rfl rfl rfl rfl rfl nofun fun σ H => (.Z0T (off := 0) H 2 rfl rfl rfl nofun rfl (.Z2 (off := 0) (fo := 1) H 2 rfl rfl rfl rfl rfl nofun rfl (.ZV (off := 1) (cells' := [(vi x8), (vb true)]) H 2 rfl rfl rfl rfl rfl rfl rfl rfl rfl nofun fun σ H => (.nila H fun H => ?_))))
                   replace h := sj h; subst h
                   exact ⟨rfl, ⟨rfl, rfl, rfl, rfl, trivial⟩, H⟩
                  ·replace h := Z8 hc14 h
                   refine .skip ?_
                   replace h := sj h; subst h
                   exact ⟨rfl, ⟨rfl, rfl, rfl, rfl, trivial⟩, H⟩
                ·rintro x e σ ⟨rfl, he, H⟩
                 obtain ⟨e, rfl⟩ := he.ex
                 replace h := sj h; subst h
                 exact ⟨rfl, ⟨rfl, rfl, rfl, rfl, trivial⟩, H⟩
               ·rintro x e σ ⟨rfl, he, H⟩
                obtain ⟨e, rfl⟩ := he.ex
                refine .Z0 2 rfl H fun b39 σ H => (.int (m := s4.2.1) (m' := 1) (r := .int .i64 (w64 (s4.2.1 + 1))) rfl rfl rfl rfl rfl (.move (v := (vi (w64 (s4.2.1 + 1)))) rfl rfl (.nila H fun H => ?_)))
                replace h := sj h; subst h
                exact ⟨rfl, ⟨rfl, rfl, rfl, rfl, trivial⟩, H⟩
              ·replace h := Z8 hc12 h
               refine .exit ?_
               replace h := sj h; subst h
               exact ⟨nofun, ⟨rfl, trivial, H⟩⟩
             ·rintro x e σ ⟨rfl, he, H⟩
              obtain ⟨e, rfl⟩ := he.ex
              replace h := sj h; subst h
              exact ⟨.inl rfl, _, Z4r H .nil, _, ⟨rfl, rfl⟩, H⟩
            ·rintro _ _ σ ⟨rfl, rfl⟩ H
             refine .nila H fun H => ?_
             replace h := sj h; subst h
             exact ⟨rfl, ⟨rfl, rfl, rfl, rfl, rfl, rfl, rfl, rfl, rfl, rfl, trivial⟩, (H.erase 0)⟩
           ·replace h := Z8 hc11 h
            refine .skip ?_
            replace h := sj h; subst h
            exact ⟨rfl, ⟨rfl, rfl, rfl, rfl, rfl, rfl, rfl, rfl, rfl, rfl, trivial⟩, H⟩
          ·rintro x e σ ⟨rfl, he, H⟩
           obtain ⟨e, rfl⟩ := he.ex
           refine .then (.Z0 12 rfl H fun b40 σ H => (.ZI (off := 0) (cs := (vG x1)) H 2 rfl rfl rfl rfl rfl rfl rfl nofun rfl (.move (v := (vi y13.1)) rfl rfl (.move (v := (vi d)) rfl rfl (.int (m := y13.1) (m' := d) (r := .int .i64 (w64 (y13.1 - d))) rfl rfl rfl rfl rfl ?_)))))
           refine .move (v := (vb up)) rfl rfl (.not (b := up) rfl rfl ?_)
           obtain ⟨x9, q9, h⟩ := bind_some h
           refine .call (ys := [(.agg (vG x1)), (vi (w64 (y13.1 - d))), (vb (!up))]) (r := (.tup [(vi x9.1), (vb x9.2)])) rfl (Z4Q q9) rfl (.move (v := (.tup [(vi x9.1), (vb x9.2)])) rfl rfl (.extract (v := (vi x9.1)) rfl rfl rfl (.extract (v := (vb x9.2)) rfl rfl rfl (.assign (v := (vi x9.1)) rfl rfl (.assign (v := (vb x9.2)) rfl rfl ?_)))))
           refine .nila H fun H => (.then (.Z0 1 rfl H fun b41 σ H => (.move (v := (vb x9.2)) rfl rfl (.nila H fun H => ?_))))
           refine .whether (v := x9.2) rfl ?_ ?_ <;> intro hc15
           ·replace h := Z7 hc15 h
            refine .Z0 8 rfl H fun b42 σ H => (.move (v := (vi y1)) rfl rfl (.Z2 (off := 0) (fo := 0) H 0 rfl rfl rfl rfl rfl nofun rfl (.ZC (off := 0) (v := (vi x5.Index)) H 0 rfl rfl rfl rfl rfl nofun rfl (.move (v := (vi x9.1)) rfl rfl (.int (m := x5.Index) (m' := x9.1) (r := .int .i64 (w64 (x5.Index - x9.1))) rfl rfl rfl rfl rfl ?_)))))
            refine .int (m := y1) (m' := (w64 (x5.Index - x9.1))) (r := .int .i64 (w64 (y1 * (w64 (x5.Index - x9.1))))) rfl rfl rfl rfl rfl (.Z3K (sz := 1) ([(w64 (y1 * (w64 (x5.Index - x9.1))))].map (cI .i64)) H (by omega) (by omega) rfl rfl rfl rfl rfl rfl rfl rfl rfl fun σ H => ?_)
            obtain ⟨y19, hj19, h⟩ := bind_some h
            refine .callI (PostA := fun r A => r = (.tup []) ∧ A = [.sl (.buf (b42 + 6) 1 1) 3 1 (y19.1.map (cI .i64)) true, .blk (b25 + 2) 76 [(vi x5.Index), (vl Span.cs x5.Ticks)], .blk (b8 + 0) 119 [(vi y19.2.1), (vb y19.2.2)], .blk (b4 + 2) 96 (vG x1)]) (cv := (.v (.fn 86))) (ys := [(.ptr (b8 + 0) 2 0), (.buf (b42 + 6) 1 1)]) (L := []) [.sl (.buf (b42 + 6) 1 1) 3 1 ([(w64 (y1 * (w64 (x5.Index - x9.1))))].map (cI .i64)) true, .blk (b25 + 2) 76 [(vi x5.Index), (vl Span.cs x5.Ticks)], .blk (b8 + 0) 119 [(vi y14.1), (vb y14.2)], .blk (b4 + 2) 96 (vG x1)] H rfl rfl (fun T3 hT H => Z5y Try.func86 rfl (fun _ => rfl) rfl rfl rfl rfl ?_) nofun rfl ?_
            ·replace h := hj19
             refine .then (.Z0 3 rfl H fun b43 σ H => (.move (v := (.buf (b42 + 6) 1 1)) rfl rfl (.lenSt (c := (cI .i64)) (xs := [(w64 (y1 * (w64 (x5.Index - x9.1))))]) H 0 rfl rfl rfl nofun rfl (.move (v := (vi 0)) rfl rfl (.nila H fun H => ?_)))))
             refine .inBlock ?_
             obtain ⟨y20, hj20, h⟩ := bind_some h
             obtain ⟨n5, hj20⟩ := Zb.1 hj20
             refine .mono (Runs.ZO hj20 (fun s5 e σ => Z4 e [(0, (.ptr (b8 + 0) 2 0)), (6, (.buf (b42 + 6) 1 1)), (7, (vi s5.1)), (8, (vi s5.2.1))] ∧ Hs σ (.sl (.buf (b42 + 6) 1 1) 3 1 (s5.2.2.1.map (cI .i64)) true :: .blk (b25 + 2) 76 [(vi x5.Index), (vl Span.cs x5.Ticks)] :: .blk (b8 + 0) 119 [(vi s5.2.2.2.1), (vb s5.2.2.2.2)] :: .blk (b4 + 2) 96 (vG x1) :: T3)) (fun y20 x e σ => x = .exit 0 ∧ Z4 e [] ∧ Hs σ (.sl (.buf (b42 + 6) 1 1) 3 1 (y20.1.map (cI .i64)) true :: .blk (b25 + 2) 76 [(vi x5.Index), (vl Span.cs x5.Ticks)] :: .blk (b8 + 0) 119 [(vi y20.2.1), (vb y20.2.2)] :: .blk (b4 + 2) 96 (vG x1) :: T3)) ⟨⟨rfl, rfl, rfl, rfl, trivial⟩, H⟩ ?_) ?_
             ·intro s5 e σ hI z h
              obtain ⟨he, H⟩ := hI
              obtain ⟨e, rfl⟩ := he.ex
              unfold ZZ.s4 at h
              refine .then (.Z0 1 rfl H fun b44 σ H => (.int (m := s5.2.1) (m' := s5.1) (r := .bool (decide (s5.2.1 < s5.1))) rfl rfl rfl rfl rfl (.nila H fun H => (.then ?_))))
              refine .whether (v := (decide (s5.2.1 < s5.1))) rfl ?_ ?_ <;> intro hc16
              ·replace h := Z7 hc16 h
               refine .skip (.then ?_)
               obtain ⟨y21, hj21, h⟩ := bind_some h
               refine .mono (Q := fun x e σ => x = .normal ∧ Z4 e [(0, (.ptr (b8 + 0) 2 0)), (6, (.buf (b42 + 6) 1 1)), (7, (vi s5.1)), (8, (vi s5.2.1))] ∧ Hs σ (.sl (.buf (b42 + 6) 1 1) 3 1 (s5.2.2.1.map (cI .i64)) true :: .blk (b25 + 2) 76 [(vi x5.Index), (vl Span.cs x5.Ticks)] :: .blk (b8 + 0) 119 [(vi y21.1), (vb y21.2)] :: .blk (b4 + 2) 96 (vG x1) :: T3)) ?_ ?_
               ·replace h := hj21
                refine .inBlock ?_
                obtain ⟨y22, hj22, h⟩ := bind_some h
                refine .mono (Q := fun x e σ => x = .normal ∧ Z4 e [(0, (.ptr (b8 + 0) 2 0)), (6, (.buf (b42 + 6) 1 1)), (7, (vi s5.1)), (8, (vi s5.2.1))] ∧ Hs σ (.sl (.buf (b42 + 6) 1 1) 3 1 (s5.2.2.1.map (cI .i64)) true :: .blk (b25 + 2) 76 [(vi x5.Index), (vl Span.cs x5.Ticks)] :: .blk (b8 + 0) 119 [(vi y22.1), (vb y22.2)] :: .blk (b4 + 2) 96 (vG x1) :: T3)) ?_ ?_
                ·replace h := hj22
                 refine .then (.Z0 3 rfl H fun b45 σ H => ?_)
                 obtain ⟨x10, q10, h⟩ := bind_some h
                 refine .Z77 H 0 rfl rfl rfl (at?_map q10) rfl rfl nofun rfl ?_; intro id3 hv3
                 refine .loadS (id := id3) (j := 0) (w := (.int .i64 x10)) H 0 rfl hv3 (by simp) (at?_map q10) rfl (by simp) rfl rfl rfl nofun rfl ?_
                 refine .assign (v := (vi x10)) rfl rfl (.nila H fun H => (.then (.Z0 13 rfl H fun b46 σ H => (.move (v := (.ptr (b8 + 0) 2 0)) rfl rfl (.Z0T (off := 0) H 2 rfl rfl rfl nofun rfl ?_)))))
                 refine .Z2 (off := 0) (fo := 1) H 2 rfl rfl rfl rfl rfl nofun rfl (.ZC (off := 1) (v := (vb s5.2.2.2.2)) H 2 rfl rfl rfl rfl rfl nofun rfl (.not (b := s5.2.2.2.2) rfl rfl (.move (v := (vb (!s5.2.2.2.2))) rfl rfl ?_)))
                 refine .mid 7 (K1 := fun e σ => Z4 e [(24, (vb ((!s5.2.2.2.2) || (decide (x10 > s5.2.2.2.1))))), (0, (.ptr (b8 + 0) 2 0)), (5, (vi x10)), (6, (.buf (b42 + 6) 1 1)), (7, (vi s5.1)), (8, (vi s5.2.1))] ∧ Has σ (b46 + 13) (b46 + 13) (.sl (.buf (b42 + 6) 1 1) 3 1 (s5.2.2.1.map (cI .i64)) true :: .blk (b25 + 2) 76 [(vi x5.Index), (vl Span.cs x5.Ticks)] :: .blk (b8 + 0) 119 [(vi s5.2.2.2.1), (vb s5.2.2.2.2)] :: .blk (b4 + 2) 96 (vG x1) :: T3)) rfl ?_ ?_
                 ·refine .split rfl rfl ?_ ?_ <;> intro hc17
                  ·skip
                   refine .pass rfl rfl rfl (.pass rfl rfl rfl (.pass rfl rfl rfl (.pass rfl rfl rfl (.pass rfl rfl rfl (.pass rfl rfl rfl ?_)))))
                   refine .Zf (v := (vb true)) rfl rfl rfl (.nil ?_)
                   exact ⟨⟨or_T hc17, rfl, rfl, rfl, rfl, rfl, trivial⟩, H.weak (by omega) (Nat.le_refl _)⟩
                  ·skip
                   refine .wanted rfl rfl (.move (v := (vi x10)) rfl rfl (.wanted rfl rfl (.move (v := (.ptr (b8 + 0) 2 0)) rfl rfl (.wanted rfl rfl (.Z0T (off := 0) H 2 rfl rfl rfl nofun rfl ?_)))))
                   refine .wanted rfl rfl (.Z2 (off := 0) (fo := 0) H 2 rfl rfl rfl rfl rfl nofun rfl (.wanted rfl rfl (.ZC (off := 0) (v := (vi s5.2.2.2.1)) H 2 rfl rfl rfl rfl rfl nofun rfl (.wanted rfl rfl (.int (m := x10) (m' := s5.2.2.2.1) (r := .bool (decide (x10 > s5.2.2.2.1))) rfl rfl rfl rfl rfl ?_)))))
                   refine .Zh (v := (vb (decide (x10 > s5.2.2.2.1)))) rfl rfl rfl (.nil ?_)
                   exact ⟨⟨or_F hc17, rfl, rfl, rfl, rfl, rfl, trivial⟩, H.weak (by omega) (Nat.le_refl _)⟩
                 ·rintro e σ ⟨he, H⟩
                  obtain ⟨e, rfl⟩ := he.ex
                  refine .nila H fun H => ?_
                  refine .whether (v := ((!s5.2.2.2.2) || (decide (x10 > s5.2.2.2.1)))) rfl ?_ ?_ <;> intro hc18
                  ·replace h := Z7 hc18 h
                   refine .Z0 9 rfl H fun b47 σ H => (.move (v := (.ptr (b8 + 0) 2 0)) rfl rfl (.move (v := (.ptr (b8 + 0) 2 0)) rfl rfl (.move (v := (vi x10)) rfl rfl (.Z0T (off := 0) H 2 rfl rfl rfl nofun rfl (.Z2 (off := 0) (fo := 0) H 2 rfl rfl rfl rfl rfl nofun rfl ?_)))))
                   refine .ZV (off := 0) (cells' := [(vi x10), (vb s5.2.2.2.2)]) H 2 rfl rfl rfl rfl rfl rfl rfl rfl rfl nofun fun σ H => (.Z0T (off := 0) H 2 rfl rfl rfl nofun rfl (.Z2 (off := 0) (fo := 1) H 2 rfl rfl rfl rfl rfl nofun rfl (.ZV (off := 1) (cells' := [(vi x10), (vb true)]) H 2 rfl rfl rfl rfl rfl rfl rfl rfl rfl nofun fun σ H => (.nila H fun H => ?_))))
                   replace h := sj h; subst h
                   exact ⟨rfl, ⟨rfl, rfl, rfl, rfl, trivial⟩, H⟩
                  ·replace h := Z8 hc18 h
                   refine .skip ?_
                   replace h := sj h; subst h
                   exact ⟨rfl, ⟨rfl, rfl, rfl, rfl, trivial⟩, H⟩
                ·rintro x e σ ⟨rfl, he, H⟩
                 obtain ⟨e, rfl⟩ := he.ex
                 replace h := sj h; subst h
                 exact ⟨rfl, ⟨rfl, rfl, rfl, rfl, trivial⟩, H⟩
               ·rintro x e σ ⟨rfl, he, H⟩
                obtain ⟨e, rfl⟩ := he.ex
                refine .Z0 2 rfl H fun b48 σ H => (.int (m := s5.2.1) (m' := 1) (r := .int .i64 (w64 (s5.2.1 + 1))) rfl rfl rfl rfl rfl (.move (v := (vi (w64 (s5.2.1 + 1)))) rfl rfl (.nila H fun H => ?_)))
                replace h := sj h; subst h
                exact ⟨rfl, ⟨rfl, rfl, rfl, rfl, trivial⟩, H⟩
              ·replace h := Z8 hc16 h
               refine .exit ?_
               replace h := sj h; subst h
               exact ⟨nofun, ⟨rfl, trivial, H⟩⟩
             ·rintro x e σ ⟨rfl, he, H⟩
              obtain ⟨e, rfl⟩ := he.ex
              replace h := sj h; subst h
              exact ⟨.inl rfl, _, Z4r H .nil, _, ⟨rfl, rfl⟩, H⟩
            ·rintro _ _ σ ⟨rfl, rfl⟩ H
             refine .nila H fun H => ?_
             replace h := sj h; subst h
             exact (.inl ⟨_, rfl, rfl, ⟨rfl, rfl, rfl, rfl, rfl, rfl, rfl, rfl, trivial⟩, ((H.erase 1).erase 0)⟩)
           ·replace h := Z8 hc15 h
            refine .skip ?_
            replace h := sj h; subst h
            exact (.inl ⟨_, rfl, rfl, ⟨rfl, rfl, rfl, rfl, rfl, rfl, rfl, rfl, trivial⟩, (H.erase 0)⟩)
       ·rintro x e σ (⟨a3, rfl, rfl, he, H⟩ | ⟨a4, rfl, rfl, he, H⟩)
        ·skip
         replace h := jgo h
         obtain ⟨e, rfl⟩ := he.ex
         replace h := sj h; subst h
         exact ⟨rfl, ⟨rfl, rfl, rfl, rfl, rfl, rfl, rfl, rfl, trivial⟩, H⟩
        ·skip
         replace h := jret h
         obtain ⟨e, rfl⟩ := he.ex
         replace h := sj h; subst h
         exact ⟨rfl, ⟨rfl, rfl, rfl, rfl, rfl, rfl, rfl, rfl, trivial⟩, H⟩
      ·rintro x e σ ⟨rfl, he, H⟩
       obtain ⟨e, rfl⟩ := he.ex
       refine .Z0 2 rfl H fun b49 σ H => (.int (m := s3.1) (m' := 1) (r := .int .i64 (w64 (s3.1 + 1))) rfl rfl rfl rfl rfl (.move (v := (vi (w64 (s3.1 + 1)))) rfl rfl (.nila H fun H => ?_)))
       replace h := sj h; subst h
       exact ⟨rfl, ⟨rfl, rfl, rfl, rfl, rfl, rfl, rfl, rfl, trivial⟩, H⟩
     ·replace h := Z8 hc8 h
      refine .exit ?_
      replace h := sj h; subst h
      exact ⟨nofun, ⟨rfl, ⟨rfl, rfl, trivial⟩, (H.erase 1)⟩⟩
    ·rintro x e σ ⟨rfl, he, H⟩
     obtain ⟨e, rfl⟩ := he.ex
     refine .then (.Z0w 9 rfl (by kernel_rfl) H fun b50 σ H B50 => (.move (v := (vi y1)) rfl rfl (.Z2 (off := 0) (fo := 0) H 0 rfl rfl rfl rfl rfl (fun _ => .inl ⟨B50 0 _ rfl _ rfl, nofun, (fun _ => by kernel_rfl)⟩) rfl (.ZC (off := 0) (v := (vi y10.1)) H 0 rfl rfl rfl rfl rfl (fun _ => .inl ⟨B50 0 _ rfl _ rfl, nofun, (fun _ => by kernel_rfl)⟩) rfl (.int (m := y1) (m' := y10.1) (r := .int .i64 (w64 (y1 * y10.1))) rfl rfl rfl rfl rfl ?_)))))
     refine .Z2 (off := 0) (fo := 1) H 0 rfl rfl rfl rfl rfl (fun _ => .inl ⟨B50 0 _ rfl _ rfl, nofun, (fun _ => by kernel_rfl)⟩) rfl (.ZC (off := 1) (v := (vb y10.2)) H 0 rfl rfl rfl rfl rfl (fun _ => .inl ⟨B50 0 _ rfl _ rfl, nofun, (fun _ => by kernel_rfl)⟩) rfl (.assign (v := (vi (w64 (y1 * y10.1)))) rfl rfl (.assign (v := (vb y10.2)) rfl rfl (.assign (v := (vi 0)) rfl rfl (.nila H fun H => ?_)))))
     refine .ret ?_
     replace h := sj h; subst h
     exact (Ends.H (xs := [(vi (w64 (y1 * y10.1))), (vb y10.2), (vi 0)]) (.inr rfl) H (.tmp (v := (vi (w64 (y1 * y10.1)))) rfl (.tmp (v := (vb y10.2)) rfl (.tmp (v := (vi 0)) rfl .nil))) (.two (.cons (.c (.v _)) (.cons (.c (.v _)) (.cons (.c (.v _)) .nil)))))

theorem Z7r {f : Form} {d : Int} {r : Int × Bool × Int} (h : Z3C f d = some r) : Fn CX 34 [(.agg (vs (Form.cs f))), (vi d)] (.tup [(vi r.1), (vb r.2.1), (vi r.2.2)]) := by
 refine Fn.ends Try.func34 rfl rfl rfl rfl rfl rfl ?_
 have H : Hs (⟨0, fun _ => .none⟩ : Heap) [] := Has.nil (Nat.le_refl _)
 generalize (⟨0, fun _ => .none⟩ : Heap) = σ at H ⊢
 unfold Z3C at h
 refine .then (.Z0 4 rfl H fun b1 σ H => (.boxH (cs := (vF f)) H (by omega) (by omega) rfl rfl rfl fun σ H => (.assign (v := (vi 0)) rfl rfl (.assign (v := (vb false)) rfl rfl (.assign (v := (vi 0)) rfl rfl ?_)))))
 refine .nila H fun H => (.then (.Z0 9 rfl H fun b2 σ H => (.ZI (off := 0) (cs := (vF f)) H 0 rfl rfl rfl rfl rfl rfl rfl nofun rfl (.move (v := (vi d)) rfl rfl ?_))))
 obtain ⟨x1, q1, h⟩ := bind_some h
 refine .call (ys := [(.agg (vF f)), (vi d), (vb false)]) (r := (.tup [(vi x1.1), (vb x1.2.1), (vi x1.2.2)])) rfl (Z8w q1) rfl (.extract (v := (vi x1.1)) rfl rfl rfl (.extract (v := (vb x1.2.1)) rfl rfl rfl (.extract (v := (vi x1.2.2)) rfl rfl rfl (.assign (v := (vi x1.1)) rfl rfl (.assign (v := (vb x1.2.1)) rfl rfl ?_)))))
 refine .assign (v := (vi x1.2.2)) rfl rfl (.nila H fun H => (.ret ?_))
 replace h := sj h; subst h
 exact (Ends.H (xs := [(vi x1.1), (vb x1.2.1), (vi x1.2.2)]) (.inr rfl) H (.tmp (v := (vi x1.1)) rfl (.tmp (v := (vb x1.2.1)) rfl (.tmp (v := (vi x1.2.2)) rfl .nil))) (.two (.cons (.c (.v _)) (.cons (.c (.v _)) (.cons (.c (.v _)) .nil)))))

theorem Z5V {a : carry_asked} {gap : Int} {r : Bool} (h : Z0c a gap = some r) : Fn CX 46 [(.agg (vs (carry_asked.cs a))), (vi gap)] (vb r) := by
 refine Fn.ends Try.func46 rfl rfl rfl rfl rfl rfl ?_
 have H : Hs (⟨0, fun _ => .none⟩ : Heap) [] := Has.nil (Nat.le_refl _)
 generalize (⟨0, fun _ => .none⟩ : Heap) = σ at H ⊢
 unfold Z0c at h
 refine .then (.Z0 2 rfl H fun b1 σ H => (.boxH (cs := [(vi a.f.Period), (vi a.f.Count), (vl (cL Span.cs) a.f.Core), (vl Granule.cs a.f.Odd), (vi a.m)]) H (by omega) (by omega) rfl rfl rfl fun σ H => (.assign (v := (vb false)) rfl rfl (.nila H fun H => (.then ?_)))))
 refine .Z0 12 rfl H fun b2 σ H => (.Z2 (off := 0) (fo := 0) H 0 rfl rfl rfl rfl rfl nofun rfl (.ZI (off := 0) (cs := (vF a.f)) H 0 rfl rfl rfl rfl rfl rfl rfl nofun rfl (.move (v := (vi gap)) rfl rfl (.int (m := gap) (m' := 1099511627776) (r := .int .i64 (w64 (gap - 1099511627776))) rfl rfl rfl rfl rfl ?_))))
 obtain ⟨x1, q1, h⟩ := bind_some h
 refine .call (ys := [(.agg (vF a.f)), (vi (w64 (gap - 1099511627776)))]) (r := (.tup [(vi x1.1), (vb x1.2.1), (vi x1.2.2)])) rfl (Z7r q1) rfl (.move (v := (.tup [(vi x1.1), (vb x1.2.1), (vi x1.2.2)])) rfl rfl (.extract (v := (vi x1.1)) rfl rfl rfl (.extract (v := (vb x1.2.1)) rfl rfl rfl (.extract (v := (vi x1.2.2)) rfl rfl rfl (.assign (v := (vi x1.1)) rfl rfl ?_)))))
 refine .assign (v := (vb x1.2.1)) rfl rfl (.assign (v := (vi x1.2.2)) rfl rfl (.nila H fun H => (.then (.Z0 12 rfl H fun b3 σ H => (.move (v := (vb x1.2.1)) rfl rfl ?_)))))
 refine .move (v := (vb x1.2.1)) rfl rfl ?_
 refine .mid 3 (K1 := fun e σ => Z4 e [(21, (vb (x1.2.1 && (x1.2.2 == 0)))), (2, (.ptr (b1 + 0) 5 0)), (5, (vi x1.1))] ∧ Has σ (b3 + 5) (b3 + 12) [.blk (b1 + 0) 82 [(vi a.f.Period), (vi a.f.Count), (vl (cL Span.cs) a.f.Core), (vl Granule.cs a.f.Odd), (vi a.m)]]) rfl ?_ ?_
 ·refine .split rfl rfl ?_ ?_ <;> intro hc1
  ·skip
   refine .wanted rfl rfl (.move (v := (vi x1.2.2)) rfl rfl (.wanted rfl rfl (.int (m := x1.2.2) (m' := 0) (r := .bool (x1.2.2 == 0)) rfl rfl rfl rfl rfl (.Zf (v := (vb (x1.2.2 == 0))) rfl rfl rfl (.nil ?_)))))
   exact ⟨⟨Z15 hc1, rfl, rfl, trivial⟩, H.weak (by omega) (Nat.le_refl _)⟩
  ·skip
   refine .pass rfl rfl rfl (.pass rfl rfl rfl (.Zh (v := (vb false)) rfl rfl rfl (.nil ?_)))
   exact ⟨⟨Z19 hc1, rfl, rfl, trivial⟩, H.weak (by omega) (Nat.le_refl _)⟩
 ·rintro e σ ⟨he, H⟩
  obtain ⟨e, rfl⟩ := he.ex
  refine .move (v := (vb (x1.2.1 && (x1.2.2 == 0)))) rfl rfl ?_
  refine .mid 5 (K1 := fun e σ => Z4 e [(27, (vb ((x1.2.1 && (x1.2.2 == 0)) && (decide (x1.1 ≥ a.m)))))] ∧ Has σ (b3 + 11) (b3 + 12) []) rfl ?_ ?_
  ·refine .split rfl rfl ?_ ?_ <;> intro hc2
   ·skip
    refine .wanted rfl rfl (.move (v := (vi x1.1)) rfl rfl (.wanted rfl rfl (.Z2 (off := 0) (fo := 4) H 0 rfl rfl rfl rfl rfl nofun rfl (.wanted rfl rfl (.ZC (off := 4) (v := (vi a.m)) H 0 rfl rfl rfl rfl rfl nofun rfl ?_)))))
    refine .wanted rfl rfl (.int (m := x1.1) (m' := a.m) (r := .bool (decide (x1.1 ≥ a.m))) rfl rfl rfl rfl rfl (.Zf (v := (vb (decide (x1.1 ≥ a.m)))) rfl rfl rfl (.nil ?_)))
    exact ⟨⟨Z15 hc2, trivial⟩, (H.erase 0).weak (by omega) (Nat.le_refl _)⟩
   ·skip
    refine .pass rfl rfl rfl (.pass rfl rfl rfl (.pass rfl rfl rfl (.pass rfl rfl rfl (.Zh (v := (vb false)) rfl rfl rfl (.nil ?_)))))
    exact ⟨⟨Z19 hc2, trivial⟩, (H.erase 0).weak (by omega) (Nat.le_refl _)⟩
  ·rintro e σ ⟨he, H⟩
   obtain ⟨e, rfl⟩ := he.ex
   refine .assign (v := (vb ((x1.2.1 && (x1.2.2 == 0)) && (decide (x1.1 ≥ a.m))))) rfl rfl (.nila H fun H => (.ret ?_))
   replace h := sj h; subst h
   exact (Ends.H (xs := [(vb ((x1.2.1 && (x1.2.2 == 0)) && (decide (x1.1 ≥ a.m))))]) (.inr rfl) H (.tmp (v := (vb ((x1.2.1 && (x1.2.2 == 0)) && (decide (x1.1 ≥ a.m))))) rfl .nil) (.one (.c (.v _))))

theorem Z2o {f : Form} {m : Int} {r : Bound} (h : Z1B f m = some r) : Fn CX 17 [(.agg (vs (Form.cs f))), (vi m)] (.agg (vs (Bound.cs r))) := by
 refine Fn.ends Try.func17 rfl rfl rfl rfl rfl rfl ?_
 have H : Hs (⟨0, fun _ => .none⟩ : Heap) [] := Has.nil (Nat.le_refl _)
 generalize (⟨0, fun _ => .none⟩ : Heap) = σ at H ⊢
 unfold Z1B at h
 refine .then (.Z0 2 rfl H fun b1 σ H => (.boxH (cs := (vF f)) H (by omega) (by omega) rfl rfl rfl fun σ H => (.Zk (cs := [(.v (.int .i8 0)), (vi 0)]) H (by omega) (by omega) rfl rfl fun σ H => (.nila H fun H => (.then ?_)))))
 refine .Z0 7 rfl H fun b2 σ H => (.ZI (off := 0) (cs := (vF f)) H 1 rfl rfl rfl rfl rfl rfl rfl nofun rfl (.move (v := (vi m)) rfl rfl (.max2 rfl rfl rfl (.min2 rfl rfl rfl (.Z0I (cs := [(vi f.Period), (vi f.Count), (vl (cL Span.cs) f.Core), (vl Granule.cs f.Odd), (vi (iMin (iMax m (-4611686018427387904)) 4611686018427387904))]) rfl rfl ?_)))))
 refine .Zk (cs := [(vi 0), (vi 0), .nils, .nils, (vi 0)]) H (by omega) (by omega) rfl rfl fun σ H => (.ZV (off := 0) (cells' := [(vi f.Period), (vi f.Count), (vl (cL Span.cs) f.Core), (vl Granule.cs f.Odd), (vi (iMin (iMax m (-4611686018427387904)) 4611686018427387904))]) H 0 rfl rfl rfl rfl rfl rfl rfl rfl rfl nofun fun σ H => (.nila H fun H => (.then (.Z0 6 rfl H fun b3 σ H => (.ZI (off := 0) (cs := [(vi f.Period), (vi f.Count), (vl (cL Span.cs) f.Core), (vl Granule.cs f.Odd), (vi (iMin (iMax m (-4611686018427387904)) 4611686018427387904))]) H 0 rfl rfl rfl rfl rfl rfl rfl nofun rfl ?_)))))
 refine .Z7d (fs := [(.agg [(vi f.Period), (vi f.Count), (vl (cL Span.cs) f.Core), (vl Granule.cs f.Odd), (vi (iMin (iMax m (-4611686018427387904)) 4611686018427387904))])]) (cs := []) rfl rfl rfl rfl ?_
 obtain ⟨x1, q1, h⟩ := bind_some h
 refine .Z6u (ys := [(vi 2199023255553), (.clo 46 [(.agg [(vi f.Period), (vi f.Count), (vl (cL Span.cs) f.Core), (vl Granule.cs f.Odd), (vi (iMin (iMax m (-4611686018427387904)) 4611686018427387904))])] [])]) (r := (vi x1)) H rfl (Z4Y (C := []) rfl (fun _ => rfl) (fun z0 y hz => (CloH.clo (Fn.toH (Z5V hz) _))) q1) .nil nofun rfl fun σ H => (.min2 rfl rfl rfl (.int (m := (iMin x1 2199023255552)) (m' := 1099511627776) (r := .int .i64 (w64 ((iMin x1 2199023255552) - 1099511627776))) rfl rfl rfl rfl rfl (.assign (v := (vi (w64 ((iMin x1 2199023255552) - 1099511627776)))) rfl rfl (.nila H fun H => (.then ?_)))))
 refine .then (.Z0 2 rfl H fun b4 σ H => (.move (v := (vi (w64 ((iMin x1 2199023255552) - 1099511627776)))) rfl rfl (.int (m := (w64 ((iMin x1 2199023255552) - 1099511627776))) (m' := (-1099511627776)) (r := .bool ((w64 ((iMin x1 2199023255552) - 1099511627776)) == (-1099511627776))) rfl rfl rfl rfl rfl (.nila H fun H => ?_))))
 refine .whether (v := ((w64 ((iMin x1 2199023255552) - 1099511627776)) == (-1099511627776))) rfl ?_ ?_ <;> intro hc1
 ·replace h := Z7 hc1 h
  refine .then (.Z0 2 rfl H fun b5 σ H => (.Z0I (cs := [(.v (.int .i8 (-1))), (vi 0)]) rfl rfl (.ZV (off := 0) (cells' := [(.v (.int .i8 (-1))), (vi 0)]) H 1 rfl rfl rfl rfl rfl rfl rfl rfl rfl nofun fun σ H => (.nila H fun H => (.ret ?_)))))
  replace h := sj h; subst h
  exact (Ends.H (xs := [(.agg [(.v (.int .i8 (-1))), (vi 0)])]) (.inr rfl) H (.agg (cs := [(.v (.int .i8 (-1))), (vi 0)]) (off := 0) 1 rfl rfl rfl rfl rfl rfl rfl .nil) (.one (.p rfl)))
 ·replace h := Z8 hc1 h
  refine .skip (.then (.Z0 3 rfl H fun b6 σ H => (.move (v := (vi (w64 ((iMin x1 2199023255552) - 1099511627776)))) rfl rfl (.Z0I (cs := [(.v (.int .i8 0)), (vi (w64 ((iMin x1 2199023255552) - 1099511627776)))]) rfl rfl (.ZV (off := 0) (cells' := [(.v (.int .i8 0)), (vi (w64 ((iMin x1 2199023255552) - 1099511627776)))]) H 1 rfl rfl rfl rfl rfl rfl rfl rfl rfl nofun fun σ H => ?_)))))
  refine .nila H fun H => (.ret ?_)
  replace h := sj h; subst h
  exact (Ends.H (xs := [(.agg [(.v (.int .i8 0)), (vi (w64 ((iMin x1 2199023255552) - 1099511627776)))])]) (.inr rfl) H (.agg (cs := [(.v (.int .i8 0)), (vi (w64 ((iMin x1 2199023255552) - 1099511627776)))]) (off := 0) 1 rfl rfl rfl rfl rfl rfl rfl .nil) (.one (.p rfl)))

theorem Z2w {a : Bound} {r : Bool} (h : ZH a = r) : Fn CX 23 [(.agg (vs (Bound.cs a)))] (vb r) := by
 refine Fn.ends Try.func23 rfl rfl rfl rfl rfl rfl ?_
 have H : Hs (⟨0, fun _ => .none⟩ : Heap) [] := Has.nil (Nat.le_refl _)
 generalize (⟨0, fun _ => .none⟩ : Heap) = σ at H ⊢
 unfold ZH at h
 refine .then (.Z0 2 rfl H fun b1 σ H => (.boxH (cs := [(.v (.int .i8 a.Inf)), (vi a.N)]) H (by omega) (by omega) rfl rfl rfl fun σ H => (.assign (v := (vb false)) rfl rfl (.nila H fun H => (.then ?_)))))
 refine .Z0 19 rfl H fun b2 σ H => (.Z2 (off := 0) (fo := 0) H 0 rfl rfl rfl rfl rfl nofun rfl (.ZC (off := 0) (v := (.v (.int .i8 a.Inf))) H 0 rfl rfl rfl rfl rfl nofun rfl (.int (m := a.Inf) (m' := 0) (r := .bool (a.Inf == 0)) rfl rfl rfl rfl rfl (.move (v := (vb (a.Inf == 0))) rfl rfl ?_))))
 refine .mid 14 (K1 := fun e σ => Z4 e [(20, (vb ((a.Inf == 0) || (((a.Inf == 1) || (a.Inf == (-1))) && (a.N == 0)))))] ∧ Has σ (b2 + 18) (b2 + 19) []) rfl ?_ ?_
 ·refine .split rfl rfl ?_ ?_ <;> intro hc1
  ·skip
   refine .pass rfl rfl rfl (.pass rfl rfl rfl (.pass rfl rfl rfl (.pass rfl rfl rfl (.Z00 rfl rfl rfl (.Z00 rfl rfl rfl ?_)))))
   refine .Z00 rfl rfl rfl (.pass rfl rfl rfl (.pass rfl rfl rfl (.Z00 rfl rfl rfl (.Z00 rfl rfl rfl (.Z00 rfl rfl rfl ?_)))))
   refine .pass rfl rfl rfl (.Zf (v := (vb true)) rfl rfl rfl (.nil ?_))
   exact ⟨⟨or_T hc1, trivial⟩, (H.erase 0).weak (by omega) (Nat.le_refl _)⟩
  ·skip
   refine .wanted rfl rfl (.Z2 (off := 0) (fo := 0) H 0 rfl rfl rfl rfl rfl nofun rfl (.wanted rfl rfl (.ZC (off := 0) (v := (.v (.int .i8 a.Inf))) H 0 rfl rfl rfl rfl rfl nofun rfl (.wanted rfl rfl (.int (m := a.Inf) (m' := 1) (r := .bool (a.Inf == 1)) rfl rfl rfl rfl rfl ?_)))))
   refine .wanted rfl rfl (.move (v := (vb (a.Inf == 1))) rfl rfl ?_)
   refine .mid 4 (K1 := fun e σ => Z4 e [(14, (vb ((a.Inf == 1) || (a.Inf == (-1))))), (1, (.ptr (b1 + 0) 2 0)), (6, (vb false))] ∧ Has σ (b2 + 12) (b2 + 19) [.blk (b1 + 0) 32 [(.v (.int .i8 a.Inf)), (vi a.N)]]) rfl ?_ ?_
   ·refine .split rfl rfl ?_ ?_ <;> intro hc2
    ·skip
     refine .pass rfl rfl rfl (.pass rfl rfl rfl (.pass rfl rfl rfl (.wanted rfl rfl (.Zf (v := (vb true)) rfl rfl rfl (.nil ?_)))))
     exact ⟨⟨or_T hc2, rfl, rfl, trivial⟩, H.weak (by omega) (Nat.le_refl _)⟩
    ·skip
     refine .wanted rfl rfl (.Z2 (off := 0) (fo := 0) H 0 rfl rfl rfl rfl rfl nofun rfl (.wanted rfl rfl (.ZC (off := 0) (v := (.v (.int .i8 a.Inf))) H 0 rfl rfl rfl rfl rfl nofun rfl (.wanted rfl rfl (.int (m := a.Inf) (m' := (-1)) (r := .bool (a.Inf == (-1))) rfl rfl rfl rfl rfl ?_)))))
     refine .wanted rfl rfl (.Zh (v := (vb (a.Inf == (-1)))) rfl rfl rfl (.nil ?_))
     exact ⟨⟨or_F hc2, rfl, rfl, trivial⟩, H.weak (by omega) (Nat.le_refl _)⟩
   ·rintro e σ ⟨he, H⟩
    obtain ⟨e, rfl⟩ := he.ex
    refine .wanted rfl rfl (.move (v := (vb ((a.Inf == 1) || (a.Inf == (-1))))) rfl rfl ?_)
    refine .mid 4 (K1 := fun e σ => Z4 e [(19, (vb (((a.Inf == 1) || (a.Inf == (-1))) && (a.N == 0)))), (6, (vb false))] ∧ Has σ (b2 + 17) (b2 + 19) []) rfl ?_ ?_
    ·refine .split rfl rfl ?_ ?_ <;> intro hc3
     ·skip
      refine .wanted rfl rfl (.Z2 (off := 0) (fo := 1) H 0 rfl rfl rfl rfl rfl nofun rfl (.wanted rfl rfl (.ZC (off := 1) (v := (vi a.N)) H 0 rfl rfl rfl rfl rfl nofun rfl (.wanted rfl rfl (.int (m := a.N) (m' := 0) (r := .bool (a.N == 0)) rfl rfl rfl rfl rfl ?_)))))
      refine .wanted rfl rfl (.Zf (v := (vb (a.N == 0))) rfl rfl rfl (.nil ?_))
      exact ⟨⟨Z15 hc3, rfl, trivial⟩, (H.erase 0).weak (by omega) (Nat.le_refl _)⟩
     ·skip
      refine .pass rfl rfl rfl (.pass rfl rfl rfl (.pass rfl rfl rfl (.wanted rfl rfl (.Zh (v := (vb false)) rfl rfl rfl (.nil ?_)))))
      exact ⟨⟨Z19 hc3, rfl, trivial⟩, (H.erase 0).weak (by omega) (Nat.le_refl _)⟩
    ·rintro e σ ⟨he, H⟩
     obtain ⟨e, rfl⟩ := he.ex
     refine .Zh (v := (vb (((a.Inf == 1) || (a.Inf == (-1))) && (a.N == 0)))) rfl rfl rfl (.nil ?_)
     exact ⟨⟨or_F hc1, trivial⟩, H.weak (by omega) (Nat.le_refl _)⟩
 ·rintro e σ ⟨he, H⟩
  obtain ⟨e, rfl⟩ := he.ex
  refine .assign (v := (vb ((a.Inf == 0) || (((a.Inf == 1) || (a.Inf == (-1))) && (a.N == 0))))) rfl rfl (.nila H fun H => (.ret ?_))
  subst h
  exact (Ends.H (xs := [(vb ((a.Inf == 0) || (((a.Inf == 1) || (a.Inf == (-1))) && (a.N == 0))))]) (.inr rfl) H (.tmp (v := (vb ((a.Inf == 0) || (((a.Inf == 1) || (a.Inf == (-1))) && (a.N == 0))))) rfl .nil) (.one (.c (.v _))))

theorem safe_Sub_fn {a : Int} {b : Int} {r : Int × Int} (h : Z0A a b = r) : Fn CX 47 [(vi a), (vi b)] (.tup [(vi r.1), (vi r.2)]) := by
 refine Fn.ends Try.func47 rfl rfl rfl rfl rfl rfl ?_
 have H : Hs (⟨0, fun _ => .none⟩ : Heap) [] := Has.nil (Nat.le_refl _)
 generalize (⟨0, fun _ => .none⟩ : Heap) = σ at H ⊢
 unfold Z0A at h
 refine .then (.Z0 2 rfl H fun b1 σ H => (.assign (v := (vi 0)) rfl rfl (.assign (v := (vi 0)) rfl rfl (.nila H fun H => (.then ?_)))))
 refine .Z0 4 rfl H fun b2 σ H => (.move (v := (vi a)) rfl rfl (.move (v := (vi b)) rfl rfl (.int (m := a) (m' := b) (r := .int .i64 (w64 (a - b))) rfl rfl rfl rfl rfl (.assign (v := (vi (w64 (a - b)))) rfl rfl (.nila H fun H => ?_)))))
 refine .then (.then (.Z0 10 rfl H fun b3 σ H => (.move (v := (vi (w64 (a - b)))) rfl rfl (.move (v := (vi a)) rfl rfl (.int (m := (w64 (a - b))) (m' := a) (r := .bool (decide ((w64 (a - b)) < a))) rfl rfl rfl rfl rfl ?_)))))
 refine .move (v := (vi b)) rfl rfl (.int (m := b) (m' := 0) (r := .bool (decide (b > 0))) rfl rfl rfl rfl rfl (.neB (b := (decide ((w64 (a - b)) < a))) (b' := (decide (b > 0))) rfl rfl rfl rfl (.move (v := (vb ((decide ((w64 (a - b)) < a)) != (decide (b > 0))))) rfl rfl ?_)))
 refine .mid 3 (K1 := fun e σ => Z4 e [(19, (vb (((decide ((w64 (a - b)) < a)) != (decide (b > 0))) && (b != 0)))), (6, (vi (w64 (a - b))))] ∧ Has σ (b3 + 10) (b3 + 10) []) rfl ?_ ?_
 ·refine .split rfl rfl ?_ ?_ <;> intro hc1
  ·skip
   refine .wanted rfl rfl (.move (v := (vi b)) rfl rfl (.wanted rfl rfl (.int (m := b) (m' := 0) (r := .bool (b != 0)) rfl rfl rfl rfl rfl (.Zf (v := (vb (b != 0))) rfl rfl rfl (.nil ?_)))))
   exact ⟨⟨Z15 hc1, rfl, trivial⟩, H.weak (by omega) (Nat.le_refl _)⟩
  ·skip
   refine .pass rfl rfl rfl (.pass rfl rfl rfl (.Zh (v := (vb false)) rfl rfl rfl (.nil ?_)))
   exact ⟨⟨Z19 hc1, rfl, trivial⟩, H.weak (by omega) (Nat.le_refl _)⟩
 ·rintro e σ ⟨he, H⟩
  obtain ⟨e, rfl⟩ := he.ex
  refine .nila H fun H => ?_
  refine .whether (v := (((decide ((w64 (a - b)) < a)) != (decide (b > 0))) && (b != 0))) rfl ?_ ?_ <;> intro hc2
  ·replace h := Z7 hc2 h
   refine .then (.Z0 2 rfl H fun b4 σ H => (.assign (v := (vi 0)) rfl rfl (.assign (v := (vi 10)) rfl rfl (.nila H fun H => (.ret ?_)))))
   subst h
   exact (Ends.H (xs := [(vi 0), (vi 10)]) (.inr rfl) H (.tmp (v := (vi 0)) rfl (.tmp (v := (vi 10)) rfl .nil)) (.two (.cons (.c (.v _)) (.cons (.c (.v _)) .nil))))
  ·replace h := Z8 hc2 h
   refine .skip (.then (.Z0 3 rfl H fun b5 σ H => (.move (v := (vi (w64 (a - b)))) rfl rfl (.assign (v := (vi (w64 (a - b)))) rfl rfl (.assign (v := (vi 0)) rfl rfl ?_)))))
   refine .nila H fun H => (.ret ?_)
   subst h
   exact (Ends.H (xs := [(vi (w64 (a - b))), (vi 0)]) (.inr rfl) H (.tmp (v := (vi (w64 (a - b)))) rfl (.tmp (v := (vi 0)) rfl .nil)) (.two (.cons (.c (.v _)) (.cons (.c (.v _)) .nil))))

theorem safe_Minus_fn {a : Bound} {r : Bound × Int} (h : Zp a = r) : Fn CX 20 [(.agg (vs (Bound.cs a)))] (.tup [(.agg (vs (Bound.cs r.1))), (vi r.2)]) := by
 refine Fn.ends Try.func20 rfl rfl rfl rfl rfl rfl ?_
 have H : Hs (⟨0, fun _ => .none⟩ : Heap) [] := Has.nil (Nat.le_refl _)
 generalize (⟨0, fun _ => .none⟩ : Heap) = σ at H ⊢
 unfold Zp at h
 refine .then (.Z0 3 rfl H fun b1 σ H => (.boxH (cs := [(.v (.int .i8 a.Inf)), (vi a.N)]) H (by omega) (by omega) rfl rfl rfl fun σ H => (.Zk (cs := [(.v (.int .i8 0)), (vi 0)]) H (by omega) (by omega) rfl rfl fun σ H => (.assign (v := (vi 0)) rfl rfl (.nila H fun H => ?_)))))
 refine .then (.then (.Z0 3 rfl H fun b2 σ H => (.ZI (off := 0) (cs := [(.v (.int .i8 a.Inf)), (vi a.N)]) H 1 rfl rfl rfl rfl rfl rfl rfl nofun rfl (.call (ys := [(.agg [(.v (.int .i8 a.Inf)), (vi a.N)])]) (r := (vb (ZH a))) rfl (Z2w (rfl : ZH a = _)) rfl (.not (b := (ZH a)) rfl rfl ?_)))))
 refine .nila H fun H => ?_
 refine .whether (v := (!(ZH a))) rfl ?_ ?_ <;> intro hc1
 ·replace h := Z7 hc1 h
  refine .then (.Z0 3 rfl H fun b3 σ H => (.Z0I (cs := [(.v (.int .i8 0)), (vi 0)]) rfl rfl (.ZV (off := 0) (cells' := [(.v (.int .i8 0)), (vi 0)]) H 0 rfl rfl rfl rfl rfl rfl rfl rfl rfl nofun fun σ H => (.assign (v := (vi 2)) rfl rfl (.nila H fun H => ?_)))))
  refine .ret ?_
  subst h
  exact (Ends.H (xs := [(.agg [(.v (.int .i8 0)), (vi 0)]), (vi 2)]) (.inr rfl) H (.agg (cs := [(.v (.int .i8 0)), (vi 0)]) (off := 0) 0 rfl rfl rfl rfl rfl rfl rfl (.tmp (v := (vi 2)) rfl .nil)) (.two (.cons (.p rfl) (.cons (.c (.v _)) .nil))))
 ·replace h := Z8 hc1 h
  refine .skip (.then (.Z0 8 rfl H fun b4 σ H => (.Z2 (off := 0) (fo := 1) H 1 rfl rfl rfl rfl rfl nofun rfl (.ZC (off := 1) (v := (vi a.N)) H 1 rfl rfl rfl rfl rfl nofun rfl (.call (ys := [(vi 0), (vi a.N)]) (r := (.tup [(vi (Z0A 0 a.N).1), (vi (Z0A 0 a.N).2)])) rfl (safe_Sub_fn rfl) rfl ?_)))))
  refine .move (v := (.tup [(vi (Z0A 0 a.N).1), (vi (Z0A 0 a.N).2)])) rfl rfl (.extract (v := (vi (Z0A 0 a.N).1)) rfl rfl rfl (.extract (v := (vi (Z0A 0 a.N).2)) rfl rfl rfl (.assign (v := (vi (Z0A 0 a.N).1)) rfl rfl (.assign (v := (vi (Z0A 0 a.N).2)) rfl rfl (.nila H fun H => ?_)))))
  refine .then (.then (.Z0 2 rfl H fun b5 σ H => (.move (v := (vi (Z0A 0 a.N).2)) rfl rfl (.int (m := (Z0A 0 a.N).2) (m' := 0) (r := .bool (((Z0A 0 a.N).2) != 0)) rfl rfl rfl rfl rfl (.nila H fun H => ?_)))))
  refine .whether (v := (((Z0A 0 a.N).2) != 0)) rfl ?_ ?_ <;> intro hc2
  ·replace h := Z7 hc2 h
   refine .then (.Z0 4 rfl H fun b6 σ H => (.Z0I (cs := [(.v (.int .i8 0)), (vi 0)]) rfl rfl (.move (v := (vi (Z0A 0 a.N).2)) rfl rfl (.ZV (off := 0) (cells' := [(.v (.int .i8 0)), (vi 0)]) H 0 rfl rfl rfl rfl rfl rfl rfl rfl rfl nofun fun σ H => (.assign (v := (vi (Z0A 0 a.N).2)) rfl rfl ?_)))))
   refine .nila H fun H => (.ret ?_)
   subst h
   exact (Ends.H (xs := [(.agg [(.v (.int .i8 0)), (vi 0)]), (vi (Z0A 0 a.N).2)]) (.inr rfl) H (.agg (cs := [(.v (.int .i8 0)), (vi 0)]) (off := 0) 0 rfl rfl rfl rfl rfl rfl rfl (.tmp (v := (vi (Z0A 0 a.N).2)) rfl .nil)) (.two (.cons (.p rfl) (.cons (.c (.v _)) .nil))))
  ·replace h := Z8 hc2 h
   refine .skip (.then (.Z0 7 rfl H fun b7 σ H => (.Z2 (off := 0) (fo := 0) H 1 rfl rfl rfl rfl rfl nofun rfl (.ZC (off := 0) (v := (.v (.int .i8 a.Inf))) H 1 rfl rfl rfl rfl rfl nofun rfl (.neg (m := a.Inf) rfl rfl ?_)))))
   refine .move (v := (vi (Z0A 0 a.N).1)) rfl rfl (.Z0I (cs := [(.v (.int .i8 (IntKind.i8.wrap (0 - a.Inf)))), (vi (Z0A 0 a.N).1)]) rfl rfl (.ZV (off := 0) (cells' := [(.v (.int .i8 (IntKind.i8.wrap (0 - a.Inf)))), (vi (Z0A 0 a.N).1)]) H 0 rfl rfl rfl rfl rfl rfl rfl rfl rfl nofun fun σ H => (.assign (v := (vi 0)) rfl rfl (.nila H fun H => (.ret ?_)))))
   subst h
   exact (Ends.H (xs := [(.agg [(.v (.int .i8 (IntKind.i8.wrap (0 - a.Inf)))), (vi (Z0A 0 a.N).1)]), (vi 0)]) (.inr rfl) H (.agg (cs := [(.v (.int .i8 (IntKind.i8.wrap (0 - a.Inf)))), (vi (Z0A 0 a.N).1)]) (off := 0) 0 rfl rfl rfl rfl rfl rfl rfl (.tmp (v := (vi 0)) rfl .nil)) (.two (.cons (.p rfl) (.cons (.c (.v _)) .nil))))

theorem Z3h {f : Form} {n : Int} {r : Bound} (h : Z1C f n = some r) : Fn CX 18 [(.agg (vs (Form.cs f))), (vi n)] (.agg (vs (Bound.cs r))) := by
 refine Fn.ends Try.func18 rfl rfl rfl rfl rfl rfl ?_
 have H : Hs (⟨0, fun _ => .none⟩ : Heap) [] := Has.nil (Nat.le_refl _)
 generalize (⟨0, fun _ => .none⟩ : Heap) = σ at H ⊢
 unfold Z1C at h
 refine .then (.Z0 2 rfl H fun b1 σ H => (.boxH (cs := (vF f)) H (by omega) (by omega) rfl rfl rfl fun σ H => (.Zk (cs := [(.v (.int .i8 0)), (vi 0)]) H (by omega) (by omega) rfl rfl fun σ H => (.nila H fun H => (.then ?_)))))
 refine .Z0 12 rfl H fun b2 σ H => (.ZI (off := 0) (cs := (vF f)) H 1 rfl rfl rfl rfl rfl rfl rfl nofun rfl (.move (v := (vi n)) rfl rfl (.max2 rfl rfl rfl (.neg (m := (iMax n (-4611686018427387904))) rfl rfl ?_))))
 obtain ⟨x1, q1, h⟩ := bind_some h
 refine .call (ys := [(.agg (vF f)), (vi (w64 (0 - (iMax n (-4611686018427387904)))))]) (r := (.agg [(.v (.int .i8 x1.Inf)), (vi x1.N)])) rfl (Z2o q1) rfl (.call (ys := [(.agg [(.v (.int .i8 x1.Inf)), (vi x1.N)])]) (r := (.tup [(.agg [(.v (.int .i8 (Zp x1).1.Inf)), (vi (Zp x1).1.N)]), (vi (Zp x1).2)])) rfl (safe_Minus_fn (rfl : Zp x1 = _)) rfl (.move (v := (.tup [(.agg [(.v (.int .i8 (Zp x1).1.Inf)), (vi (Zp x1).1.N)]), (vi (Zp x1).2)])) rfl rfl (.extract (v := (.agg [(.v (.int .i8 (Zp x1).1.Inf)), (vi (Zp x1).1.N)])) rfl rfl rfl (.extract (v := (vi (Zp x1).2)) rfl rfl rfl (.Zk (cs := [(.v (.int .i8 0)), (vi 0)]) H (by omega) (by omega) rfl rfl fun σ H => ?_)))))
 refine .ZV (off := 0) (cells' := [(.v (.int .i8 (Zp x1).1.Inf)), (vi (Zp x1).1.N)]) H 0 rfl rfl rfl rfl rfl rfl rfl rfl rfl nofun fun σ H => (.assign (v := (vi (Zp x1).2)) rfl rfl (.nila H fun H => (.then (.Z0 2 rfl H fun b3 σ H => (.ZI (off := 0) (cs := [(.v (.int .i8 (Zp x1).1.Inf)), (vi (Zp x1).1.N)]) H 0 rfl rfl rfl rfl rfl rfl rfl nofun rfl ?_)))))
 refine .ZV (off := 0) (cells' := [(.v (.int .i8 (Zp x1).1.Inf)), (vi (Zp x1).1.N)]) H 1 rfl rfl rfl rfl rfl rfl rfl rfl rfl nofun fun σ H => (.nila H fun H => (.ret ?_))
 replace h := sj h; subst h
 exact (Ends.H (xs := [(.agg [(.v (.int .i8 (Zp x1).1.Inf)), (vi (Zp x1).1.N)])]) (.inr rfl) H (.agg (cs := [(.v (.int .i8 (Zp x1).1.Inf)), (vi (Zp x1).1.N)]) (off := 0) 1 rfl rfl rfl rfl rfl rfl rfl .nil) (.one (.p rfl)))

theorem Z4V {f : Form} {r' : Range} {r : Bound × Bound} (h : Z1J f r' = some r) : Fn CX 16 [(.agg (vs (Form.cs f))), (.agg (vs (Range.cs r')))] (.tup [(.agg (vs (Bound.cs r.1))), (.agg (vs (Bound.cs r.2)))]) := by
 refine Fn.ends Try.func16 rfl rfl rfl rfl rfl rfl ?_
 have H : Hs (⟨0, fun _ => .none⟩ : Heap) [] := Has.nil (Nat.le_refl _)
 generalize (⟨0, fun _ => .none⟩ : Heap) = σ at H ⊢
 unfold Z1J at h
 refine .then (.Z0 4 rfl H fun b1 σ H => (.boxH (cs := (vF f)) H (by omega) (by omega) rfl rfl rfl fun σ H => (.boxH (cs := [(vi r'.Low), (vi r'.High), (vb r'.HasLow), (vb r'.HasHigh)]) H (by omega) (by omega) rfl rfl rfl fun σ H => (.Zk (cs := [(.v (.int .i8 0)), (vi 0)]) H (by omega) (by omega) rfl rfl fun σ H => (.Zk (cs := [(.v (.int .i8 0)), (vi 0)]) H (by omega) (by omega) rfl rfl fun σ H => ?_)))))
 refine .nila H fun H => (.then (.Z0 6 rfl H fun b2 σ H => (.Z0I (cs := [(.v (.int .i8 (-1))), (vi 0)]) rfl rfl (.Z0I (cs := [(.v (.int .i8 1)), (vi 0)]) rfl rfl (.Zk (cs := [(.v (.int .i8 0)), (vi 0)]) H (by omega) (by omega) rfl rfl fun σ H => ?_)))))
 refine .Zk (cs := [(.v (.int .i8 0)), (vi 0)]) H (by omega) (by omega) rfl rfl fun σ H => (.ZV (off := 0) (cells' := [(.v (.int .i8 (-1))), (vi 0)]) H 1 rfl rfl rfl rfl rfl rfl rfl rfl rfl nofun fun σ H => (.ZV (off := 0) (cells' := [(.v (.int .i8 1)), (vi 0)]) H 0 rfl rfl rfl rfl rfl rfl rfl rfl rfl nofun fun σ H => (.nila H fun H => (.then ?_))))
 obtain ⟨y1, hj1, h⟩ := bind_some h
 refine .mono (Q := fun x e σ => x = .normal ∧ Z4 e [(2, (.ptr (b1 + 0) 4 0)), (3, (.ptr (b1 + 1) 4 0)), (4, (.ptr (b1 + 2) 2 0)), (5, (.ptr (b1 + 3) 2 0)), (6, (.ptr (b2 + 2) 2 0)), (7, (.ptr (b2 + 3) 2 0))] ∧ Hs σ [.blk (b2 + 3) 32 [(.v (.int .i8 1)), (vi 0)], .blk (b2 + 2) 32 [(.v (.int .i8 y1.1)), (vi y1.2)], .blk (b1 + 3) 32 [(.v (.int .i8 0)), (vi 0)], .blk (b1 + 2) 32 [(.v (.int .i8 0)), (vi 0)], .blk (b1 + 1) 27 [(vi r'.Low), (vi r'.High), (vb r'.HasLow), (vb r'.HasHigh)], .blk (b1 + 0) 25 (vF f)]) ?_ ?_
 ·replace h := hj1
  refine .then (.Z0 2 rfl H fun b3 σ H => (.Z2 (off := 0) (fo := 2) H 4 rfl rfl rfl rfl rfl nofun rfl (.ZC (off := 2) (v := (vb r'.HasLow)) H 4 rfl rfl rfl rfl rfl nofun rfl (.nila H fun H => ?_))))
  refine .whether (v := r'.HasLow) rfl ?_ ?_ <;> intro hc1
  ·replace h := Z7 hc1 h
   refine .Z0 5 rfl H fun b4 σ H => (.ZI (off := 0) (cs := (vF f)) H 5 rfl rfl rfl rfl rfl rfl rfl nofun rfl (.Z2 (off := 0) (fo := 0) H 4 rfl rfl rfl rfl rfl nofun rfl (.ZC (off := 0) (v := (vi r'.Low)) H 4 rfl rfl rfl rfl rfl nofun rfl ?_)))
   obtain ⟨x1, q1, h⟩ := bind_some h
   refine .call (ys := [(.agg (vF f)), (vi r'.Low)]) (r := (.agg [(.v (.int .i8 x1.Inf)), (vi x1.N)])) rfl (Z2o q1) rfl (.ZV (off := 0) (cells' := [(.v (.int .i8 x1.Inf)), (vi x1.N)]) H 1 rfl rfl rfl rfl rfl rfl rfl rfl rfl nofun fun σ H => (.nila H fun H => ?_))
   replace h := sj h; subst h
   exact ⟨rfl, ⟨rfl, rfl, rfl, rfl, rfl, rfl, trivial⟩, H⟩
  ·replace h := Z8 hc1 h
   refine .skip ?_
   replace h := sj h; subst h
   exact ⟨rfl, ⟨rfl, rfl, rfl, rfl, rfl, rfl, trivial⟩, H⟩
 ·rintro x e σ ⟨rfl, he, H⟩
  obtain ⟨e, rfl⟩ := he.ex
  refine .then ?_
  obtain ⟨y2, hj2, h⟩ := bind_some h
  refine .mono (Q := fun x e σ => x = .normal ∧ Z4 e [(4, (.ptr (b1 + 2) 2 0)), (5, (.ptr (b1 + 3) 2 0)), (6, (.ptr (b2 + 2) 2 0)), (7, (.ptr (b2 + 3) 2 0))] ∧ Hs σ [.blk (b2 + 3) 32 [(.v (.int .i8 y2.1)), (vi y2.2)], .blk (b2 + 2) 32 [(.v (.int .i8 y1.1)), (vi y1.2)], .blk (b1 + 3) 32 [(.v (.int .i8 0)), (vi 0)], .blk (b1 + 2) 32 [(.v (.int .i8 0)), (vi 0)]]) ?_ ?_
  ·replace h := hj2
   refine .then (.Z0 2 rfl H fun b5 σ H => (.Z2 (off := 0) (fo := 3) H 4 rfl rfl rfl rfl rfl nofun rfl (.ZC (off := 3) (v := (vb r'.HasHigh)) H 4 rfl rfl rfl rfl rfl nofun rfl (.nila H fun H => ?_))))
   refine .whether (v := r'.HasHigh) rfl ?_ ?_ <;> intro hc2
   ·replace h := Z7 hc2 h
    refine .Z0 5 rfl H fun b6 σ H => (.ZI (off := 0) (cs := (vF f)) H 5 rfl rfl rfl rfl rfl rfl rfl nofun rfl (.Z2 (off := 0) (fo := 1) H 4 rfl rfl rfl rfl rfl nofun rfl (.ZC (off := 1) (v := (vi r'.High)) H 4 rfl rfl rfl rfl rfl nofun rfl ?_)))
    obtain ⟨x2, q2, h⟩ := bind_some h
    refine .call (ys := [(.agg (vF f)), (vi r'.High)]) (r := (.agg [(.v (.int .i8 x2.Inf)), (vi x2.N)])) rfl (Z3h q2) rfl (.ZV (off := 0) (cells' := [(.v (.int .i8 x2.Inf)), (vi x2.N)]) H 0 rfl rfl rfl rfl rfl rfl rfl rfl rfl nofun fun σ H => (.nila H fun H => ?_))
    replace h := sj h; subst h
    exact ⟨rfl, ⟨rfl, rfl, rfl, rfl, trivial⟩, ((H.erase 5).erase 4)⟩
   ·replace h := Z8 hc2 h
    refine .skip ?_
    replace h := sj h; subst h
    exact ⟨rfl, ⟨rfl, rfl, rfl, rfl, trivial⟩, ((H.erase 5).erase 4)⟩
  ·rintro x e σ ⟨rfl, he, H⟩
   obtain ⟨e, rfl⟩ := he.ex
   refine .then (.Z0w 4 rfl (by kernel_rfl) H fun b7 σ H B7 => (.ZI (off := 0) (cs := [(.v (.int .i8 y1.1)), (vi y1.2)]) H 1 rfl rfl rfl rfl rfl rfl rfl (fun _ => .inl ⟨B7 1 _ rfl _ rfl, nofun, (fun _ => by kernel_rfl)⟩) rfl (.ZI (off := 0) (cs := [(.v (.int .i8 y2.1)), (vi y2.2)]) H 0 rfl rfl rfl rfl rfl rfl rfl (fun _ => .inl ⟨B7 0 _ rfl _ rfl, nofun, (fun _ => by kernel_rfl)⟩) rfl (.ZV (off := 0) (cells' := [(.v (.int .i8 y1.1)), (vi y1.2)]) H 3 rfl rfl rfl rfl rfl rfl rfl rfl rfl (fun _ => .inl ⟨B7 3 _ rfl _ rfl, (fresh_else [1] (by kernel_rfl) (.cons rfl rfl (ne_one (H.ne (j := 3) (k := 0) rfl rfl rfl rfl rfl)) .nil))⟩) fun σ H => (.ZV (off := 0) (cells' := [(.v (.int .i8 y2.1)), (vi y2.2)]) H 2 rfl rfl rfl rfl rfl rfl rfl rfl rfl (fun _ => .inl ⟨B7 2 _ rfl _ rfl, (Z40 (by kernel_rfl))⟩) fun σ H => ?_)))))
   refine .nila H fun H => (.ret ?_)
   replace h := sj h; subst h
   exact (Ends.H (xs := [(.agg [(.v (.int .i8 y1.1)), (vi y1.2)]), (.agg [(.v (.int .i8 y2.1)), (vi y2.2)])]) (.inr rfl) H (.agg (cs := [(.v (.int .i8 y1.1)), (vi y1.2)]) (off := 0) 3 rfl rfl rfl rfl rfl rfl rfl (.agg (cs := [(.v (.int .i8 y2.1)), (vi y2.2)]) (off := 0) 2 rfl rfl rfl rfl rfl rfl rfl .nil)) (.two (.cons (.p rfl) (.cons (.p rfl) .nil))))

theorem Zv {n : Int} {r : Bound} (h : Z1 n = r) : Fn CX 42 [(vi n)] (.agg (vs (Bound.cs r))) := by
 refine Fn.ends Try.func42 rfl rfl rfl rfl rfl rfl ?_
 have H : Hs (⟨0, fun _ => .none⟩ : Heap) [] := Has.nil (Nat.le_refl _)
 generalize (⟨0, fun _ => .none⟩ : Heap) = σ at H ⊢
 unfold Z1 at h
 refine .then (.Z0 1 rfl H fun b1 σ H => (.Zk (cs := [(.v (.int .i8 0)), (vi 0)]) H (by omega) (by omega) rfl rfl fun σ H => (.nila H fun H => (.then (.Z0 3 rfl H fun b2 σ H => ?_)))))
 refine .move (v := (vi n)) rfl rfl (.Z0I (cs := [(.v (.int .i8 0)), (vi n)]) rfl rfl (.ZV (off := 0) (cells' := [(.v (.int .i8 0)), (vi n)]) H 0 rfl rfl rfl rfl rfl rfl rfl rfl rfl nofun fun σ H => (.nila H fun H => (.ret ?_))))
 subst h
 exact (Ends.H (xs := [(.agg [(.v (.int .i8 0)), (vi n)])]) (.inr rfl) H (.agg (cs := [(.v (.int .i8 0)), (vi n)]) (off := 0) 0 rfl rfl rfl rfl rfl rfl rfl .nil) (.one (.p rfl)))

theorem Z1F {low : Int} {high : Int} {r : Range} (h : Z5 low high = r) : Fn CX 28 [(vi low), (vi high)] (.agg (vs (Range.cs r))) := by
 refine Fn.ends Try.func28 rfl rfl rfl rfl rfl rfl ?_
 have H : Hs (⟨0, fun _ => .none⟩ : Heap) [] := Has.nil (Nat.le_refl _)
 generalize (⟨0, fun _ => .none⟩ : Heap) = σ at H ⊢
 unfold Z5 at h
 refine .then (.Z0 1 rfl H fun b1 σ H => (.Zk (cs := [(vi 0), (vi 0), (vb false), (vb false)]) H (by omega) (by omega) rfl rfl fun σ H => (.nila H fun H => (.then (.Z0 4 rfl H fun b2 σ H => ?_)))))
 refine .move (v := (vi low)) rfl rfl (.move (v := (vi high)) rfl rfl (.Z0I (cs := [(vi low), (vi high), (vb true), (vb true)]) rfl rfl (.ZV (off := 0) (cells' := [(vi low), (vi high), (vb true), (vb true)]) H 0 rfl rfl rfl rfl rfl rfl rfl rfl rfl nofun fun σ H => (.nila H fun H => (.ret ?_)))))
 subst h
 exact (Ends.H (xs := [(.agg [(vi low), (vi high), (vb true), (vb true)])]) (.inr rfl) H (.agg (cs := [(vi low), (vi high), (vb true), (vb true)]) (off := 0) 0 rfl rfl rfl rfl rfl rfl rfl .nil) (.one (.p rfl)))

theorem size_Up_fn {f : Form} {d : Int} {r : Int × Bool × Int} (h : Z5Z f d = some r) : Fn CX 36 [(.agg (vs (Form.cs f))), (vi d)] (.tup [(vi r.1), (vb r.2.1), (vi r.2.2)]) := by
 refine Fn.ends Try.func36 rfl rfl rfl rfl rfl rfl ?_
 have H : Hs (⟨0, fun _ => .none⟩ : Heap) [] := Has.nil (Nat.le_refl _)
 generalize (⟨0, fun _ => .none⟩ : Heap) = σ at H ⊢
 unfold Z5Z at h
 refine .then (.Z0 4 rfl H fun b1 σ H => (.boxH (cs := (vF f)) H (by omega) (by omega) rfl rfl rfl fun σ H => (.assign (v := (vi 0)) rfl rfl (.assign (v := (vb false)) rfl rfl (.assign (v := (vi 0)) rfl rfl ?_)))))
 refine .nila H fun H => (.then (.Z0 9 rfl H fun b2 σ H => (.ZI (off := 0) (cs := (vF f)) H 0 rfl rfl rfl rfl rfl rfl rfl nofun rfl (.move (v := (vi d)) rfl rfl ?_))))
 obtain ⟨x1, q1, h⟩ := bind_some h
 refine .call (ys := [(.agg (vF f)), (vi d), (vb true)]) (r := (.tup [(vi x1.1), (vb x1.2.1), (vi x1.2.2)])) rfl (Z8w q1) rfl (.extract (v := (vi x1.1)) rfl rfl rfl (.extract (v := (vb x1.2.1)) rfl rfl rfl (.extract (v := (vi x1.2.2)) rfl rfl rfl (.assign (v := (vi x1.1)) rfl rfl (.assign (v := (vb x1.2.1)) rfl rfl ?_)))))
 refine .assign (v := (vi x1.2.2)) rfl rfl (.nila H fun H => (.ret ?_))
 replace h := sj h; subst h
 exact (Ends.H (xs := [(vi x1.1), (vb x1.2.1), (vi x1.2.2)]) (.inr rfl) H (.tmp (v := (vi x1.1)) rfl (.tmp (v := (vb x1.2.1)) rfl (.tmp (v := (vi x1.2.2)) rfl .nil))) (.two (.cons (.c (.v _)) (.cons (.c (.v _)) (.cons (.c (.v _)) .nil)))))

theorem Z4R {f : Form} {low : Bound} {high : Bound} {r : Range × Bool × Int} (h : Z0f f low high = some r) : Fn CX 22 [(.agg (vs (Form.cs f))), (.agg (vs (Bound.cs low))), (.agg (vs (Bound.cs high)))] (.tup [(.agg (vs (Range.cs r.1))), (vb r.2.1), (vi r.2.2)]) := by
 refine Fn.ends Try.func22 rfl rfl rfl rfl rfl rfl ?_
 have H : Hs (⟨0, fun _ => .none⟩ : Heap) [] := Has.nil (Nat.le_refl _)
 generalize (⟨0, fun _ => .none⟩ : Heap) = σ at H ⊢
 unfold Z0f at h
 refine .then (.Z0 6 rfl H fun b1 σ H => (.boxH (cs := (vF f)) H (by omega) (by omega) rfl rfl rfl fun σ H => (.boxH (cs := [(.v (.int .i8 low.Inf)), (vi low.N)]) H (by omega) (by omega) rfl rfl rfl fun σ H => (.boxH (cs := [(.v (.int .i8 high.Inf)), (vi high.N)]) H (by omega) (by omega) rfl rfl rfl fun σ H => (.Zk (cs := [(vi 0), (vi 0), (vb false), (vb false)]) H (by omega) (by omega) rfl rfl fun σ H => ?_)))))
 refine .assign (v := (vb false)) rfl rfl (.assign (v := (vi 0)) rfl rfl (.nila H fun H => (.then (.then (.Z0 18 rfl H fun b2 σ H => ?_)))))
 refine .ZI (off := 0) (cs := [(.v (.int .i8 low.Inf)), (vi low.N)]) H 2 rfl rfl rfl rfl rfl rfl rfl nofun rfl (.call (ys := [(.agg [(.v (.int .i8 low.Inf)), (vi low.N)])]) (r := (vb (ZH low))) rfl (Z2w (rfl : ZH low = _)) rfl (.not (b := (ZH low)) rfl rfl (.move (v := (vb (!(ZH low)))) rfl rfl ?_)))
 refine .mid 4 (K1 := fun e σ => Z4 e [(23, (vb ((!(ZH low)) || (!(ZH high))))), (3, (.ptr (b1 + 0) 4 0)), (4, (.ptr (b1 + 1) 2 0)), (5, (.ptr (b1 + 2) 2 0)), (6, (.ptr (b1 + 3) 4 0))] ∧ Has σ (b2 + 8) (b2 + 18) [.blk (b1 + 3) 27 [(vi 0), (vi 0), (vb false), (vb false)], .blk (b1 + 2) 32 [(.v (.int .i8 high.Inf)), (vi high.N)], .blk (b1 + 1) 32 [(.v (.int .i8 low.Inf)), (vi low.N)], .blk (b1 + 0) 25 (vF f)]) rfl ?_ ?_
 ·refine .split rfl rfl ?_ ?_ <;> intro hc1
  ·skip
   refine .pass rfl rfl rfl (.pass rfl rfl rfl (.pass rfl rfl rfl (.Zf (v := (vb true)) rfl rfl rfl (.nil ?_))))
   exact ⟨⟨or_T hc1, rfl, rfl, rfl, rfl, trivial⟩, H.weak (by omega) (Nat.le_refl _)⟩
  ·skip
   refine .wanted rfl rfl (.ZI (off := 0) (cs := [(.v (.int .i8 high.Inf)), (vi high.N)]) H 1 rfl rfl rfl rfl rfl rfl rfl nofun rfl (.wanted rfl rfl (.call (ys := [(.agg [(.v (.int .i8 high.Inf)), (vi high.N)])]) (r := (vb (ZH high))) rfl (Z2w (rfl : ZH high = _)) rfl (.wanted rfl rfl (.not (b := (ZH high)) rfl rfl ?_)))))
   refine .Zh (v := (vb (!(ZH high)))) rfl rfl rfl (.nil ?_)
   exact ⟨⟨or_F hc1, rfl, rfl, rfl, rfl, trivial⟩, H.weak (by omega) (Nat.le_refl _)⟩
 ·rintro e σ ⟨he, H⟩
  obtain ⟨e, rfl⟩ := he.ex
  refine .move (v := (vb ((!(ZH low)) || (!(ZH high))))) rfl rfl ?_
  refine .mid 4 (K1 := fun e σ => Z4 e [(28, (vb (((!(ZH low)) || (!(ZH high))) || (low.Inf == 1)))), (3, (.ptr (b1 + 0) 4 0)), (4, (.ptr (b1 + 1) 2 0)), (5, (.ptr (b1 + 2) 2 0)), (6, (.ptr (b1 + 3) 4 0))] ∧ Has σ (b2 + 13) (b2 + 18) [.blk (b1 + 3) 27 [(vi 0), (vi 0), (vb false), (vb false)], .blk (b1 + 2) 32 [(.v (.int .i8 high.Inf)), (vi high.N)], .blk (b1 + 1) 32 [(.v (.int .i8 low.Inf)), (vi low.N)], .blk (b1 + 0) 25 (vF f)]) rfl ?_ ?_
  ·refine .split rfl rfl ?_ ?_ <;> intro hc2
   ·skip
    refine .pass rfl rfl rfl (.pass rfl rfl rfl (.pass rfl rfl rfl (.Zf (v := (vb true)) rfl rfl rfl (.nil ?_))))
    exact ⟨⟨or_T hc2, rfl, rfl, rfl, rfl, trivial⟩, H.weak (by omega) (Nat.le_refl _)⟩
   ·skip
    refine .wanted rfl rfl (.Z2 (off := 0) (fo := 0) H 2 rfl rfl rfl rfl rfl nofun rfl (.wanted rfl rfl (.ZC (off := 0) (v := (.v (.int .i8 low.Inf))) H 2 rfl rfl rfl rfl rfl nofun rfl (.wanted rfl rfl (.int (m := low.Inf) (m' := 1) (r := .bool (low.Inf == 1)) rfl rfl rfl rfl rfl ?_)))))
    refine .Zh (v := (vb (low.Inf == 1))) rfl rfl rfl (.nil ?_)
    exact ⟨⟨or_F hc2, rfl, rfl, rfl, rfl, trivial⟩, H.weak (by omega) (Nat.le_refl _)⟩
  ·rintro e σ ⟨he, H⟩
   obtain ⟨e, rfl⟩ := he.ex
   refine .move (v := (vb (((!(ZH low)) || (!(ZH high))) || (low.Inf == 1)))) rfl rfl ?_
   refine .mid 4 (K1 := fun e σ => Z4 e [(33, (vb ((((!(ZH low)) || (!(ZH high))) || (low.Inf == 1)) || (high.Inf == (-1))))), (3, (.ptr (b1 + 0) 4 0)), (4, (.ptr (b1 + 1) 2 0)), (5, (.ptr (b1 + 2) 2 0)), (6, (.ptr (b1 + 3) 4 0))] ∧ Has σ (b2 + 18) (b2 + 18) [.blk (b1 + 3) 27 [(vi 0), (vi 0), (vb false), (vb false)], .blk (b1 + 2) 32 [(.v (.int .i8 high.Inf)), (vi high.N)], .blk (b1 + 1) 32 [(.v (.int .i8 low.Inf)), (vi low.N)], .blk (b1 + 0) 25 (vF f)]) rfl ?_ ?_
   ·refine .split rfl rfl ?_ ?_ <;> intro hc3
    ·skip
     refine .pass rfl rfl rfl (.pass rfl rfl rfl (.pass rfl rfl rfl (.Zf (v := (vb true)) rfl rfl rfl (.nil ?_))))
     exact ⟨⟨or_T hc3, rfl, rfl, rfl, rfl, trivial⟩, H.weak (by omega) (Nat.le_refl _)⟩
    ·skip
     refine .wanted rfl rfl (.Z2 (off := 0) (fo := 0) H 1 rfl rfl rfl rfl rfl nofun rfl (.wanted rfl rfl (.ZC (off := 0) (v := (.v (.int .i8 high.Inf))) H 1 rfl rfl rfl rfl rfl nofun rfl (.wanted rfl rfl (.int (m := high.Inf) (m' := (-1)) (r := .bool (high.Inf == (-1))) rfl rfl rfl rfl rfl ?_)))))
     refine .Zh (v := (vb (high.Inf == (-1)))) rfl rfl rfl (.nil ?_)
     exact ⟨⟨or_F hc3, rfl, rfl, rfl, rfl, trivial⟩, H.weak (by omega) (Nat.le_refl _)⟩
   ·rintro e σ ⟨he, H⟩
    obtain ⟨e, rfl⟩ := he.ex
    refine .nila H fun H => ?_
    refine .whether (v := ((((!(ZH low)) || (!(ZH high))) || (low.Inf == 1)) || (high.Inf == (-1)))) rfl ?_ ?_ <;> intro hc4
    ·replace h := Z7 hc4 h
     refine .then (.Z0 4 rfl H fun b3 σ H => (.Z0I (cs := [(vi 0), (vi 0), (vb false), (vb false)]) rfl rfl (.ZV (off := 0) (cells' := [(vi 0), (vi 0), (vb false), (vb false)]) H 0 rfl rfl rfl rfl rfl rfl rfl rfl rfl nofun fun σ H => (.assign (v := (vb false)) rfl rfl (.assign (v := (vi 2)) rfl rfl ?_)))))
     refine .nila H fun H => (.ret ?_)
     replace h := sj h; subst h
     exact (Ends.H (xs := [(.agg [(vi 0), (vi 0), (vb false), (vb false)]), (vb false), (vi 2)]) (.inr rfl) H (.agg (cs := [(vi 0), (vi 0), (vb false), (vb false)]) (off := 0) 0 rfl rfl rfl rfl rfl rfl rfl (.tmp (v := (vb false)) rfl (.tmp (v := (vi 2)) rfl .nil))) (.two (.cons (.p rfl) (.cons (.c (.v _)) (.cons (.c (.v _)) .nil)))))
    ·replace h := Z8 hc4 h
     refine .skip (.then (.Z0 1 rfl H fun b4 σ H => (.Zk (cs := [(vi 0), (vi 0), (vb false), (vb false)]) H (by omega) (by omega) rfl rfl fun σ H => (.nila H fun H => (.then ?_)))))
     obtain ⟨y1, hj1, h⟩ := bind_some h
     refine .mono (Q := fun x e σ => (∃ a1, y1 = (.go a1) ∧ x = .normal ∧ Z4 e [(3, (.ptr (b1 + 0) 4 0)), (4, (.ptr (b1 + 1) 2 0)), (6, (.ptr (b1 + 3) 4 0)), (9, (.ptr (b4 + 0) 4 0))] ∧ Hs σ [.blk (b4 + 0) 27 [(vi 0), (vi a1.1), (vb false), (vb a1.2)], .blk (b1 + 3) 27 [(vi 0), (vi 0), (vb false), (vb false)], .blk (b1 + 1) 32 [(.v (.int .i8 low.Inf)), (vi low.N)], .blk (b1 + 0) 25 (vF f)]) ∨ (∃ r', y1 = (.ret r') ∧ x = .ret ∧ Ends CX Try.f22.results.toList (.tup [(.agg (vs (Range.cs r'.1))), (vb r'.2.1), (vi r'.2.2)]) x e σ)) ?_ ?_
     ·replace h := hj1
      refine .then (.Z0 8 rfl H fun b5 σ H => (.Z2 (off := 0) (fo := 0) H 2 rfl rfl rfl rfl rfl nofun rfl (.ZC (off := 0) (v := (.v (.int .i8 high.Inf))) H 2 rfl rfl rfl rfl rfl nofun rfl (.int (m := high.Inf) (m' := 0) (r := .bool (high.Inf == 0)) rfl rfl rfl rfl rfl (.move (v := (vb (high.Inf == 0))) rfl rfl ?_)))))
      refine .mid 4 (K1 := fun e σ => Z4 e [(42, (vb ((high.Inf == 0) && (decide (high.N ≤ 1099511627776))))), (3, (.ptr (b1 + 0) 4 0)), (4, (.ptr (b1 + 1) 2 0)), (5, (.ptr (b1 + 2) 2 0)), (6, (.ptr (b1 + 3) 4 0)), (9, (.ptr (b4 + 0) 4 0))] ∧ Has σ (b5 + 8) (b5 + 8) [.blk (b4 + 0) 27 [(vi 0), (vi 0), (vb false), (vb false)], .blk (b1 + 3) 27 [(vi 0), (vi 0), (vb false), (vb false)], .blk (b1 + 2) 32 [(.v (.int .i8 high.Inf)), (vi high.N)], .blk (b1 + 1) 32 [(.v (.int .i8 low.Inf)), (vi low.N)], .blk (b1 + 0) 25 (vF f)]) rfl ?_ ?_
      ·refine .split rfl rfl ?_ ?_ <;> intro hc5
       ·skip
        refine .wanted rfl rfl (.Z2 (off := 0) (fo := 1) H 2 rfl rfl rfl rfl rfl nofun rfl (.wanted rfl rfl (.ZC (off := 1) (v := (vi high.N)) H 2 rfl rfl rfl rfl rfl nofun rfl (.wanted rfl rfl (.int (m := high.N) (m' := 1099511627776) (r := .bool (decide (high.N ≤ 1099511627776))) rfl rfl rfl rfl rfl ?_)))))
        refine .Zf (v := (vb (decide (high.N ≤ 1099511627776)))) rfl rfl rfl (.nil ?_)
        exact ⟨⟨Z15 hc5, rfl, rfl, rfl, rfl, rfl, trivial⟩, H.weak (by omega) (Nat.le_refl _)⟩
       ·skip
        refine .pass rfl rfl rfl (.pass rfl rfl rfl (.pass rfl rfl rfl (.Zh (v := (vb false)) rfl rfl rfl (.nil ?_))))
        exact ⟨⟨Z19 hc5, rfl, rfl, rfl, rfl, rfl, trivial⟩, H.weak (by omega) (Nat.le_refl _)⟩
      ·rintro e σ ⟨he, H⟩
       obtain ⟨e, rfl⟩ := he.ex
       refine .nila H fun H => ?_
       refine .whether (v := ((high.Inf == 0) && (decide (high.N ≤ 1099511627776)))) rfl ?_ ?_ <;> intro hc6
       ·replace h := Z7 hc6 h
        refine .then (.Z0 12 rfl H fun b6 σ H => (.ZI (off := 0) (cs := (vF f)) H 4 rfl rfl rfl rfl rfl rfl rfl nofun rfl (.Z2 (off := 0) (fo := 1) H 2 rfl rfl rfl rfl rfl nofun rfl (.ZC (off := 1) (v := (vi high.N)) H 2 rfl rfl rfl rfl rfl nofun rfl (.max2 rfl rfl rfl ?_)))))
        obtain ⟨x1, q1, h⟩ := bind_some h
        refine .call (ys := [(.agg (vF f)), (vi (iMax high.N (-1099511627776)))]) (r := (.tup [(vi x1.1), (vb x1.2.1), (vi x1.2.2)])) rfl (Z7r q1) rfl (.move (v := (.tup [(vi x1.1), (vb x1.2.1), (vi x1.2.2)])) rfl rfl (.extract (v := (vi x1.1)) rfl rfl rfl (.extract (v := (vb x1.2.1)) rfl rfl rfl (.extract (v := (vi x1.2.2)) rfl rfl rfl (.assign (v := (vi x1.1)) rfl rfl ?_)))))
        refine .assign (v := (vb x1.2.1)) rfl rfl (.assign (v := (vi x1.2.2)) rfl rfl (.nila H fun H => (.then (.then (.Z0 2 rfl H fun b7 σ H => ?_)))))
        refine .move (v := (vb x1.2.1)) rfl rfl (.not (b := x1.2.1) rfl rfl (.nila H fun H => ?_))
        refine .whether (v := (!x1.2.1)) rfl ?_ ?_ <;> intro hc7
        ·replace h := Z7 hc7 h
         refine .then (.Z0 4 rfl H fun b8 σ H => (.Z0I (cs := [(vi 0), (vi 0), (vb false), (vb false)]) rfl rfl (.ZV (off := 0) (cells' := [(vi 0), (vi 0), (vb false), (vb false)]) H 1 rfl rfl rfl rfl rfl rfl rfl rfl rfl nofun fun σ H => (.assign (v := (vb false)) rfl rfl (.assign (v := (vi 0)) rfl rfl ?_)))))
         refine .nila H fun H => (.ret ?_)
         replace h := sj h; subst h
         exact (.inr ⟨_, rfl, rfl, (Ends.H (xs := [(.agg [(vi 0), (vi 0), (vb false), (vb false)]), (vb false), (vi 0)]) (.inr rfl) H (.agg (cs := [(vi 0), (vi 0), (vb false), (vb false)]) (off := 0) 1 rfl rfl rfl rfl rfl rfl rfl (.tmp (v := (vb false)) rfl (.tmp (v := (vi 0)) rfl .nil))) (.two (.cons (.p rfl) (.cons (.c (.v _)) (.cons (.c (.v _)) .nil)))))⟩)
        ·replace h := Z8 hc7 h
         refine .skip (.Z0 5 rfl H fun b9 σ H => (.move (v := (vi x1.1)) rfl rfl (.Z2 (off := 0) (fo := 1) H 0 rfl rfl rfl rfl rfl nofun rfl (.ZV (off := 1) (cells' := [(vi 0), (vi x1.1), (vb false), (vb false)]) H 0 rfl rfl rfl rfl rfl rfl rfl rfl rfl nofun fun σ H => (.Z2 (off := 0) (fo := 3) H 0 rfl rfl rfl rfl rfl nofun rfl ?_)))))
         refine .ZV (off := 3) (cells' := [(vi 0), (vi x1.1), (vb false), (vb true)]) H 0 rfl rfl rfl rfl rfl rfl rfl rfl rfl nofun fun σ H => (.nila H fun H => ?_)
         replace h := sj h; subst h
         exact (.inl ⟨_, rfl, rfl, ⟨rfl, rfl, rfl, rfl, trivial⟩, (H.erase 2)⟩)
       ·replace h := Z8 hc6 h
        refine .skip ?_
        replace h := sj h; subst h
        exact (.inl ⟨_, rfl, rfl, ⟨rfl, rfl, rfl, rfl, trivial⟩, (H.erase 2)⟩)
     ·rintro x e σ (⟨a2, rfl, rfl, he, H⟩ | ⟨r', rfl, rfl, hE⟩)
      ·skip
       replace h := jgo h
       obtain ⟨e, rfl⟩ := he.ex
       refine .then ?_
       obtain ⟨y2, hj2, h⟩ := bind_some h
       refine .mono (Q := fun x e σ => (∃ a3, y2 = (.go a3) ∧ x = .normal ∧ Z4 e [(6, (.ptr (b1 + 3) 4 0)), (9, (.ptr (b4 + 0) 4 0))] ∧ Hs σ [.blk (b4 + 0) 27 [(vi a3.1), (vi a2.1), (vb a3.2), (vb a2.2)], .blk (b1 + 3) 27 [(vi 0), (vi 0), (vb false), (vb false)]]) ∨ (∃ r', y2 = (.ret r') ∧ x = .ret ∧ Ends CX Try.f22.results.toList (.tup [(.agg (vs (Range.cs r'.1))), (vb r'.2.1), (vi r'.2.2)]) x e σ)) ?_ ?_
       ·replace h := hj2
        refine .then (.Z0 8 rfl H fun b10 σ H => (.Z2 (off := 0) (fo := 0) H 2 rfl rfl rfl rfl rfl nofun rfl (.ZC (off := 0) (v := (.v (.int .i8 low.Inf))) H 2 rfl rfl rfl rfl rfl nofun rfl (.int (m := low.Inf) (m' := 0) (r := .bool (low.Inf == 0)) rfl rfl rfl rfl rfl (.move (v := (vb (low.Inf == 0))) rfl rfl ?_)))))
        refine .mid 4 (K1 := fun e σ => Z4 e [(65, (vb ((low.Inf == 0) && (decide (low.N ≥ (-1099511627776)))))), (3, (.ptr (b1 + 0) 4 0)), (4, (.ptr (b1 + 1) 2 0)), (6, (.ptr (b1 + 3) 4 0)), (9, (.ptr (b4 + 0) 4 0))] ∧ Has σ (b10 + 8) (b10 + 8) [.blk (b4 + 0) 27 [(vi 0), (vi a2.1), (vb false), (vb a2.2)], .blk (b1 + 3) 27 [(vi 0), (vi 0), (vb false), (vb false)], .blk (b1 + 1) 32 [(.v (.int .i8 low.Inf)), (vi low.N)], .blk (b1 + 0) 25 (vF f)]) rfl ?_ ?_
        ·refine .split rfl rfl ?_ ?_ <;> intro hc8
         ·skip
          refine .wanted rfl rfl (.Z2 (off := 0) (fo := 1) H 2 rfl rfl rfl rfl rfl nofun rfl (.wanted rfl rfl (.ZC (off := 1) (v := (vi low.N)) H 2 rfl rfl rfl rfl rfl nofun rfl (.wanted rfl rfl (.int (m := low.N) (m' := (-1099511627776)) (r := .bool (decide (low.N ≥ (-1099511627776)))) rfl rfl rfl rfl rfl ?_)))))
          refine .Zf (v := (vb (decide (low.N ≥ (-1099511627776))))) rfl rfl rfl (.nil ?_)
          exact ⟨⟨Z15 hc8, rfl, rfl, rfl, rfl, trivial⟩, H.weak (by omega) (Nat.le_refl _)⟩
         ·skip
          refine .pass rfl rfl rfl (.pass rfl rfl rfl (.pass rfl rfl rfl (.Zh (v := (vb false)) rfl rfl rfl (.nil ?_))))
          exact ⟨⟨Z19 hc8, rfl, rfl, rfl, rfl, trivial⟩, H.weak (by omega) (Nat.le_refl _)⟩
        ·rintro e σ ⟨he, H⟩
         obtain ⟨e, rfl⟩ := he.ex
         refine .nila H fun H => ?_
         refine .whether (v := ((low.Inf == 0) && (decide (low.N ≥ (-1099511627776))))) rfl ?_ ?_ <;> intro hc9
         ·replace h := Z7 hc9 h
          refine .then (.Z0 12 rfl H fun b11 σ H => (.ZI (off := 0) (cs := (vF f)) H 3 rfl rfl rfl rfl rfl rfl rfl nofun rfl (.Z2 (off := 0) (fo := 1) H 2 rfl rfl rfl rfl rfl nofun rfl (.ZC (off := 1) (v := (vi low.N)) H 2 rfl rfl rfl rfl rfl nofun rfl (.min2 rfl rfl rfl ?_)))))
          obtain ⟨x2, q2, h⟩ := bind_some h
          refine .call (ys := [(.agg (vF f)), (vi (iMin low.N 1099511627776))]) (r := (.tup [(vi x2.1), (vb x2.2.1), (vi x2.2.2)])) rfl (size_Up_fn q2) rfl (.move (v := (.tup [(vi x2.1), (vb x2.2.1), (vi x2.2.2)])) rfl rfl (.extract (v := (vi x2.1)) rfl rfl rfl (.extract (v := (vb x2.2.1)) rfl rfl rfl (.extract (v := (vi x2.2.2)) rfl rfl rfl (.assign (v := (vi x2.1)) rfl rfl ?_)))))
          refine .assign (v := (vb x2.2.1)) rfl rfl (.assign (v := (vi x2.2.2)) rfl rfl (.nila H fun H => (.then (.then (.Z0 2 rfl H fun b12 σ H => ?_)))))
          refine .move (v := (vb x2.2.1)) rfl rfl (.not (b := x2.2.1) rfl rfl (.nila H fun H => ?_))
          refine .whether (v := (!x2.2.1)) rfl ?_ ?_ <;> intro hc10
          ·replace h := Z7 hc10 h
           refine .then (.Z0 4 rfl H fun b13 σ H => (.Z0I (cs := [(vi 0), (vi 0), (vb false), (vb false)]) rfl rfl (.ZV (off := 0) (cells' := [(vi 0), (vi 0), (vb false), (vb false)]) H 1 rfl rfl rfl rfl rfl rfl rfl rfl rfl nofun fun σ H => (.assign (v := (vb false)) rfl rfl (.assign (v := (vi 0)) rfl rfl ?_)))))
           refine .nila H fun H => (.ret ?_)
           replace h := sj h; subst h
           exact (.inr ⟨_, rfl, rfl, (Ends.H (xs := [(.agg [(vi 0), (vi 0), (vb false), (vb false)]), (vb false), (vi 0)]) (.inr rfl) H (.agg (cs := [(vi 0), (vi 0), (vb false), (vb false)]) (off := 0) 1 rfl rfl rfl rfl rfl rfl rfl (.tmp (v := (vb false)) rfl (.tmp (v := (vi 0)) rfl .nil))) (.two (.cons (.p rfl) (.cons (.c (.v _)) (.cons (.c (.v _)) .nil)))))⟩)
          ·replace h := Z8 hc10 h
           refine .skip (.Z0 5 rfl H fun b14 σ H => (.move (v := (vi x2.1)) rfl rfl (.Z2 (off := 0) (fo := 0) H 0 rfl rfl rfl rfl rfl nofun rfl (.ZV (off := 0) (cells' := [(vi x2.1), (vi a2.1), (vb false), (vb a2.2)]) H 0 rfl rfl rfl rfl rfl rfl rfl rfl rfl nofun fun σ H => (.Z2 (off := 0) (fo := 2) H 0 rfl rfl rfl rfl rfl nofun rfl ?_)))))
           refine .ZV (off := 2) (cells' := [(vi x2.1), (vi a2.1), (vb true), (vb a2.2)]) H 0 rfl rfl rfl rfl rfl rfl rfl rfl rfl nofun fun σ H => (.nila H fun H => ?_)
           replace h := sj h; subst h
           exact (.inl ⟨_, rfl, rfl, ⟨rfl, rfl, trivial⟩, ((H.erase 3).erase 2)⟩)
         ·replace h := Z8 hc9 h
          refine .skip ?_
          replace h := sj h; subst h
          exact (.inl ⟨_, rfl, rfl, ⟨rfl, rfl, trivial⟩, ((H.erase 3).erase 2)⟩)
       ·rintro x e σ (⟨a4, rfl, rfl, he, H⟩ | ⟨r', rfl, rfl, hE⟩)
        ·skip
         replace h := jgo h
         obtain ⟨e, rfl⟩ := he.ex
         refine .then (.Z0 4 rfl H fun b15 σ H => (.ZI (off := 0) (cs := [(vi a4.1), (vi a2.1), (vb a4.2), (vb a2.2)]) H 0 rfl rfl rfl rfl rfl rfl rfl nofun rfl (.ZV (off := 0) (cells' := [(vi a4.1), (vi a2.1), (vb a4.2), (vb a2.2)]) H 1 rfl rfl rfl rfl rfl rfl rfl rfl rfl nofun fun σ H => (.assign (v := (vb true)) rfl rfl (.assign (v := (vi 0)) rfl rfl ?_)))))
         refine .nila H fun H => (.ret ?_)
         replace h := sj h; subst h
         exact (Ends.H (xs := [(.agg [(vi a4.1), (vi a2.1), (vb a4.2), (vb a2.2)]), (vb true), (vi 0)]) (.inr rfl) H (.agg (cs := [(vi a4.1), (vi a2.1), (vb a4.2), (vb a2.2)]) (off := 0) 1 rfl rfl rfl rfl rfl rfl rfl (.tmp (v := (vb true)) rfl (.tmp (v := (vi 0)) rfl .nil))) (.two (.cons (.p rfl) (.cons (.c (.v _)) (.cons (.c (.v _)) .nil)))))
        ·skip
         replace h := jret h
         replace h := sj h; subst h
         exact hE
      ·skip
       replace h := jret h
       replace h := sj h; subst h
       exact hE

end Go.Dn

namespace Go.Dn
open Go Go.Proofs
set_option maxRecDepth 100000
set_option maxHeartbeats 4000000

theorem Z1b {f : Form} {low : Int} {high : Int} {want : Range} {r : Bool} (h : Z0g f low high want = some r) : Fn CX 43 [(.agg (vs (Form.cs f))), (vi low), (vi high), (.agg (vs (Range.cs want)))] (vb r) := by
 refine Fn.ends Try.func43 rfl rfl rfl rfl rfl rfl ?_
 have H : Hs (⟨0, fun _ => .none⟩ : Heap) [] := Has.nil (Nat.le_refl _)
 generalize (⟨0, fun _ => .none⟩ : Heap) = σ at H ⊢
 unfold Z0g at h
 refine .then (.Z0 3 rfl H fun b1 σ H => (.boxH (cs := (vF f)) H (by omega) (by omega) rfl rfl rfl fun σ H => (.boxH (cs := [(vi want.Low), (vi want.High), (vb want.HasLow), (vb want.HasHigh)]) H (by omega) (by omega) rfl rfl rfl fun σ H => (.assign (v := (vb false)) rfl rfl (.nila H fun H => ?_)))))
 refine .then (.Z0w 14 rfl (by kernel_rfl) H fun b2 σ H B2 => (.ZI (off := 0) (cs := (vF f)) H 1 rfl rfl rfl rfl rfl rfl rfl (fun _ => .inl ⟨B2 1 _ rfl _ rfl, nofun, (fun _ => by kernel_rfl)⟩) rfl (.move (v := (vi low)) rfl rfl (.call (ys := [(vi low)]) (r := (.agg [(.v (.int .i8 (Z1 low).Inf)), (vi (Z1 low).N)])) rfl (Zv rfl) rfl (.move (v := (vi high)) rfl rfl ?_)))))
 refine .call (ys := [(vi high)]) (r := (.agg [(.v (.int .i8 (Z1 high).Inf)), (vi (Z1 high).N)])) rfl (Zv rfl) rfl ?_
 obtain ⟨x1, q1, h⟩ := bind_some h
 refine .call (ys := [(.agg (vF f)), (.agg [(.v (.int .i8 (Z1 low).Inf)), (vi (Z1 low).N)]), (.agg [(.v (.int .i8 (Z1 high).Inf)), (vi (Z1 high).N)])]) (r := (.tup [(.agg [(vi x1.1.Low), (vi x1.1.High), (vb x1.1.HasLow), (vb x1.1.HasHigh)]), (vb x1.2.1), (vi x1.2.2)])) rfl (Z4R q1) rfl (.move (v := (.tup [(.agg [(vi x1.1.Low), (vi x1.1.High), (vb x1.1.HasLow), (vb x1.1.HasHigh)]), (vb x1.2.1), (vi x1.2.2)])) rfl rfl (.extract (v := (.agg [(vi x1.1.Low), (vi x1.1.High), (vb x1.1.HasLow), (vb x1.1.HasHigh)])) rfl rfl rfl (.extract (v := (vb x1.2.1)) rfl rfl rfl (.extract (v := (vi x1.2.2)) rfl rfl rfl (.Zk (cs := [(vi 0), (vi 0), (vb false), (vb false)]) H (by omega) (by omega) rfl rfl fun σ H => ?_)))))
 refine .ZV (off := 0) (cells' := [(vi x1.1.Low), (vi x1.1.High), (vb x1.1.HasLow), (vb x1.1.HasHigh)]) H 0 rfl rfl rfl rfl rfl rfl rfl rfl rfl (fun _ => .inr ⟨10, rfl, by kernel_rfl, by decide⟩) fun σ H => (.assign (v := (vb x1.2.1)) rfl rfl (.assign (v := (vi x1.2.2)) rfl rfl (.nila H fun H => (.then (.Z0 11 rfl H fun b3 σ H => ?_)))))
 refine .move (v := (vi x1.2.2)) rfl rfl (.int (m := x1.2.2) (m' := 0) (r := .bool (x1.2.2 == 0)) rfl rfl rfl rfl rfl (.move (v := (vb (x1.2.2 == 0))) rfl rfl ?_))
 refine .mid 2 (K1 := fun e σ => Z4 e [(26, (vb ((x1.2.2 == 0) && x1.2.1))), (7, (.ptr (b1 + 1) 4 0)), (9, (.ptr (b2 + 10) 4 0))] ∧ Has σ (b3 + 5) (b3 + 11) [.blk (b2 + 10) 27 [(vi x1.1.Low), (vi x1.1.High), (vb x1.1.HasLow), (vb x1.1.HasHigh)], .blk (b1 + 1) 27 [(vi want.Low), (vi want.High), (vb want.HasLow), (vb want.HasHigh)]]) rfl ?_ ?_
 ·refine .split rfl rfl ?_ ?_ <;> intro hc1
  ·skip
   refine .wanted rfl rfl (.move (v := (vb x1.2.1)) rfl rfl (.Zf (v := (vb x1.2.1)) rfl rfl rfl (.nil ?_)))
   exact ⟨⟨Z15 hc1, rfl, rfl, trivial⟩, (H.erase 2).weak (by omega) (Nat.le_refl _)⟩
  ·skip
   refine .pass rfl rfl rfl (.Zh (v := (vb false)) rfl rfl rfl (.nil ?_))
   exact ⟨⟨Z19 hc1, rfl, rfl, trivial⟩, (H.erase 2).weak (by omega) (Nat.le_refl _)⟩
 ·rintro e σ ⟨he, H⟩
  obtain ⟨e, rfl⟩ := he.ex
  refine .move (v := (vb ((x1.2.2 == 0) && x1.2.1))) rfl rfl ?_
  refine .mid 4 (K1 := fun e σ => Z4 e [(31, (vb (((x1.2.2 == 0) && x1.2.1) && ((x1.1.Low == want.Low) && ((x1.1.High == want.High) && ((x1.1.HasLow == want.HasLow) && ((x1.1.HasHigh == want.HasHigh) && true)))))))] ∧ Has σ (b3 + 10) (b3 + 11) []) rfl ?_ ?_
  ·refine .split rfl rfl ?_ ?_ <;> intro hc2
   ·skip
    refine .wanted rfl rfl (.ZI (off := 0) (cs := [(vi x1.1.Low), (vi x1.1.High), (vb x1.1.HasLow), (vb x1.1.HasHigh)]) H 0 rfl rfl rfl rfl rfl rfl rfl nofun rfl (.wanted rfl rfl (.ZI (off := 0) (cs := [(vi want.Low), (vi want.High), (vb want.HasLow), (vb want.HasHigh)]) H 1 rfl rfl rfl rfl rfl rfl rfl nofun rfl (.wanted rfl rfl (.binA (u := (.agg [(vi x1.1.Low), (vi x1.1.High), (vb x1.1.HasLow), (vb x1.1.HasHigh)])) (w := (.agg [(vi want.Low), (vi want.High), (vb want.HasLow), (vb want.HasHigh)])) (r := .bool ((x1.1.Low == want.Low) && ((x1.1.High == want.High) && ((x1.1.HasLow == want.HasLow) && ((x1.1.HasHigh == want.HasHigh) && true))))) rfl rfl (by kernel_rfl) (fun _ => Z3L rfl rfl rfl rfl) rfl ?_)))))
    refine .Zf (v := (vb ((x1.1.Low == want.Low) && ((x1.1.High == want.High) && ((x1.1.HasLow == want.HasLow) && ((x1.1.HasHigh == want.HasHigh) && true)))))) rfl rfl rfl (.nil ?_)
    exact ⟨⟨Z15 hc2, trivial⟩, ((H.erase 1).erase 0).weak (by omega) (Nat.le_refl _)⟩
   ·skip
    refine .pass rfl rfl rfl (.pass rfl rfl rfl (.pass rfl rfl rfl (.Zh (v := (vb false)) rfl rfl rfl (.nil ?_))))
    exact ⟨⟨Z19 hc2, trivial⟩, ((H.erase 1).erase 0).weak (by omega) (Nat.le_refl _)⟩
  ·rintro e σ ⟨he, H⟩
   obtain ⟨e, rfl⟩ := he.ex
   refine .assign (v := (vb (((x1.2.2 == 0) && x1.2.1) && ((x1.1.Low == want.Low) && ((x1.1.High == want.High) && ((x1.1.HasLow == want.HasLow) && ((x1.1.HasHigh == want.HasHigh) && true))))))) rfl rfl (.nila H fun H => (.ret ?_))
   replace h := sj h; subst h
   exact (Ends.H (xs := [(vb (((x1.2.2 == 0) && x1.2.1) && ((x1.1.Low == want.Low) && ((x1.1.High == want.High) && ((x1.1.HasLow == want.HasLow) && ((x1.1.HasHigh == want.HasHigh) && true))))))]) (.inr rfl) H (.tmp (v := (vb (((x1.2.2 == 0) && x1.2.1) && ((x1.1.Low == want.Low) && ((x1.1.High == want.High) && ((x1.1.HasLow == want.HasLow) && ((x1.1.HasHigh == want.HasHigh) && true))))))) rfl .nil) (.one (.c (.v _))))

theorem Z69 {r : Bool} (h : Z1Z = some r) : Fn CX 13 [] (vb r) := by
 refine Fn.ends Try.func13 rfl rfl rfl rfl rfl rfl ?_
 have H : Hs (⟨0, fun _ => .none⟩ : Heap) [] := Has.nil (Nat.le_refl _)
 generalize (⟨0, fun _ => .none⟩ : Heap) = σ at H ⊢
 unfold Z1Z at h
 refine .then (.Z0 1 rfl H fun b1 σ H => (.assign (v := (vb false)) rfl rfl (.nila H fun H => (.then (.Z0 6 rfl H fun b2 σ H => ?_)))))
 refine .Z0I (cs := [(vi 0), (vi 6)]) rfl rfl (.Z3K (sz := 2) ([(Span.mk 0 6)].map Span.cs) H (by omega) (by omega) rfl rfl rfl rfl rfl rfl rfl rfl rfl fun σ H => (.buildSF (sz := 1) ([[(Span.mk 0 6)]].map (cL Span.cs)) H (by omega) (by omega) rfl rfl (.exp (.c (.s 0 rfl)) .nil) rfl rfl rfl rfl rfl rfl rfl nofun fun σ H => (.Z0I (cs := [(vi 7), (vi 1), (.buf (b2 + 2) 1 1), .nils]) rfl rfl (.Zk (cs := [(vi 0), (vi 0), .nils, .nils]) H (by omega) (by omega) rfl rfl fun σ H => (.ZV (off := 0) (cells' := [(vi 7), (vi 1), (.buf (b2 + 2) 1 1), .nils]) H 0 rfl rfl rfl rfl rfl rfl rfl rfl rfl nofun fun σ H => ?_)))))
 refine .nila H fun H => (.then (.Z0 3 rfl H fun b3 σ H => (.call (ys := []) (r := (.agg (vF ZU))) rfl (Z6j rfl) rfl (.Zk (cs := [(vi 0), (vi 0), .nils, .nils]) H (by omega) (by omega) rfl rfl fun σ H => (.ZV (off := 0) (cells' := (vF ZU)) H 0 rfl rfl rfl rfl rfl rfl rfl rfl rfl nofun fun σ H => ?_)))))
 refine .nila H fun H => (.then (.Z0 7 rfl H fun b4 σ H => (.Z0I (cs := [(vi 5), (vi 6)]) rfl rfl (.Z3K (sz := 2) ([(Span.mk 5 6)].map Span.cs) H (by omega) (by omega) rfl rfl rfl rfl rfl rfl rfl rfl rfl fun σ H => (.Z0I (cs := [(vi 3), (.buf (b4 + 1) 1 2)]) rfl rfl ?_)))))
 refine .buildSF (sz := 2) ([(Granule.mk 3 [(Span.mk 5 6)])].map Granule.cs) H (by omega) (by omega) rfl rfl (.exp (.a (.cons (.v _) (.cons (.s 0 rfl) .nil))) .nil) rfl rfl rfl rfl rfl rfl rfl nofun fun σ H => (.Z0I (cs := [(vi 0), (vi 0), .nils, (.buf (b4 + 3) 1 2)]) rfl rfl (.Zk (cs := [(vi 0), (vi 0), .nils, .nils]) H (by omega) (by omega) rfl rfl fun σ H => (.ZV (off := 0) (cells' := [(vi 0), (vi 0), .nils, (.buf (b4 + 3) 1 2)]) H 0 rfl rfl rfl rfl rfl rfl rfl rfl rfl nofun fun σ H => (.nila H fun H => (.then ?_)))))
 refine .Z0 10 rfl H fun b5 σ H => (.ZI (off := 0) (cs := [(vi 7), (vi 1), (.buf (b2 + 2) 1 1), .nils]) H 4 rfl rfl rfl rfl rfl rfl rfl nofun rfl (.Z0I (cs := [(vi 1), (vi 0), (vb true), (vb false)]) rfl rfl ?_))
 obtain ⟨x1, q1, h⟩ := bind_some h
 refine .Z5F (xs := [(.agg [(vi 7), (vi 1), (.buf (b2 + 2) 1 1), .nils]), (.agg [(vi 1), (vi 0), (vb true), (vb false)])]) (ys := [(.agg (vs (Form.cs (Form.mk 7 1 [[(Span.mk 0 6)]] [])))), (.agg (vs (Range.cs (Range.mk 1 0 true false))))]) H rfl (.cons (.a (.cons (.v _) (.cons (.v _) (.cons (.s 5 rfl) (.cons (.n) .nil))))) (.cons (.p rfl) .nil)) (Z4V q1) rfl rfl nofun rfl fun σ H => (.move (v := (.tup [(.agg [(.v (.int .i8 x1.1.Inf)), (vi x1.1.N)]), (.agg [(.v (.int .i8 x1.2.Inf)), (vi x1.2.N)])])) rfl rfl (.extract (v := (.agg [(.v (.int .i8 x1.1.Inf)), (vi x1.1.N)])) rfl rfl rfl (.extract (v := (.agg [(.v (.int .i8 x1.2.Inf)), (vi x1.2.N)])) rfl rfl rfl (.Zk (cs := [(.v (.int .i8 0)), (vi 0)]) H (by omega) (by omega) rfl rfl fun σ H => (.Zk (cs := [(.v (.int .i8 0)), (vi 0)]) H (by omega) (by omega) rfl rfl fun σ H => ?_)))))
 refine .ZV (off := 0) (cells' := [(.v (.int .i8 x1.1.Inf)), (vi x1.1.N)]) H 1 rfl rfl rfl rfl rfl rfl rfl rfl rfl nofun fun σ H => (.ZV (off := 0) (cells' := [(.v (.int .i8 x1.2.Inf)), (vi x1.2.N)]) H 0 rfl rfl rfl rfl rfl rfl rfl rfl rfl nofun fun σ H => (.nila H fun H => (.then (.then (.Z0w 32 rfl (by kernel_rfl) H fun b6 σ H B6 => ?_)))))
 refine .ZI (off := 0) (cs := [(vi 7), (vi 1), (.buf (b2 + 2) 1 1), .nils]) H 6 rfl rfl rfl rfl rfl rfl rfl (fun _ => .inl ⟨B6 6 _ rfl _ rfl, nofun, (fun _ => by kernel_rfl)⟩) rfl ?_
 obtain ⟨x2, q2, h⟩ := bind_some h
 refine .Z5F (xs := [(.agg [(vi 7), (vi 1), (.buf (b2 + 2) 1 1), .nils]), (vi 1)]) (ys := [(.agg (vs (Form.cs (Form.mk 7 1 [[(Span.mk 0 6)]] [])))), (vi 1)]) H rfl (.cons (.a (.cons (.v _) (.cons (.v _) (.cons (.s 7 rfl) (.cons (.n) .nil))))) (.cons (.c (.v _)) .nil)) (Z2o q2) rfl rfl (fun _ => by kernel_rfl) rfl fun σ H => (.call (ys := [(vi 1)]) (r := (.agg [(.v (.int .i8 (Z1 1).Inf)), (vi (Z1 1).N)])) rfl (Zv rfl) rfl (.binA (u := (.agg [(.v (.int .i8 x2.Inf)), (vi x2.N)])) (w := (.agg [(.v (.int .i8 (Z1 1).Inf)), (vi (Z1 1).N)])) (r := .bool (!((x2.Inf == ((Z1 1).Inf)) && ((x2.N == ((Z1 1).N)) && true)))) rfl rfl (by kernel_rfl) (fun _ => Z3L rfl rfl rfl rfl) rfl (.move (v := (vb (!((x2.Inf == ((Z1 1).Inf)) && ((x2.N == ((Z1 1).N)) && true))))) rfl rfl ?_)))
 obtain ⟨y1, hj1, h⟩ := bind_some h
 refine .mid 5 (K1 := fun e σ => Z4 e [(31, (vb y1)), (1, (.ptr (b2 + 4) 4 0)), (2, (.ptr (b3 + 1) 4 0)), (3, (.ptr (b4 + 5) 4 0)), (4, (.ptr (b5 + 6) 2 0)), (5, (.ptr (b5 + 7) 2 0))] ∧ Has σ (b6 + 10) (b6 + 32) [.blk (b5 + 7) 32 [(.v (.int .i8 x1.2.Inf)), (vi x1.2.N)], .blk (b5 + 6) 32 [(.v (.int .i8 x1.1.Inf)), (vi x1.1.N)], .blk (b4 + 5) 25 [(vi 0), (vi 0), .nils, (.buf (b4 + 3) 1 2)], .sl (.buf (b4 + 3) 1 2) 76 2 ([(Granule.mk 3 [(Span.mk 5 6)])].map Granule.cs) true, .blk (b3 + 1) 25 (vF ZU), .blk (b2 + 4) 25 [(vi 7), (vi 1), (.buf (b2 + 2) 1 1), .nils], .sl (.buf (b2 + 2) 1 1) 41 1 ([[(Span.mk 0 6)]].map (cL Span.cs)) false]) rfl ?_ ?_
 ·refine .split rfl rfl ?_ ?_ <;> intro hc1
  ·replace h := Z7 hc1 hj1
   refine .pass rfl rfl rfl (.pass rfl rfl rfl (.pass rfl rfl rfl (.pass rfl rfl rfl (.Zf (v := (vb true)) rfl rfl rfl (.nil ?_)))))
   replace h := sj h; subst h
   exact ⟨⟨rfl, rfl, rfl, rfl, rfl, rfl, trivial⟩, ((H.erase 8).erase 4).weak (by omega) (Nat.le_refl _)⟩
  ·replace h := Z8 hc1 hj1
   refine .wanted rfl rfl (.ZI (off := 0) (cs := [(vi 7), (vi 1), (.buf (b2 + 2) 1 1), .nils]) H 6 rfl rfl rfl rfl rfl rfl rfl (fun _ => .inl ⟨B6 6 _ rfl _ rfl, nofun, (fun _ => by kernel_rfl)⟩) rfl (.wanted rfl rfl ?_))
   obtain ⟨x3, q3, h⟩ := bind_some h
   refine .Z5F (xs := [(.agg [(vi 7), (vi 1), (.buf (b2 + 2) 1 1), .nils]), (vi 0)]) (ys := [(.agg (vs (Form.cs (Form.mk 7 1 [[(Span.mk 0 6)]] [])))), (vi 0)]) H rfl (.cons (.a (.cons (.v _) (.cons (.v _) (.cons (.s 7 rfl) (.cons (.n) .nil))))) (.cons (.c (.v _)) .nil)) (Z2o q3) rfl rfl (fun _ => by kernel_rfl) rfl fun σ H => (.wanted rfl rfl (.call (ys := [(vi (-6))]) (r := (.agg [(.v (.int .i8 (Z1 (-6)).Inf)), (vi (Z1 (-6)).N)])) rfl (Zv rfl) rfl (.wanted rfl rfl (.binA (u := (.agg [(.v (.int .i8 x3.Inf)), (vi x3.N)])) (w := (.agg [(.v (.int .i8 (Z1 (-6)).Inf)), (vi (Z1 (-6)).N)])) (r := .bool (!((x3.Inf == ((Z1 (-6)).Inf)) && ((x3.N == ((Z1 (-6)).N)) && true)))) rfl rfl (by kernel_rfl) (fun _ => Z3L rfl rfl rfl rfl) rfl (.Zh (v := (vb (!((x3.Inf == ((Z1 (-6)).Inf)) && ((x3.N == ((Z1 (-6)).N)) && true))))) rfl rfl rfl ?_)))))
   refine .nil ?_
   replace h := sj h; subst h
   exact ⟨⟨rfl, rfl, rfl, rfl, rfl, rfl, trivial⟩, ((H.erase 8).erase 4).weak (by omega) (Nat.le_refl _)⟩
 ·rintro e σ ⟨he, H⟩
  obtain ⟨e, rfl⟩ := he.ex
  refine .move (v := (vb y1)) rfl rfl ?_
  obtain ⟨y2, hj2, h⟩ := bind_some h
  refine .mid 5 (K1 := fun e σ => Z4 e [(37, (vb y2)), (1, (.ptr (b2 + 4) 4 0)), (2, (.ptr (b3 + 1) 4 0)), (3, (.ptr (b4 + 5) 4 0)), (4, (.ptr (b5 + 6) 2 0)), (5, (.ptr (b5 + 7) 2 0))] ∧ Has σ (b6 + 16) (b6 + 32) [.blk (b5 + 7) 32 [(.v (.int .i8 x1.2.Inf)), (vi x1.2.N)], .blk (b5 + 6) 32 [(.v (.int .i8 x1.1.Inf)), (vi x1.1.N)], .blk (b4 + 5) 25 [(vi 0), (vi 0), .nils, (.buf (b4 + 3) 1 2)], .sl (.buf (b4 + 3) 1 2) 76 2 ([(Granule.mk 3 [(Span.mk 5 6)])].map Granule.cs) true, .blk (b3 + 1) 25 (vF ZU), .blk (b2 + 4) 25 [(vi 7), (vi 1), (.buf (b2 + 2) 1 1), .nils], .sl (.buf (b2 + 2) 1 1) 41 1 ([[(Span.mk 0 6)]].map (cL Span.cs)) false]) rfl ?_ ?_
  ·refine .split rfl rfl ?_ ?_ <;> intro hc2
   ·replace h := Z7 hc2 hj2
    refine .pass rfl rfl rfl (.pass rfl rfl rfl (.pass rfl rfl rfl (.pass rfl rfl rfl (.Zf (v := (vb true)) rfl rfl rfl (.nil ?_)))))
    replace h := sj h; subst h
    exact ⟨⟨rfl, rfl, rfl, rfl, rfl, rfl, trivial⟩, H.weak (by omega) (Nat.le_refl _)⟩
   ·replace h := Z8 hc2 hj2
    refine .wanted rfl rfl (.ZI (off := 0) (cs := [(vi 7), (vi 1), (.buf (b2 + 2) 1 1), .nils]) H 5 rfl rfl rfl rfl rfl rfl rfl (fun _ => .inl ⟨B6 6 _ rfl _ rfl, nofun, (fun _ => by kernel_rfl)⟩) rfl (.wanted rfl rfl ?_))
    obtain ⟨x4, q4, h⟩ := bind_some h
    refine .Z5F (xs := [(.agg [(vi 7), (vi 1), (.buf (b2 + 2) 1 1), .nils]), (vi 1)]) (ys := [(.agg (vs (Form.cs (Form.mk 7 1 [[(Span.mk 0 6)]] [])))), (vi 1)]) H rfl (.cons (.a (.cons (.v _) (.cons (.v _) (.cons (.s 6 rfl) (.cons (.n) .nil))))) (.cons (.c (.v _)) .nil)) (Z3h q4) rfl rfl (fun _ => by kernel_rfl) rfl fun σ H => (.wanted rfl rfl (.call (ys := [(vi 13)]) (r := (.agg [(.v (.int .i8 (Z1 13).Inf)), (vi (Z1 13).N)])) rfl (Zv rfl) rfl (.wanted rfl rfl (.binA (u := (.agg [(.v (.int .i8 x4.Inf)), (vi x4.N)])) (w := (.agg [(.v (.int .i8 (Z1 13).Inf)), (vi (Z1 13).N)])) (r := .bool (!((x4.Inf == ((Z1 13).Inf)) && ((x4.N == ((Z1 13).N)) && true)))) rfl rfl (by kernel_rfl) (fun _ => Z3L rfl rfl rfl rfl) rfl (.Zh (v := (vb (!((x4.Inf == ((Z1 13).Inf)) && ((x4.N == ((Z1 13).N)) && true))))) rfl rfl rfl ?_)))))
    refine .nil ?_
    replace h := sj h; subst h
    exact ⟨⟨rfl, rfl, rfl, rfl, rfl, rfl, trivial⟩, H.weak (by omega) (Nat.le_refl _)⟩
  ·rintro e σ ⟨he, H⟩
   obtain ⟨e, rfl⟩ := he.ex
   refine .move (v := (vb y2)) rfl rfl ?_
   obtain ⟨y3, hj3, h⟩ := bind_some h
   refine .mid 5 (K1 := fun e σ => Z4 e [(43, (vb y3)), (1, (.ptr (b2 + 4) 4 0)), (2, (.ptr (b3 + 1) 4 0)), (3, (.ptr (b4 + 5) 4 0)), (4, (.ptr (b5 + 6) 2 0)), (5, (.ptr (b5 + 7) 2 0))] ∧ Has σ (b6 + 22) (b6 + 32) [.blk (b5 + 7) 32 [(.v (.int .i8 x1.2.Inf)), (vi x1.2.N)], .blk (b5 + 6) 32 [(.v (.int .i8 x1.1.Inf)), (vi x1.1.N)], .blk (b4 + 5) 25 [(vi 0), (vi 0), .nils, (.buf (b4 + 3) 1 2)], .sl (.buf (b4 + 3) 1 2) 76 2 ([(Granule.mk 3 [(Span.mk 5 6)])].map Granule.cs) true, .blk (b3 + 1) 25 (vF ZU), .blk (b2 + 4) 25 [(vi 7), (vi 1), (.buf (b2 + 2) 1 1), .nils], .sl (.buf (b2 + 2) 1 1) 41 1 ([[(Span.mk 0 6)]].map (cL Span.cs)) false]) rfl ?_ ?_
   ·refine .split rfl rfl ?_ ?_ <;> intro hc3
    ·replace h := Z7 hc3 hj3
     refine .pass rfl rfl rfl (.pass rfl rfl rfl (.pass rfl rfl rfl (.pass rfl rfl rfl (.Zf (v := (vb true)) rfl rfl rfl (.nil ?_)))))
     replace h := sj h; subst h
     exact ⟨⟨rfl, rfl, rfl, rfl, rfl, rfl, trivial⟩, H.weak (by omega) (Nat.le_refl _)⟩
    ·replace h := Z8 hc3 hj3
     refine .wanted rfl rfl (.ZI (off := 0) (cs := [(vi 7), (vi 1), (.buf (b2 + 2) 1 1), .nils]) H 5 rfl rfl rfl rfl rfl rfl rfl (fun _ => .inl ⟨B6 6 _ rfl _ rfl, nofun, (fun _ => by kernel_rfl)⟩) rfl (.wanted rfl rfl ?_))
     obtain ⟨x5, q5, h⟩ := bind_some h
     refine .Z5F (xs := [(.agg [(vi 7), (vi 1), (.buf (b2 + 2) 1 1), .nils]), (vi 0)]) (ys := [(.agg (vs (Form.cs (Form.mk 7 1 [[(Span.mk 0 6)]] [])))), (vi 0)]) H rfl (.cons (.a (.cons (.v _) (.cons (.v _) (.cons (.s 6 rfl) (.cons (.n) .nil))))) (.cons (.c (.v _)) .nil)) (Z3h q5) rfl rfl (fun _ => by kernel_rfl) rfl fun σ H => (.wanted rfl rfl (.call (ys := [(vi 6)]) (r := (.agg [(.v (.int .i8 (Z1 6).Inf)), (vi (Z1 6).N)])) rfl (Zv rfl) rfl (.wanted rfl rfl (.binA (u := (.agg [(.v (.int .i8 x5.Inf)), (vi x5.N)])) (w := (.agg [(.v (.int .i8 (Z1 6).Inf)), (vi (Z1 6).N)])) (r := .bool (!((x5.Inf == ((Z1 6).Inf)) && ((x5.N == ((Z1 6).N)) && true)))) rfl rfl (by kernel_rfl) (fun _ => Z3L rfl rfl rfl rfl) rfl (.Zh (v := (vb (!((x5.Inf == ((Z1 6).Inf)) && ((x5.N == ((Z1 6).N)) && true))))) rfl rfl rfl ?_)))))
     refine .nil ?_
     replace h := sj h; subst h
     exact ⟨⟨rfl, rfl, rfl, rfl, rfl, rfl, trivial⟩, H.weak (by omega) (Nat.le_refl _)⟩
   ·rintro e σ ⟨he, H⟩
    obtain ⟨e, rfl⟩ := he.ex
    refine .move (v := (vb y3)) rfl rfl ?_
    refine .mid 4 (K1 := fun e σ => Z4 e [(48, (vb (y3 || (!((x1.1.Inf == ((Z1 1).Inf)) && ((x1.1.N == ((Z1 1).N)) && true)))))), (1, (.ptr (b2 + 4) 4 0)), (2, (.ptr (b3 + 1) 4 0)), (3, (.ptr (b4 + 5) 4 0)), (5, (.ptr (b5 + 7) 2 0))] ∧ Has σ (b6 + 27) (b6 + 32) [.blk (b5 + 7) 32 [(.v (.int .i8 x1.2.Inf)), (vi x1.2.N)], .blk (b4 + 5) 25 [(vi 0), (vi 0), .nils, (.buf (b4 + 3) 1 2)], .sl (.buf (b4 + 3) 1 2) 76 2 ([(Granule.mk 3 [(Span.mk 5 6)])].map Granule.cs) true, .blk (b3 + 1) 25 (vF ZU), .blk (b2 + 4) 25 [(vi 7), (vi 1), (.buf (b2 + 2) 1 1), .nils], .sl (.buf (b2 + 2) 1 1) 41 1 ([[(Span.mk 0 6)]].map (cL Span.cs)) false]) rfl ?_ ?_
    ·refine .split rfl rfl ?_ ?_ <;> intro hc4
     ·skip
      refine .pass rfl rfl rfl (.pass rfl rfl rfl (.pass rfl rfl rfl (.Zf (v := (vb true)) rfl rfl rfl (.nil ?_))))
      exact ⟨⟨or_T hc4, rfl, rfl, rfl, rfl, trivial⟩, (H.erase 1).weak (by omega) (Nat.le_refl _)⟩
     ·skip
      refine .wanted rfl rfl (.ZI (off := 0) (cs := [(.v (.int .i8 x1.1.Inf)), (vi x1.1.N)]) H 1 rfl rfl rfl rfl rfl rfl rfl (fun _ => .inl ⟨B6 1 _ rfl _ rfl, nofun, (fun _ => by kernel_rfl)⟩) rfl (.wanted rfl rfl (.call (ys := [(vi 1)]) (r := (.agg [(.v (.int .i8 (Z1 1).Inf)), (vi (Z1 1).N)])) rfl (Zv rfl) rfl (.wanted rfl rfl (.binA (u := (.agg [(.v (.int .i8 x1.1.Inf)), (vi x1.1.N)])) (w := (.agg [(.v (.int .i8 (Z1 1).Inf)), (vi (Z1 1).N)])) (r := .bool (!((x1.1.Inf == ((Z1 1).Inf)) && ((x1.1.N == ((Z1 1).N)) && true)))) rfl rfl (by kernel_rfl) (fun _ => Z3L rfl rfl rfl rfl) rfl ?_)))))
      refine .Zh (v := (vb (!((x1.1.Inf == ((Z1 1).Inf)) && ((x1.1.N == ((Z1 1).N)) && true))))) rfl rfl rfl (.nil ?_)
      exact ⟨⟨or_F hc4, rfl, rfl, rfl, rfl, trivial⟩, (H.erase 1).weak (by omega) (Nat.le_refl _)⟩
    ·rintro e σ ⟨he, H⟩
     obtain ⟨e, rfl⟩ := he.ex
     refine .move (v := (vb (y3 || (!((x1.1.Inf == ((Z1 1).Inf)) && ((x1.1.N == ((Z1 1).N)) && true)))))) rfl rfl ?_
     refine .mid 4 (K1 := fun e σ => Z4 e [(53, (vb ((y3 || (!((x1.1.Inf == ((Z1 1).Inf)) && ((x1.1.N == ((Z1 1).N)) && true)))) || (!((x1.2.Inf == 1) && ((x1.2.N == 0) && true)))))), (1, (.ptr (b2 + 4) 4 0)), (2, (.ptr (b3 + 1) 4 0)), (3, (.ptr (b4 + 5) 4 0))] ∧ Has σ (b6 + 32) (b6 + 32) [.blk (b4 + 5) 25 [(vi 0), (vi 0), .nils, (.buf (b4 + 3) 1 2)], .sl (.buf (b4 + 3) 1 2) 76 2 ([(Granule.mk 3 [(Span.mk 5 6)])].map Granule.cs) true, .blk (b3 + 1) 25 (vF ZU), .blk (b2 + 4) 25 [(vi 7), (vi 1), (.buf (b2 + 2) 1 1), .nils], .sl (.buf (b2 + 2) 1 1) 41 1 ([[(Span.mk 0 6)]].map (cL Span.cs)) false]) rfl ?_ ?_
     ·refine .split rfl rfl ?_ ?_ <;> intro hc5
      ·skip
       refine .pass rfl rfl rfl (.pass rfl rfl rfl (.pass rfl rfl rfl (.Zf (v := (vb true)) rfl rfl rfl (.nil ?_))))
       exact ⟨⟨or_T hc5, rfl, rfl, rfl, trivial⟩, (H.erase 0).weak (by omega) (Nat.le_refl _)⟩
      ·skip
       refine .wanted rfl rfl (.ZI (off := 0) (cs := [(.v (.int .i8 x1.2.Inf)), (vi x1.2.N)]) H 0 rfl rfl rfl rfl rfl rfl rfl (fun _ => .inl ⟨B6 0 _ rfl _ rfl, nofun, (fun _ => by kernel_rfl)⟩) rfl (.wanted rfl rfl (.Z0I (cs := [(.v (.int .i8 1)), (vi 0)]) rfl rfl (.wanted rfl rfl (.binA (u := (.agg [(.v (.int .i8 x1.2.Inf)), (vi x1.2.N)])) (w := (.agg [(.v (.int .i8 1)), (vi 0)])) (r := .bool (!((x1.2.Inf == 1) && ((x1.2.N == 0) && true)))) rfl rfl (by kernel_rfl) (fun _ => Z3L rfl rfl rfl rfl) rfl ?_)))))
       refine .Zh (v := (vb (!((x1.2.Inf == 1) && ((x1.2.N == 0) && true))))) rfl rfl rfl (.nil ?_)
       exact ⟨⟨or_F hc5, rfl, rfl, rfl, trivial⟩, (H.erase 0).weak (by omega) (Nat.le_refl _)⟩
     ·rintro e σ ⟨he, H⟩
      obtain ⟨e, rfl⟩ := he.ex
      refine .nila H fun H => ?_
      refine .whether (v := ((y3 || (!((x1.1.Inf == ((Z1 1).Inf)) && ((x1.1.N == ((Z1 1).N)) && true)))) || (!((x1.2.Inf == 1) && ((x1.2.N == 0) && true))))) rfl ?_ ?_ <;> intro hc6
      ·replace h := Z7 hc6 h
       refine .then (.Z0 1 rfl H fun b7 σ H => (.assign (v := (vb false)) rfl rfl (.nila H fun H => (.ret ?_))))
       replace h := sj h; subst h
       exact (Ends.H (xs := [(vb false)]) (.inr rfl) H (.tmp (v := (vb false)) rfl .nil) (.one (.c (.v _))))
      ·replace h := Z8 hc6 h
       refine .skip (.then (.Z0w 37 rfl (by kernel_rfl) H fun b8 σ H B8 => (.ZI (off := 0) (cs := [(vi 7), (vi 1), (.buf (b2 + 2) 1 1), .nils]) H 3 rfl rfl rfl rfl rfl rfl rfl (fun _ => .inl ⟨B8 3 _ rfl _ rfl, nofun, (fun _ => by kernel_rfl)⟩) rfl (.call (ys := [(vi 0), (vi 1)]) (r := (.agg [(vi (Z5 0 1).Low), (vi (Z5 0 1).High), (vb (Z5 0 1).HasLow), (vb (Z5 0 1).HasHigh)])) rfl (Z1F rfl) rfl ?_))))
       obtain ⟨x6, q6, h⟩ := bind_some h
       refine .Z5F (xs := [(.agg [(vi 7), (vi 1), (.buf (b2 + 2) 1 1), .nils]), (vi 1), (vi 6), (.agg [(vi (Z5 0 1).Low), (vi (Z5 0 1).High), (vb (Z5 0 1).HasLow), (vb (Z5 0 1).HasHigh)])]) (ys := [(.agg (vs (Form.cs (Form.mk 7 1 [[(Span.mk 0 6)]] [])))), (vi 1), (vi 6), (.agg (vs (Range.cs (Z5 0 1))))]) H rfl (.cons (.a (.cons (.v _) (.cons (.v _) (.cons (.s 4 rfl) (.cons (.n) .nil))))) (.cons (.c (.v _)) (.cons (.c (.v _)) (.cons (.p rfl) .nil)))) (Z1b q6) rfl rfl (fun _ => by kernel_rfl) rfl fun σ H => (.move (v := (vb x6)) rfl rfl ?_)
       obtain ⟨y4, hj4, h⟩ := bind_some h
       refine .mid 4 (K1 := fun e σ => Z4 e [(61, (vb y4)), (1, (.ptr (b2 + 4) 4 0)), (2, (.ptr (b3 + 1) 4 0)), (3, (.ptr (b4 + 5) 4 0))] ∧ Has σ (b8 + 8) (b8 + 37) [.blk (b4 + 5) 25 [(vi 0), (vi 0), .nils, (.buf (b4 + 3) 1 2)], .sl (.buf (b4 + 3) 1 2) 76 2 ([(Granule.mk 3 [(Span.mk 5 6)])].map Granule.cs) true, .blk (b3 + 1) 25 (vF ZU), .blk (b2 + 4) 25 [(vi 7), (vi 1), (.buf (b2 + 2) 1 1), .nils], .sl (.buf (b2 + 2) 1 1) 41 1 ([[(Span.mk 0 6)]].map (cL Span.cs)) false]) rfl ?_ ?_
       ·refine .split rfl rfl ?_ ?_ <;> intro hc7
        ·replace h := Z7 hc7 hj4
         refine .wanted rfl rfl (.ZI (off := 0) (cs := [(vi 7), (vi 1), (.buf (b2 + 2) 1 1), .nils]) H 3 rfl rfl rfl rfl rfl rfl rfl (fun _ => .inl ⟨B8 3 _ rfl _ rfl, nofun, (fun _ => by kernel_rfl)⟩) rfl (.wanted rfl rfl (.call (ys := [(vi 1), (vi 2)]) (r := (.agg [(vi (Z5 1 2).Low), (vi (Z5 1 2).High), (vb (Z5 1 2).HasLow), (vb (Z5 1 2).HasHigh)])) rfl (Z1F rfl) rfl (.wanted rfl rfl ?_))))
         obtain ⟨x7, q7, h⟩ := bind_some h
         refine .Z5F (xs := [(.agg [(vi 7), (vi 1), (.buf (b2 + 2) 1 1), .nils]), (vi 7), (vi 13), (.agg [(vi (Z5 1 2).Low), (vi (Z5 1 2).High), (vb (Z5 1 2).HasLow), (vb (Z5 1 2).HasHigh)])]) (ys := [(.agg (vs (Form.cs (Form.mk 7 1 [[(Span.mk 0 6)]] [])))), (vi 7), (vi 13), (.agg (vs (Range.cs (Z5 1 2))))]) H rfl (.cons (.a (.cons (.v _) (.cons (.v _) (.cons (.s 4 rfl) (.cons (.n) .nil))))) (.cons (.c (.v _)) (.cons (.c (.v _)) (.cons (.p rfl) .nil)))) (Z1b q7) rfl rfl (fun _ => by kernel_rfl) rfl fun σ H => (.Zf (v := (vb x7)) rfl rfl rfl (.nil ?_))
         replace h := sj h; subst h
         exact ⟨⟨rfl, rfl, rfl, rfl, trivial⟩, H.weak (by omega) (Nat.le_refl _)⟩
        ·replace h := Z8 hc7 hj4
         refine .pass rfl rfl rfl (.pass rfl rfl rfl (.pass rfl rfl rfl (.Zh (v := (vb false)) rfl rfl rfl (.nil ?_))))
         replace h := sj h; subst h
         exact ⟨⟨rfl, rfl, rfl, rfl, trivial⟩, H.weak (by omega) (Nat.le_refl _)⟩
       ·rintro e σ ⟨he, H⟩
        obtain ⟨e, rfl⟩ := he.ex
        refine .move (v := (vb y4)) rfl rfl ?_
        obtain ⟨y5, hj5, h⟩ := bind_some h
        refine .mid 4 (K1 := fun e σ => Z4 e [(66, (vb y5)), (2, (.ptr (b3 + 1) 4 0)), (3, (.ptr (b4 + 5) 4 0))] ∧ Has σ (b8 + 13) (b8 + 37) [.blk (b4 + 5) 25 [(vi 0), (vi 0), .nils, (.buf (b4 + 3) 1 2)], .sl (.buf (b4 + 3) 1 2) 76 2 ([(Granule.mk 3 [(Span.mk 5 6)])].map Granule.cs) true, .blk (b3 + 1) 25 (vF ZU)]) rfl ?_ ?_
        ·refine .split rfl rfl ?_ ?_ <;> intro hc8
         ·replace h := Z7 hc8 hj5
          refine .wanted rfl rfl (.ZI (off := 0) (cs := [(vi 7), (vi 1), (.buf (b2 + 2) 1 1), .nils]) H 3 rfl rfl rfl rfl rfl rfl rfl (fun _ => .inl ⟨B8 3 _ rfl _ rfl, nofun, (fun _ => by kernel_rfl)⟩) rfl (.wanted rfl rfl (.call (ys := [(vi (-1)), (vi 1)]) (r := (.agg [(vi (Z5 (-1) 1).Low), (vi (Z5 (-1) 1).High), (vb (Z5 (-1) 1).HasLow), (vb (Z5 (-1) 1).HasHigh)])) rfl (Z1F rfl) rfl (.wanted rfl rfl ?_))))
          obtain ⟨x8, q8, h⟩ := bind_some h
          refine .Z5F (xs := [(.agg [(vi 7), (vi 1), (.buf (b2 + 2) 1 1), .nils]), (vi (-6)), (vi 6), (.agg [(vi (Z5 (-1) 1).Low), (vi (Z5 (-1) 1).High), (vb (Z5 (-1) 1).HasLow), (vb (Z5 (-1) 1).HasHigh)])]) (ys := [(.agg (vs (Form.cs (Form.mk 7 1 [[(Span.mk 0 6)]] [])))), (vi (-6)), (vi 6), (.agg (vs (Range.cs (Z5 (-1) 1))))]) H rfl (.cons (.a (.cons (.v _) (.cons (.v _) (.cons (.s 4 rfl) (.cons (.n) .nil))))) (.cons (.c (.v _)) (.cons (.c (.v _)) (.cons (.p rfl) .nil)))) (Z1b q8) rfl rfl (fun _ => by kernel_rfl) rfl fun σ H => (.Zf (v := (vb x8)) rfl rfl rfl (.nil ?_))
          replace h := sj h; subst h
          exact ⟨⟨rfl, rfl, rfl, trivial⟩, ((H.erase 4).erase 3).weak (by omega) (Nat.le_refl _)⟩
         ·replace h := Z8 hc8 hj5
          refine .pass rfl rfl rfl (.pass rfl rfl rfl (.pass rfl rfl rfl (.Zh (v := (vb false)) rfl rfl rfl (.nil ?_))))
          replace h := sj h; subst h
          exact ⟨⟨rfl, rfl, rfl, trivial⟩, ((H.erase 4).erase 3).weak (by omega) (Nat.le_refl _)⟩
        ·rintro e σ ⟨he, H⟩
         obtain ⟨e, rfl⟩ := he.ex
         refine .move (v := (vb y5)) rfl rfl ?_
         obtain ⟨y6, hj6, h⟩ := bind_some h
         refine .mid 5 (K1 := fun e σ => Z4 e [(72, (vb y6)), (2, (.ptr (b3 + 1) 4 0)), (3, (.ptr (b4 + 5) 4 0))] ∧ Has σ (b8 + 19) (b8 + 37) [.blk (b4 + 5) 25 [(vi 0), (vi 0), .nils, (.buf (b4 + 3) 1 2)], .sl (.buf (b4 + 3) 1 2) 76 2 ([(Granule.mk 3 [(Span.mk 5 6)])].map Granule.cs) true, .blk (b3 + 1) 25 (vF ZU)]) rfl ?_ ?_
         ·refine .split rfl rfl ?_ ?_ <;> intro hc9
          ·replace h := Z7 hc9 hj6
           refine .wanted rfl rfl (.ZI (off := 0) (cs := (vF ZU)) H 2 rfl rfl rfl rfl rfl rfl rfl (fun _ => .inl ⟨B8 2 _ rfl _ rfl, nofun, (fun _ => by kernel_rfl)⟩) rfl (.wanted rfl rfl ?_))
           obtain ⟨x9, q9, h⟩ := bind_some h
           refine .call (ys := [(.agg (vF ZU)), (vi 1)]) (r := (.agg [(.v (.int .i8 x9.Inf)), (vi x9.N)])) rfl (Z2o q9) rfl (.wanted rfl rfl (.call (ys := [(vi 3)]) (r := (.agg [(.v (.int .i8 (Z1 3).Inf)), (vi (Z1 3).N)])) rfl (Zv rfl) rfl (.wanted rfl rfl (.binA (u := (.agg [(.v (.int .i8 x9.Inf)), (vi x9.N)])) (w := (.agg [(.v (.int .i8 (Z1 3).Inf)), (vi (Z1 3).N)])) (r := .bool ((x9.Inf == ((Z1 3).Inf)) && ((x9.N == ((Z1 3).N)) && true))) rfl rfl (by kernel_rfl) (fun _ => Z3L rfl rfl rfl rfl) rfl (.Zf (v := (vb ((x9.Inf == ((Z1 3).Inf)) && ((x9.N == ((Z1 3).N)) && true)))) rfl rfl rfl ?_)))))
           refine .nil ?_
           replace h := sj h; subst h
           exact ⟨⟨rfl, rfl, rfl, trivial⟩, H.weak (by omega) (Nat.le_refl _)⟩
          ·replace h := Z8 hc9 hj6
           refine .pass rfl rfl rfl (.pass rfl rfl rfl (.pass rfl rfl rfl (.pass rfl rfl rfl (.Zh (v := (vb false)) rfl rfl rfl (.nil ?_)))))
           replace h := sj h; subst h
           exact ⟨⟨rfl, rfl, rfl, trivial⟩, H.weak (by omega) (Nat.le_refl _)⟩
         ·rintro e σ ⟨he, H⟩
          obtain ⟨e, rfl⟩ := he.ex
          refine .move (v := (vb y6)) rfl rfl ?_
          obtain ⟨y7, hj7, h⟩ := bind_some h
          refine .mid 5 (K1 := fun e σ => Z4 e [(78, (vb y7)), (2, (.ptr (b3 + 1) 4 0)), (3, (.ptr (b4 + 5) 4 0))] ∧ Has σ (b8 + 25) (b8 + 37) [.blk (b4 + 5) 25 [(vi 0), (vi 0), .nils, (.buf (b4 + 3) 1 2)], .sl (.buf (b4 + 3) 1 2) 76 2 ([(Granule.mk 3 [(Span.mk 5 6)])].map Granule.cs) true, .blk (b3 + 1) 25 (vF ZU)]) rfl ?_ ?_
          ·refine .split rfl rfl ?_ ?_ <;> intro hc10
           ·replace h := Z7 hc10 hj7
            refine .wanted rfl rfl (.ZI (off := 0) (cs := (vF ZU)) H 2 rfl rfl rfl rfl rfl rfl rfl (fun _ => .inl ⟨B8 2 _ rfl _ rfl, nofun, (fun _ => by kernel_rfl)⟩) rfl (.wanted rfl rfl ?_))
            obtain ⟨x10, q10, h⟩ := bind_some h
            refine .call (ys := [(.agg (vF ZU)), (vi 1)]) (r := (.agg [(.v (.int .i8 x10.Inf)), (vi x10.N)])) rfl (Z3h q10) rfl (.wanted rfl rfl (.call (ys := [(vi 11)]) (r := (.agg [(.v (.int .i8 (Z1 11).Inf)), (vi (Z1 11).N)])) rfl (Zv rfl) rfl (.wanted rfl rfl (.binA (u := (.agg [(.v (.int .i8 x10.Inf)), (vi x10.N)])) (w := (.agg [(.v (.int .i8 (Z1 11).Inf)), (vi (Z1 11).N)])) (r := .bool ((x10.Inf == ((Z1 11).Inf)) && ((x10.N == ((Z1 11).N)) && true))) rfl rfl (by kernel_rfl) (fun _ => Z3L rfl rfl rfl rfl) rfl (.Zf (v := (vb ((x10.Inf == ((Z1 11).Inf)) && ((x10.N == ((Z1 11).N)) && true)))) rfl rfl rfl ?_)))))
            refine .nil ?_
            replace h := sj h; subst h
            exact ⟨⟨rfl, rfl, rfl, trivial⟩, H.weak (by omega) (Nat.le_refl _)⟩
           ·replace h := Z8 hc10 hj7
            refine .pass rfl rfl rfl (.pass rfl rfl rfl (.pass rfl rfl rfl (.pass rfl rfl rfl (.Zh (v := (vb false)) rfl rfl rfl (.nil ?_)))))
            replace h := sj h; subst h
            exact ⟨⟨rfl, rfl, rfl, trivial⟩, H.weak (by omega) (Nat.le_refl _)⟩
          ·rintro e σ ⟨he, H⟩
           obtain ⟨e, rfl⟩ := he.ex
           refine .move (v := (vb y7)) rfl rfl ?_
           obtain ⟨y8, hj8, h⟩ := bind_some h
           refine .mid 4 (K1 := fun e σ => Z4 e [(83, (vb y8)), (3, (.ptr (b4 + 5) 4 0))] ∧ Has σ (b8 + 30) (b8 + 37) [.blk (b4 + 5) 25 [(vi 0), (vi 0), .nils, (.buf (b4 + 3) 1 2)], .sl (.buf (b4 + 3) 1 2) 76 2 ([(Granule.mk 3 [(Span.mk 5 6)])].map Granule.cs) true]) rfl ?_ ?_
           ·refine .split rfl rfl ?_ ?_ <;> intro hc11
            ·replace h := Z7 hc11 hj8
             refine .wanted rfl rfl (.ZI (off := 0) (cs := (vF ZU)) H 2 rfl rfl rfl rfl rfl rfl rfl (fun _ => .inl ⟨B8 2 _ rfl _ rfl, nofun, (fun _ => by kernel_rfl)⟩) rfl (.wanted rfl rfl (.call (ys := [(vi 0), (vi 0)]) (r := (.agg [(vi (Z5 0 0).Low), (vi (Z5 0 0).High), (vb (Z5 0 0).HasLow), (vb (Z5 0 0).HasHigh)])) rfl (Z1F rfl) rfl (.wanted rfl rfl ?_))))
             obtain ⟨x11, q11, h⟩ := bind_some h
             refine .call (ys := [(.agg (vF ZU)), (vi 1), (vi 2), (.agg [(vi (Z5 0 0).Low), (vi (Z5 0 0).High), (vb (Z5 0 0).HasLow), (vb (Z5 0 0).HasHigh)])]) (r := (vb x11)) rfl (Z1b q11) rfl (.Zf (v := (vb x11)) rfl rfl rfl (.nil ?_))
             replace h := sj h; subst h
             exact ⟨⟨rfl, rfl, trivial⟩, (H.erase 2).weak (by omega) (Nat.le_refl _)⟩
            ·replace h := Z8 hc11 hj8
             refine .pass rfl rfl rfl (.pass rfl rfl rfl (.pass rfl rfl rfl (.Zh (v := (vb false)) rfl rfl rfl (.nil ?_))))
             replace h := sj h; subst h
             exact ⟨⟨rfl, rfl, trivial⟩, (H.erase 2).weak (by omega) (Nat.le_refl _)⟩
           ·rintro e σ ⟨he, H⟩
            obtain ⟨e, rfl⟩ := he.ex
            refine .move (v := (vb y8)) rfl rfl ?_
            obtain ⟨y9, hj9, h⟩ := bind_some h
            refine .mid 5 (K1 := fun e σ => Z4 e [(89, (vb y9))] ∧ Has σ (b8 + 36) (b8 + 37) []) rfl ?_ ?_
            ·refine .split rfl rfl ?_ ?_ <;> intro hc12
             ·replace h := Z7 hc12 hj9
              refine .wanted rfl rfl (.ZI (off := 0) (cs := [(vi 0), (vi 0), .nils, (.buf (b4 + 3) 1 2)]) H 0 rfl rfl rfl rfl rfl rfl rfl (fun _ => .inl ⟨B8 0 _ rfl _ rfl, nofun, (fun _ => by kernel_rfl)⟩) rfl (.wanted rfl rfl ?_))
              obtain ⟨x12, q12, h⟩ := bind_some h
              refine .Z5F (xs := [(.agg [(vi 0), (vi 0), .nils, (.buf (b4 + 3) 1 2)]), (vi 1)]) (ys := [(.agg (vs (Form.cs (Form.mk 0 0 [] [(Granule.mk 3 [(Span.mk 5 6)])])))), (vi 1)]) H rfl (.cons (.a (.cons (.v _) (.cons (.v _) (.cons (.n) (.cons (.s 1 rfl) .nil))))) (.cons (.c (.v _)) .nil)) (Z2o q12) rfl rfl (fun _ => by kernel_rfl) rfl fun σ H => (.wanted rfl rfl (.call (ys := [(vi 1099511627776)]) (r := (.agg [(.v (.int .i8 (Z1 1099511627776).Inf)), (vi (Z1 1099511627776).N)])) rfl (Zv rfl) rfl (.wanted rfl rfl (.binA (u := (.agg [(.v (.int .i8 x12.Inf)), (vi x12.N)])) (w := (.agg [(.v (.int .i8 (Z1 1099511627776).Inf)), (vi (Z1 1099511627776).N)])) (r := .bool ((x12.Inf == ((Z1 1099511627776).Inf)) && ((x12.N == ((Z1 1099511627776).N)) && true))) rfl rfl (by kernel_rfl) (fun _ => Z3L rfl rfl rfl rfl) rfl (.Zf (v := (vb ((x12.Inf == ((Z1 1099511627776).Inf)) && ((x12.N == ((Z1 1099511627776).N)) && true)))) rfl rfl rfl ?_)))))
              refine .nil ?_
              replace h := sj h; subst h
              exact ⟨⟨rfl, trivial⟩, ((H.erase 1).erase 0).weak (by omega) (Nat.le_refl _)⟩
             ·replace h := Z8 hc12 hj9
              refine .pass rfl rfl rfl (.pass rfl rfl rfl (.pass rfl rfl rfl (.pass rfl rfl rfl (.Zh (v := (vb false)) rfl rfl rfl (.nil ?_)))))
              replace h := sj h; subst h
              exact ⟨⟨rfl, trivial⟩, ((H.erase 1).erase 0).weak (by omega) (Nat.le_refl _)⟩
            ·rintro e σ ⟨he, H⟩
             obtain ⟨e, rfl⟩ := he.ex
             refine .assign (v := (vb y9)) rfl rfl (.nila H fun H => (.ret ?_))
             replace h := sj h; subst h
             exact (Ends.H (xs := [(vb y9)]) (.inr rfl) H (.tmp (v := (vb y9)) rfl .nil) (.one (.c (.v _))))

theorem Z2q {r : Bool} (h : ZY = r) : Fn CX 13 [] (vb r) := by
 subst h
 exact Z69 Z5d

theorem find_up_fn {r : Unit} (h : find_up = r) : Fn CX 99 [] (.agg [(vi 1), (.v (.fn 72)), (.v (.fn 125)), (.v (.fn 126))]) := by
 refine Fn.ends Try.func99 rfl rfl rfl rfl rfl rfl ?_
 have H : Hs (⟨0, fun _ => .none⟩ : Heap) [] := Has.nil (Nat.le_refl _)
 generalize (⟨0, fun _ => .none⟩ : Heap) = σ at H ⊢
 unfold find_up at h
 refine .then (.Z0 1 rfl H fun b1 σ H => (.Zk (cs := [(vi 0), (.v .nilf), (.v .nilf), (.v .nilf)]) H (by omega) (by omega) rfl rfl fun σ H => (.nila H fun H => (.then (.Z0 2 rfl H fun b2 σ H => ?_)))))
 refine .Z0I (cs := [(vi 1), (.v (.fn 72)), (.v (.fn 125)), (.v (.fn 126))]) rfl rfl (.ZV (off := 0) (cells' := [(vi 1), (.v (.fn 72)), (.v (.fn 125)), (.v (.fn 126))]) H 0 rfl rfl rfl rfl rfl rfl rfl rfl rfl nofun fun σ H => (.nila H fun H => (.ret ?_)))
 subst h
 exact (Ends.H (xs := [(.agg [(vi 1), (.v (.fn 72)), (.v (.fn 125)), (.v (.fn 126))])]) (.inr rfl) H (.agg (cs := [(vi 1), (.v (.fn 72)), (.v (.fn 125)), (.v (.fn 126))]) (off := 0) 0 rfl rfl rfl rfl rfl rfl rfl .nil) (.one (.p rfl)))

theorem find_up_1_fn {h' : Span} {t : Int} {period : Int} {r : Int} (h : Z6T h' t period = some r) : Fn CX 125 [(.agg (vs (Span.cs h'))), (vi t), (vi period)] (vi r) := by
 refine Fn.ends Try.func125 rfl rfl rfl rfl rfl rfl ?_
 have H : Hs (⟨0, fun _ => .none⟩ : Heap) [] := Has.nil (Nat.le_refl _)
 generalize (⟨0, fun _ => .none⟩ : Heap) = σ at H ⊢
 unfold Z6T at h
 refine .then (.Z0 2 rfl H fun b1 σ H => (.boxH (cs := [(vi h'.From), (vi h'.To)]) H (by omega) (by omega) rfl rfl rfl fun σ H => (.assign (v := (vi 0)) rfl rfl (.nila H fun H => (.then ?_)))))
 refine .Z0 13 rfl H fun b2 σ H => (.Z2 (off := 0) (fo := 1) H 0 rfl rfl rfl rfl rfl nofun rfl (.ZC (off := 1) (v := (vi h'.To)) H 0 rfl rfl rfl rfl rfl nofun rfl (.move (v := (vi t)) rfl rfl (.int (m := h'.To) (m' := t) (r := .int .i64 (w64 (h'.To - t))) rfl rfl rfl rfl rfl (.move (v := (vi period)) rfl rfl ?_)))))
 obtain ⟨x1, q1, h⟩ := bind_some h
 refine .call (ys := [(vi (w64 (h'.To - t))), (vi period)]) (r := (.tup [(vi x1.1), (vi x1.2.1), (vi x1.2.2)])) rfl (Z2F q1) rfl (.move (v := (.tup [(vi x1.1), (vi x1.2.1), (vi x1.2.2)])) rfl rfl (.extract (v := (vi x1.1)) rfl rfl rfl (.extract (v := (vi x1.2.1)) rfl rfl rfl (.extract (v := (vi x1.2.2)) rfl rfl rfl (.assign (v := (vi x1.1)) rfl rfl ?_)))))
 refine .assign (v := (vi x1.2.1)) rfl rfl (.assign (v := (vi x1.2.2)) rfl rfl (.nila H fun H => (.then (.Z0 3 rfl H fun b3 σ H => (.move (v := (vi x1.1)) rfl rfl ?_)))))
 refine .neg (m := x1.1) rfl rfl (.assign (v := (vi (w64 (0 - x1.1)))) rfl rfl (.nila H fun H => (.ret ?_)))
 replace h := sj h; subst h
 exact (Ends.H (xs := [(vi (w64 (0 - x1.1)))]) (.inr rfl) H (.tmp (v := (vi (w64 (0 - x1.1)))) rfl .nil) (.one (.c (.v _))))

theorem Z2N {f : Form} {t : Int} {r : Int × Bool} (h : ZT f t = some r) : Fn CX 135 [(.agg (vs (Form.cs f))), (vi t), (.agg [(vi 1), (.v (.fn 72)), (.v (.fn 125)), (.v (.fn 126))])] (.tup [(vi r.1), (vb r.2)]) := by
 refine Fn.ends Try.func135 rfl rfl rfl rfl rfl rfl ?_
 have H : Hs (⟨0, fun _ => .none⟩ : Heap) [] := Has.nil (Nat.le_refl _)
 generalize (⟨0, fun _ => .none⟩ : Heap) = σ at H ⊢
 unfold ZT at h
 refine .then (.Z0 4 rfl H fun b1 σ H => (.boxH (cs := (vF f)) H (by omega) (by omega) rfl rfl rfl fun σ H => (.boxH (cs := [(vi 1), (.v (.fn 72)), (.v (.fn 125)), (.v (.fn 126))]) H (by omega) (by omega) rfl rfl rfl fun σ H => (.assign (v := (vi 0)) rfl rfl (.assign (v := (vb false)) rfl rfl ?_)))))
 refine .nila H fun H => (.then (.Z0 2 rfl H fun b2 σ H => (.assign (v := (vi 0)) rfl rfl (.assign (v := (vb false)) rfl rfl (.nila H fun H => ?_)))))
 refine .then (.then (.Z0 4 rfl H fun b3 σ H => (.Z2 (off := 0) (fo := 2) H 1 rfl rfl rfl rfl rfl nofun rfl (.ZC (off := 2) (v := (vl (cL Span.cs) f.Core)) H 1 rfl rfl rfl rfl rfl nofun rfl (.Z0K (c := (cL Span.cs)) (xs := f.Core) rfl rfl rfl ?_)))))
 refine .move (v := (vi 0)) rfl rfl (.nila H fun H => (.inBlock ?_))
 obtain ⟨y1, hj1, h⟩ := bind_some h
 obtain ⟨n1, hj1⟩ := Zb.1 hj1
 refine .mono (Runs.ZO hj1 (fun s1 e σ => Z4 e [(1, (vi t)), (3, (.ptr (b1 + 0) 4 0)), (5, (.ptr (b1 + 1) 4 0)), (8, (vi s1.1)), (9, (vb s1.2.1)), (16, (vl (cL Span.cs) f.Core)), (17, (vi (f.Core.length : Int))), (18, (vi s1.2.2))] ∧ Hs σ [.blk (b1 + 1) 135 [(vi 1), (.v (.fn 72)), (.v (.fn 125)), (.v (.fn 126))], .blk (b1 + 0) 25 (vF f)]) (fun y1 x e σ => x = .exit 0 ∧ Z4 e [(8, (vi y1.1)), (9, (vb y1.2))] ∧ Hs σ []) ⟨⟨rfl, rfl, rfl, rfl, rfl, rfl, rfl, rfl, trivial⟩, H⟩ ?_) ?_
 ·intro s1 e σ hI z h
  obtain ⟨he, H⟩ := hI
  obtain ⟨e, rfl⟩ := he.ex
  unfold ZT.s0 at h
  refine .then (.Z0 1 rfl H fun b4 σ H => (.int (m := s1.2.2) (m' := (f.Core.length : Int)) (r := .bool (decide (s1.2.2 < (f.Core.length : Int)))) rfl rfl rfl rfl rfl (.nila H fun H => (.then ?_))))
  refine .whether (v := (decide (s1.2.2 < (f.Core.length : Int)))) rfl ?_ ?_ <;> intro hc1
  ·replace h := Z7 hc1 h
   refine .skip (.then ?_)
   obtain ⟨y2, hj2, h⟩ := bind_some h
   refine .mono (Q := fun x e σ => x = .normal ∧ Z4 e [(1, (vi t)), (3, (.ptr (b1 + 0) 4 0)), (5, (.ptr (b1 + 1) 4 0)), (8, (vi y2.1)), (9, (vb y2.2)), (16, (vl (cL Span.cs) f.Core)), (17, (vi (f.Core.length : Int))), (18, (vi s1.2.2))] ∧ Hs σ [.blk (b1 + 1) 135 [(vi 1), (.v (.fn 72)), (.v (.fn 125)), (.v (.fn 126))], .blk (b1 + 0) 25 (vF f)]) ?_ ?_
   ·replace h := hj2
    refine .inBlock ?_
    obtain ⟨y3, hj3, h⟩ := bind_some h
    refine .mono (Q := fun x e σ => (∃ a1, y3 = (.go a1) ∧ x = .normal ∧ Z4 e [(1, (vi t)), (3, (.ptr (b1 + 0) 4 0)), (5, (.ptr (b1 + 1) 4 0)), (8, (vi a1.1)), (9, (vb a1.2)), (16, (vl (cL Span.cs) f.Core)), (17, (vi (f.Core.length : Int))), (18, (vi s1.2.2))] ∧ Hs σ [.blk (b1 + 1) 135 [(vi 1), (.v (.fn 72)), (.v (.fn 125)), (.v (.fn 126))], .blk (b1 + 0) 25 (vF f)]) ∨ (∃ a2, y3 = (.ret a2) ∧ x = .exit 1 ∧ Z4 e [(1, (vi t)), (3, (.ptr (b1 + 0) 4 0)), (5, (.ptr (b1 + 1) 4 0)), (8, (vi s1.1)), (9, (vb s1.2.1)), (16, (vl (cL Span.cs) f.Core)), (17, (vi (f.Core.length : Int))), (18, (vi s1.2.2))] ∧ Hs σ [.blk (b1 + 1) 135 [(vi 1), (.v (.fn 72)), (.v (.fn 125)), (.v (.fn 126))], .blk (b1 + 0) 25 (vF f)])) ?_ ?_
    ·replace h := hj3
     refine .then (.Z0 5 rfl H fun b5 σ H => (.move (v := (vi s1.2.2)) rfl rfl ?_))
     obtain ⟨x1, q1, h⟩ := bind_some h
     refine .Zy (c := (cL Span.cs)) (u := x1) rfl rfl q1 rfl rfl rfl rfl (.Z1p (u := (.sl (x1.map Span.cs))) rfl rfl rfl rfl (.assign (v := (vi s1.2.2)) rfl rfl (.assign (v := (vl Span.cs x1)) rfl rfl (.nila H fun H => (.then ?_)))))
     refine .Z0 8 rfl H fun b6 σ H => (.move (v := (vl Span.cs x1)) rfl rfl ?_)
     obtain ⟨x2, q2, h⟩ := bind_some h
     refine .call (ys := [(vl Span.cs x1)]) (r := (.tup [(.agg [(vi x2.1.From), (vi x2.1.To)]), (vb x2.2)])) rfl (Z2z q2) rfl (.move (v := (.tup [(.agg [(vi x2.1.From), (vi x2.1.To)]), (vb x2.2)])) rfl rfl (.extract (v := (.agg [(vi x2.1.From), (vi x2.1.To)])) rfl rfl rfl (.extract (v := (vb x2.2)) rfl rfl rfl (.Zk (cs := [(vi 0), (vi 0)]) H (by omega) (by omega) rfl rfl fun σ H => (.ZV (off := 0) (cells' := [(vi x2.1.From), (vi x2.1.To)]) H 0 rfl rfl rfl rfl rfl rfl rfl rfl rfl nofun fun σ H => ?_)))))
     refine .assign (v := (vb x2.2)) rfl rfl (.nila H fun H => (.then (.then (.Z0 2 rfl H fun b7 σ H => (.move (v := (vb x2.2)) rfl rfl ?_)))))
     refine .not (b := x2.2) rfl rfl (.nila H fun H => ?_)
     refine .whether (v := (!x2.2)) rfl ?_ ?_ <;> intro hc2
     ·replace h := Z7 hc2 h
      refine .exit ?_
      replace h := sj h; subst h
      exact (.inr ⟨_, rfl, rfl, ⟨rfl, rfl, rfl, rfl, rfl, rfl, rfl, rfl, trivial⟩, (H.erase 0)⟩)
     ·replace h := Z8 hc2 h
      refine .skip (.then (.Z0w 13 rfl (by kernel_rfl) H fun b8 σ H B8 => (.Z2 (off := 0) (fo := 2) H 1 rfl rfl rfl rfl rfl (fun _ => .inl ⟨B8 1 _ rfl _ rfl, nofun, (fun _ => by kernel_rfl)⟩) rfl (.ZC (off := 2) (v := (.v (.fn 125))) H 1 rfl rfl rfl rfl rfl (fun _ => .inl ⟨B8 1 _ rfl _ rfl, nofun, (fun _ => by kernel_rfl)⟩) rfl (.ZI (off := 0) (cs := [(vi x2.1.From), (vi x2.1.To)]) H 0 rfl rfl rfl rfl rfl rfl rfl (fun _ => .inl ⟨B8 0 _ rfl _ rfl, nofun, (fun _ => by kernel_rfl)⟩) rfl ?_)))))
      refine .move (v := (vi t)) rfl rfl (.Z2 (off := 0) (fo := 0) H 2 rfl rfl rfl rfl rfl (fun _ => .inl ⟨B8 2 _ rfl _ rfl, nofun, (fun _ => by kernel_rfl)⟩) rfl (.ZC (off := 0) (v := (vi f.Period)) H 2 rfl rfl rfl rfl rfl (fun _ => .inl ⟨B8 2 _ rfl _ rfl, nofun, (fun _ => by kernel_rfl)⟩) rfl ?_))
      obtain ⟨x3, q3, h⟩ := bind_some h
      refine .callF (ys := [(.agg [(vi x2.1.From), (vi x2.1.To)]), (vi t), (vi f.Period)]) (r := (vi x3)) rfl rfl (find_up_1_fn q3) rfl (.Z2 (off := 0) (fo := 1) H 2 rfl rfl rfl rfl rfl (fun _ => .inl ⟨B8 2 _ rfl _ rfl, nofun, (fun _ => by kernel_rfl)⟩) rfl (.ZC (off := 1) (v := (vi f.Count)) H 2 rfl rfl rfl rfl rfl (fun _ => .inl ⟨B8 2 _ rfl _ rfl, nofun, (fun _ => by kernel_rfl)⟩) rfl (.int (m := x3) (m' := f.Count) (r := .int .i64 (w64 (x3 * f.Count))) rfl rfl rfl rfl rfl (.move (v := (vi s1.2.2)) rfl rfl (.int (m := (w64 (x3 * f.Count))) (m' := s1.2.2) (r := .int .i64 (w64 ((w64 (x3 * f.Count)) + s1.2.2))) rfl rfl rfl rfl rfl ?_)))))
      refine .assign (v := (vi (w64 ((w64 (x3 * f.Count)) + s1.2.2)))) rfl rfl (.nila H fun H => (.then (.Z0 11 rfl H fun b9 σ H => (.move (v := (vb s1.2.1)) rfl rfl (.not (b := s1.2.1) rfl rfl ?_)))))
      refine .move (v := (vb (!s1.2.1))) rfl rfl ?_
      refine .mid 8 (K1 := fun e σ => Z4 e [(52, (vb ((!s1.2.1) || (decide ((w64 ((w64 ((w64 ((w64 (x3 * f.Count)) + s1.2.2)) - s1.1)) * 1)) < 0))))), (1, (vi t)), (3, (.ptr (b1 + 0) 4 0)), (5, (.ptr (b1 + 1) 4 0)), (8, (vi s1.1)), (9, (vb s1.2.1)), (14, (vi (w64 ((w64 (x3 * f.Count)) + s1.2.2)))), (16, (vl (cL Span.cs) f.Core)), (17, (vi (f.Core.length : Int))), (18, (vi s1.2.2))] ∧ Has σ (b9 + 11) (b9 + 11) [.blk (b1 + 1) 135 [(vi 1), (.v (.fn 72)), (.v (.fn 125)), (.v (.fn 126))], .blk (b1 + 0) 25 (vF f)]) rfl ?_ ?_
      ·refine .split rfl rfl ?_ ?_ <;> intro hc3
       ·skip
        refine .pass rfl rfl rfl (.pass rfl rfl rfl (.pass rfl rfl rfl (.pass rfl rfl rfl (.pass rfl rfl rfl (.pass rfl rfl rfl ?_)))))
        refine .pass rfl rfl rfl (.Zf (v := (vb true)) rfl rfl rfl (.nil ?_))
        exact ⟨⟨or_T hc3, rfl, rfl, rfl, rfl, rfl, rfl, rfl, rfl, rfl, trivial⟩, (H.erase 0).weak (by omega) (Nat.le_refl _)⟩
       ·skip
        refine .wanted rfl rfl (.move (v := (vi (w64 ((w64 (x3 * f.Count)) + s1.2.2)))) rfl rfl (.wanted rfl rfl (.move (v := (vi s1.1)) rfl rfl (.wanted rfl rfl (.int (m := (w64 ((w64 (x3 * f.Count)) + s1.2.2))) (m' := s1.1) (r := .int .i64 (w64 ((w64 ((w64 (x3 * f.Count)) + s1.2.2)) - s1.1))) rfl rfl rfl rfl rfl ?_)))))
        refine .wanted rfl rfl (.Z2 (off := 0) (fo := 0) H 1 rfl rfl rfl rfl rfl nofun rfl (.wanted rfl rfl (.ZC (off := 0) (v := (vi 1)) H 1 rfl rfl rfl rfl rfl nofun rfl (.wanted rfl rfl (.int (m := (w64 ((w64 ((w64 (x3 * f.Count)) + s1.2.2)) - s1.1))) (m' := 1) (r := .int .i64 (w64 ((w64 ((w64 ((w64 (x3 * f.Count)) + s1.2.2)) - s1.1)) * 1))) rfl rfl rfl rfl rfl ?_)))))
        refine .wanted rfl rfl (.int (m := (w64 ((w64 ((w64 ((w64 (x3 * f.Count)) + s1.2.2)) - s1.1)) * 1))) (m' := 0) (r := .bool (decide ((w64 ((w64 ((w64 ((w64 (x3 * f.Count)) + s1.2.2)) - s1.1)) * 1)) < 0))) rfl rfl rfl rfl rfl (.Zh (v := (vb (decide ((w64 ((w64 ((w64 ((w64 (x3 * f.Count)) + s1.2.2)) - s1.1)) * 1)) < 0)))) rfl rfl rfl (.nil ?_)))
        exact ⟨⟨or_F hc3, rfl, rfl, rfl, rfl, rfl, rfl, rfl, rfl, rfl, trivial⟩, (H.erase 0).weak (by omega) (Nat.le_refl _)⟩
      ·rintro e σ ⟨he, H⟩
       obtain ⟨e, rfl⟩ := he.ex
       refine .nila H fun H => ?_
       refine .whether (v := ((!s1.2.1) || (decide ((w64 ((w64 ((w64 ((w64 (x3 * f.Count)) + s1.2.2)) - s1.1)) * 1)) < 0)))) rfl ?_ ?_ <;> intro hc4
       ·replace h := Z7 hc4 h
        refine .Z0 3 rfl H fun b10 σ H => (.move (v := (vi (w64 ((w64 (x3 * f.Count)) + s1.2.2)))) rfl rfl (.assign (v := (vi (w64 ((w64 (x3 * f.Count)) + s1.2.2)))) rfl rfl (.assign (v := (vb true)) rfl rfl (.nila H fun H => ?_))))
        replace h := sj h; subst h
        exact (.inl ⟨_, rfl, rfl, ⟨rfl, rfl, rfl, rfl, rfl, rfl, rfl, rfl, trivial⟩, H⟩)
       ·replace h := Z8 hc4 h
        refine .skip ?_
        replace h := sj h; subst h
        exact (.inl ⟨_, rfl, rfl, ⟨rfl, rfl, rfl, rfl, rfl, rfl, rfl, rfl, trivial⟩, H⟩)
    ·rintro x e σ (⟨a3, rfl, rfl, he, H⟩ | ⟨a4, rfl, rfl, he, H⟩)
     ·skip
      replace h := jgo h
      obtain ⟨e, rfl⟩ := he.ex
      replace h := sj h; subst h
      exact ⟨rfl, ⟨rfl, rfl, rfl, rfl, rfl, rfl, rfl, rfl, trivial⟩, H⟩
     ·skip
      replace h := jret h
      obtain ⟨e, rfl⟩ := he.ex
      replace h := sj h; subst h
      exact ⟨rfl, ⟨rfl, rfl, rfl, rfl, rfl, rfl, rfl, rfl, trivial⟩, H⟩
   ·rintro x e σ ⟨rfl, he, H⟩
    obtain ⟨e, rfl⟩ := he.ex
    refine .Z0 2 rfl H fun b11 σ H => (.int (m := s1.2.2) (m' := 1) (r := .int .i64 (w64 (s1.2.2 + 1))) rfl rfl rfl rfl rfl (.move (v := (vi (w64 (s1.2.2 + 1)))) rfl rfl (.nila H fun H => ?_)))
    replace h := sj h; subst h
    exact ⟨rfl, ⟨rfl, rfl, rfl, rfl, rfl, rfl, rfl, rfl, trivial⟩, H⟩
  ·replace h := Z8 hc1 h
   refine .exit ?_
   replace h := sj h; subst h
   exact ⟨nofun, ⟨rfl, ⟨rfl, rfl, trivial⟩, ((H.erase 1).erase 0)⟩⟩
 ·rintro x e σ ⟨rfl, he, H⟩
  obtain ⟨e, rfl⟩ := he.ex
  refine .then (.Z0 4 rfl H fun b12 σ H => (.move (v := (vi y1.1)) rfl rfl (.move (v := (vb y1.2)) rfl rfl (.assign (v := (vi y1.1)) rfl rfl (.assign (v := (vb y1.2)) rfl rfl ?_)))))
  refine .nila H fun H => (.ret ?_)
  replace h := sj h; subst h
  exact (Ends.H (xs := [(vi y1.1), (vb y1.2)]) (.inr rfl) H (.tmp (v := (vi y1.1)) rfl (.tmp (v := (vb y1.2)) rfl .nil)) (.two (.cons (.c (.v _)) (.cons (.c (.v _)) .nil))))

theorem Z2O {f : Form} {t : Int} {r : Int × Bool} (h : ZB f t = some r) : Fn CX 124 [(.agg (vs (Form.cs f))), (vi t), (.agg [(vi 1), (.v (.fn 72)), (.v (.fn 125)), (.v (.fn 126))])] (.tup [(vi r.1), (vb r.2)]) := by
 refine Fn.ends Try.func124 rfl rfl rfl rfl rfl rfl ?_
 have H : Hs (⟨0, fun _ => .none⟩ : Heap) [] := Has.nil (Nat.le_refl _)
 generalize (⟨0, fun _ => .none⟩ : Heap) = σ at H ⊢
 unfold ZB at h
 refine .then (.Z0 4 rfl H fun b1 σ H => (.boxH (cs := (vF f)) H (by omega) (by omega) rfl rfl rfl fun σ H => (.boxH (cs := [(vi 1), (.v (.fn 72)), (.v (.fn 125)), (.v (.fn 126))]) H (by omega) (by omega) rfl rfl rfl fun σ H => (.assign (v := (vi 0)) rfl rfl (.assign (v := (vb false)) rfl rfl ?_)))))
 refine .nila H fun H => (.then (.Z0 9 rfl H fun b2 σ H => (.Z2 (off := 0) (fo := 0) H 1 rfl rfl rfl rfl rfl nofun rfl (.ZC (off := 0) (v := (vi f.Period)) H 1 rfl rfl rfl rfl rfl nofun rfl (.Z2 (off := 0) (fo := 1) H 1 rfl rfl rfl rfl rfl nofun rfl ?_)))))
 refine .ZC (off := 1) (v := (vi f.Count)) H 1 rfl rfl rfl rfl rfl nofun rfl (.Z2 (off := 0) (fo := 2) H 1 rfl rfl rfl rfl rfl nofun rfl (.ZC (off := 2) (v := (vl (cL Span.cs) f.Core)) H 1 rfl rfl rfl rfl rfl nofun rfl (.Z0I (cs := [(vi f.Period), (vi f.Count), (vl (cL Span.cs) f.Core), .nils]) rfl rfl (.Zk (cs := [(vi 0), (vi 0), .nils, .nils]) H (by omega) (by omega) rfl rfl fun σ H => (.ZV (off := 0) (cells' := [(vi f.Period), (vi f.Count), (vl (cL Span.cs) f.Core), .nils]) H 0 rfl rfl rfl rfl rfl rfl rfl rfl rfl nofun fun σ H => ?_)))))
 refine .nila H fun H => (.then (.Z0 9 rfl H fun b3 σ H => (.ZI (off := 0) (cs := (vF f)) H 2 rfl rfl rfl rfl rfl rfl rfl nofun rfl (.move (v := (vi t)) rfl rfl (.ZI (off := 0) (cs := [(vi 1), (.v (.fn 72)), (.v (.fn 125)), (.v (.fn 126))]) H 1 rfl rfl rfl rfl rfl rfl rfl nofun rfl ?_)))))
 obtain ⟨x1, q1, h⟩ := bind_some h
 refine .call (ys := [(.agg (vF f)), (vi t), (.agg [(vi 1), (.v (.fn 72)), (.v (.fn 125)), (.v (.fn 126))])]) (r := (.tup [(vi x1.1), (vb x1.2)])) rfl (Z2N q1) rfl (.move (v := (.tup [(vi x1.1), (vb x1.2)])) rfl rfl (.extract (v := (vi x1.1)) rfl rfl rfl (.extract (v := (vb x1.2)) rfl rfl rfl (.assign (v := (vi x1.1)) rfl rfl (.assign (v := (vb x1.2)) rfl rfl ?_)))))
 refine .nila H fun H => (.then (.then (.Z0 2 rfl H fun b4 σ H => (.move (v := (vb x1.2)) rfl rfl (.not (b := x1.2) rfl rfl ?_)))))
 refine .nila H fun H => ?_
 refine .whether (v := (!x1.2)) rfl ?_ ?_ <;> intro hc1
 ·replace h := Z7 hc1 h
  refine .then (.Z0 2 rfl H fun b5 σ H => (.assign (v := (vi 0)) rfl rfl (.assign (v := (vb false)) rfl rfl (.nila H fun H => (.ret ?_)))))
  replace h := sj h; subst h
  exact (Ends.H (xs := [(vi 0), (vb false)]) (.inr rfl) H (.tmp (v := (vi 0)) rfl (.tmp (v := (vb false)) rfl .nil)) (.two (.cons (.c (.v _)) (.cons (.c (.v _)) .nil))))
 ·replace h := Z8 hc1 h
  refine .skip (.then (.Z0 2 rfl H fun b6 σ H => (.makeMapH H (by omega) (by omega) rfl rfl fun σ H => (.assign (v := (.mp (b6 + 0))) rfl rfl (.nila H fun H => ?_)))))
  refine .then (.then (.Z0 4 rfl H fun b7 σ H => (.Z2 (off := 0) (fo := 3) H 3 rfl rfl rfl rfl rfl nofun rfl (.ZC (off := 3) (v := (vl Granule.cs f.Odd)) H 3 rfl rfl rfl rfl rfl nofun rfl (.Z0K (c := Granule.cs) (xs := f.Odd) rfl rfl rfl ?_)))))
  refine .move (v := (vi 0)) rfl rfl (.nila H fun H => (.inBlock ?_))
  obtain ⟨y1, hj1, h⟩ := bind_some h
  obtain ⟨n1, hj1⟩ := Zb.1 hj1
  refine .mono (Runs.ZO hj1 (fun s1 e σ => Z4 e [(5, (.ptr (b1 + 1) 4 0)), (8, (.ptr (b2 + 7) 4 0)), (9, (vi x1.1)), (11, (.mp (b6 + 0))), (35, (vl Granule.cs f.Odd)), (36, (vi (f.Odd.length : Int))), (37, (vi s1.1))] ∧ Hs σ [.mp (b6 + 0) s1.2, .blk (b2 + 7) 25 [(vi f.Period), (vi f.Count), (vl (cL Span.cs) f.Core), .nils], .blk (b1 + 1) 135 [(vi 1), (.v (.fn 72)), (.v (.fn 125)), (.v (.fn 126))]]) (fun y1 x e σ => x = .exit 0 ∧ Z4 e [(5, (.ptr (b1 + 1) 4 0)), (8, (.ptr (b2 + 7) 4 0)), (9, (vi x1.1)), (11, (.mp (b6 + 0)))] ∧ Hs σ [.mp (b6 + 0) y1, .blk (b2 + 7) 25 [(vi f.Period), (vi f.Count), (vl (cL Span.cs) f.Core), .nils], .blk (b1 + 1) 135 [(vi 1), (.v (.fn 72)), (.v (.fn 125)), (.v (.fn 126))]]) ⟨⟨rfl, rfl, rfl, rfl, rfl, rfl, rfl, trivial⟩, (H.erase 3)⟩ ?_) ?_
  ·intro s1 e σ hI z h
   obtain ⟨he, H⟩ := hI
   obtain ⟨e, rfl⟩ := he.ex
   unfold ZB.s0 at h
   refine .then (.Z0 1 rfl H fun b8 σ H => (.int (m := s1.1) (m' := (f.Odd.length : Int)) (r := .bool (decide (s1.1 < (f.Odd.length : Int)))) rfl rfl rfl rfl rfl (.nila H fun H => (.then ?_))))
   refine .whether (v := (decide (s1.1 < (f.Odd.length : Int)))) rfl ?_ ?_ <;> intro hc2
   ·replace h := Z7 hc2 h
    refine .skip (.then (.inBlock (.then (.Z0 4 rfl H fun b9 σ H => ?_))))
    obtain ⟨x2, q2, h⟩ := bind_some h
    refine .Zy (c := Granule.cs) (u := x2) rfl rfl q2 rfl rfl rfl rfl (.Z26 (cs := [(.int .i64 x2.Index), (.sl (x2.Ticks.map Span.cs))]) rfl rfl rfl rfl rfl rfl (.Zk (cs := [(vi 0), .nils]) H (by omega) (by omega) rfl rfl fun σ H => (.ZV (off := 0) (cells' := [(vi x2.Index), (vl Span.cs x2.Ticks)]) H 0 rfl rfl rfl rfl rfl rfl rfl rfl rfl nofun fun σ H => (.nila H fun H => (.Z0 6 rfl H fun b10 σ H => ?_)))))
    refine .move (v := (.mp (b6 + 0))) rfl rfl (.Z2 (off := 0) (fo := 0) H 0 rfl rfl rfl rfl rfl nofun rfl (.ZC (off := 0) (v := (vi x2.Index)) H 0 rfl rfl rfl rfl rfl nofun rfl (.lookupH (a := x2.Index) H 1 rfl rfl rfl rfl rfl (.int (m := (mget s1.2 x2.Index)) (m' := 1) (r := .int .i64 (w64 ((mget s1.2 x2.Index) + 1))) rfl rfl rfl rfl rfl (.mapUpdateH (a := x2.Index) (b := (w64 ((mget s1.2 x2.Index) + 1))) H 1 rfl rfl rfl rfl rfl fun σ H => ?_)))))
    refine .nila H fun H => (.Z0 2 rfl H fun b11 σ H => (.int (m := s1.1) (m' := 1) (r := .int .i64 (w64 (s1.1 + 1))) rfl rfl rfl rfl rfl (.move (v := (vi (w64 (s1.1 + 1)))) rfl rfl (.nila H fun H => ?_))))
    replace h := sj h; subst h
    exact ⟨rfl, ⟨rfl, rfl, rfl, rfl, rfl, rfl, rfl, trivial⟩, (H.erase 0)⟩
   ·replace h := Z8 hc2 h
    refine .exit ?_
    replace h := sj h; subst h
    exact ⟨nofun, ⟨rfl, ⟨rfl, rfl, rfl, rfl, trivial⟩, H⟩⟩
  ·rintro x e σ ⟨rfl, he, H⟩
   obtain ⟨e, rfl⟩ := he.ex
   refine .then (.Z0 1 rfl H fun b12 σ H => (.assign (v := (vi 0)) rfl rfl (.nila H fun H => (.then (.then ?_)))))
   refine .Z0 13 rfl H fun b13 σ H => (.Z2 (off := 0) (fo := 1) H 2 rfl rfl rfl rfl rfl nofun rfl (.ZC (off := 1) (v := (.v (.fn 72))) H 2 rfl rfl rfl rfl rfl nofun rfl (.ZI (off := 0) (cs := [(vi f.Period), (vi f.Count), (vl (cL Span.cs) f.Core), .nils]) H 1 rfl rfl rfl rfl rfl rfl rfl nofun rfl (.move (v := (vi x1.1)) rfl rfl (.Z2 (off := 0) (fo := 0) H 2 rfl rfl rfl rfl rfl nofun rfl ?_)))))
   refine .ZC (off := 0) (v := (vi 1)) H 2 rfl rfl rfl rfl rfl nofun rfl (.int (m := x1.1) (m' := 1) (r := .int .i64 (w64 (x1.1 - 1))) rfl rfl rfl rfl rfl ?_)
   obtain ⟨x3, q3, h⟩ := bind_some h
   refine .callFX (xs := [(.agg [(vi f.Period), (vi f.Count), (vl (cL Span.cs) f.Core), .nils]), (vi (w64 (x1.1 - 1)))]) (ys := [(.agg (vs (Form.cs (Form.mk f.Period f.Count f.Core [])))), (vi (w64 (x1.1 - 1)))]) H rfl rfl (.cons (.a (.cons (.v _) (.cons (.v _) (.cons (.v _) (.cons (.n) .nil))))) (.cons (.c (.v _)) .nil)) (Z4b q3) rfl rfl nofun rfl fun σ H => (.move (v := (.tup [(vi x3.1), (vb x3.2)])) rfl rfl (.extract (v := (vi x3.1)) rfl rfl rfl (.extract (v := (vb x3.2)) rfl rfl rfl (.assign (v := (vi x3.1)) rfl rfl (.assign (v := (vb x3.2)) rfl rfl ?_)))))
   refine .nila H fun H => (.inBlock ?_)
   obtain ⟨y2, hj2, h⟩ := bind_some h
   obtain ⟨n2, hj2⟩ := Zb.1 hj2
   refine .mono (Runs.ZO hj2 (fun s2 e σ => Z4 e [(5, (.ptr (b1 + 1) 4 0)), (8, (.ptr (b2 + 7) 4 0)), (9, (vi s2.1)), (10, (vb s2.2.1)), (11, (.mp (b6 + 0))), (14, (vi s2.2.2))] ∧ Hs σ [.mp (b6 + 0) y1, .blk (b2 + 7) 25 [(vi f.Period), (vi f.Count), (vl (cL Span.cs) f.Core), .nils], .blk (b1 + 1) 135 [(vi 1), (.v (.fn 72)), (.v (.fn 125)), (.v (.fn 126))]]) (fun y2 x e σ => (∃ a1, y2 = (.go a1) ∧ x = .exit 2 ∧ Z4 e [] ∧ Hs σ []) ∨ (∃ r', y2 = (.ret r') ∧ x = .ret ∧ Ends CX Try.f124.results.toList (.tup [(vi r'.1), (vb r'.2)]) x e σ)) ⟨⟨rfl, rfl, rfl, rfl, rfl, rfl, trivial⟩, H⟩ ?_) ?_
   ·intro s2 e σ hI z h
    obtain ⟨he, H⟩ := hI
    obtain ⟨e, rfl⟩ := he.ex
    unfold ZB.s1 at h
    refine .then (.then (.Z0 5 rfl H fun b14 σ H => (.move (v := (vb s2.2.1)) rfl rfl (.move (v := (vb s2.2.1)) rfl rfl ?_))))
    refine .mid 3 (K1 := fun e σ => Z4 e [(62, (vb (s2.2.1 && (decide (s2.2.2 < 2))))), (5, (.ptr (b1 + 1) 4 0)), (8, (.ptr (b2 + 7) 4 0)), (9, (vi s2.1)), (11, (.mp (b6 + 0))), (14, (vi s2.2.2))] ∧ Has σ (b14 + 5) (b14 + 5) [.mp (b6 + 0) y1, .blk (b2 + 7) 25 [(vi f.Period), (vi f.Count), (vl (cL Span.cs) f.Core), .nils], .blk (b1 + 1) 135 [(vi 1), (.v (.fn 72)), (.v (.fn 125)), (.v (.fn 126))]]) rfl ?_ ?_
    ·refine .split rfl rfl ?_ ?_ <;> intro hc3
     ·skip
      refine .wanted rfl rfl (.move (v := (vi s2.2.2)) rfl rfl (.wanted rfl rfl (.int (m := s2.2.2) (m' := 2) (r := .bool (decide (s2.2.2 < 2))) rfl rfl rfl rfl rfl (.Zf (v := (vb (decide (s2.2.2 < 2)))) rfl rfl rfl (.nil ?_)))))
      exact ⟨⟨Z15 hc3, rfl, rfl, rfl, rfl, rfl, trivial⟩, H.weak (by omega) (Nat.le_refl _)⟩
     ·skip
      refine .pass rfl rfl rfl (.pass rfl rfl rfl (.Zh (v := (vb false)) rfl rfl rfl (.nil ?_)))
      exact ⟨⟨Z19 hc3, rfl, rfl, rfl, rfl, rfl, trivial⟩, H.weak (by omega) (Nat.le_refl _)⟩
    ·rintro e σ ⟨he, H⟩
     obtain ⟨e, rfl⟩ := he.ex
     refine .nila H fun H => ?_
     refine .whether (v := (s2.2.1 && (decide (s2.2.2 < 2)))) rfl ?_ ?_ <;> intro hc4
     ·replace h := Z7 hc4 h
      refine .skip (.then ?_)
      obtain ⟨y3, hj3, h⟩ := bind_some h
      refine .mono (Q := fun x e σ => (∃ a2, y3 = (.go a2) ∧ x = .normal ∧ Z4 e [(5, (.ptr (b1 + 1) 4 0)), (8, (.ptr (b2 + 7) 4 0)), (9, (vi s2.1)), (11, (.mp (b6 + 0))), (14, (vi a2))] ∧ Hs σ [.mp (b6 + 0) y1, .blk (b2 + 7) 25 [(vi f.Period), (vi f.Count), (vl (cL Span.cs) f.Core), .nils], .blk (b1 + 1) 135 [(vi 1), (.v (.fn 72)), (.v (.fn 125)), (.v (.fn 126))]]) ∨ (∃ r', y3 = (.ret r') ∧ x = .ret ∧ Ends CX Try.f124.results.toList (.tup [(vi r'.1), (vb r'.2)]) x e σ)) ?_ ?_
      ·replace h := hj3
       refine .inBlock ?_
       obtain ⟨y4, hj4, h⟩ := bind_some h
       refine .mono (Q := fun x e σ => (∃ a3, y4 = (.go a3) ∧ x = .normal ∧ Z4 e [(5, (.ptr (b1 + 1) 4 0)), (8, (.ptr (b2 + 7) 4 0)), (9, (vi s2.1)), (11, (.mp (b6 + 0))), (14, (vi a3))] ∧ Hs σ [.mp (b6 + 0) y1, .blk (b2 + 7) 25 [(vi f.Period), (vi f.Count), (vl (cL Span.cs) f.Core), .nils], .blk (b1 + 1) 135 [(vi 1), (.v (.fn 72)), (.v (.fn 125)), (.v (.fn 126))]]) ∨ (∃ r', y4 = (.ret r') ∧ x = .ret ∧ Ends CX Try.f124.results.toList (.tup [(vi r'.1), (vb r'.2)]) x e σ)) ?_ ?_
       ·replace h := hj4
        refine .then (.Z0 8 rfl H fun b15 σ H => (.ZI (off := 0) (cs := [(vi f.Period), (vi f.Count), (vl (cL Span.cs) f.Core), .nils]) H 1 rfl rfl rfl rfl rfl rfl rfl nofun rfl (.move (v := (vi s2.1)) rfl rfl ?_)))
        obtain ⟨x4, q4, h⟩ := bind_some h
        refine .Z5F (xs := [(.agg [(vi f.Period), (vi f.Count), (vl (cL Span.cs) f.Core), .nils]), (vi s2.1)]) (ys := [(.agg (vs (Form.cs (Form.mk f.Period f.Count f.Core [])))), (vi s2.1)]) H rfl (.cons (.a (.cons (.v _) (.cons (.v _) (.cons (.v _) (.cons (.n) .nil))))) (.cons (.c (.v _)) .nil)) (Z3D q4) rfl rfl nofun rfl fun σ H => (.move (v := (.tup [(vl Span.cs x4.1), (vi x4.2)])) rfl rfl (.extract (v := (vl Span.cs x4.1)) rfl rfl rfl (.extract (v := (vi x4.2)) rfl rfl rfl (.assign (v := (vl Span.cs x4.1)) rfl rfl (.assign (v := (vi x4.2)) rfl rfl ?_)))))
        refine .nila H fun H => (.then (.Z0 2 rfl H fun b16 σ H => (.move (v := (vi x4.2)) rfl rfl (.int (m := x4.2) (m' := 0) (r := .bool (x4.2 != 0)) rfl rfl rfl rfl rfl (.nila H fun H => ?_)))))
        refine .whether (v := (x4.2 != 0)) rfl ?_ ?_ <;> intro hc5
        ·replace h := Z7 hc5 h
         refine .Z0 3 rfl H fun b17 σ H => (.move (v := (vi s2.2.2)) rfl rfl (.int (m := s2.2.2) (m' := 1) (r := .int .i64 (w64 (s2.2.2 + 1))) rfl rfl rfl rfl rfl (.assign (v := (vi (w64 (s2.2.2 + 1)))) rfl rfl (.nila H fun H => ?_))))
         replace h := sj h; subst h
         exact (.inl ⟨_, rfl, rfl, ⟨rfl, rfl, rfl, rfl, rfl, trivial⟩, H⟩)
        ·replace h := Z8 hc5 h
         refine .then (.Z0 4 rfl H fun b18 σ H => (.move (v := (.mp (b6 + 0))) rfl rfl (.move (v := (vi s2.1)) rfl rfl (.lookupH (a := s2.1) H 0 rfl rfl rfl rfl rfl (.int (m := (mget y1 s2.1)) (m' := 0) (r := .bool ((mget y1 s2.1) == 0)) rfl rfl rfl rfl rfl ?_)))))
         refine .nila H fun H => ?_
         refine .whether (v := ((mget y1 s2.1) == 0)) rfl ?_ ?_ <;> intro hc6
         ·replace h := Z7 hc6 h
          refine .then (.Z0 3 rfl H fun b19 σ H => (.move (v := (vi s2.1)) rfl rfl (.assign (v := (vi s2.1)) rfl rfl (.assign (v := (vb true)) rfl rfl (.nila H fun H => ?_)))))
          refine .ret ?_
          replace h := sj h; subst h
          exact (.inr ⟨_, rfl, rfl, (Ends.H (xs := [(vi s2.1), (vb true)]) (.inr rfl) H (.tmp (v := (vi s2.1)) rfl (.tmp (v := (vb true)) rfl .nil)) (.two (.cons (.c (.v _)) (.cons (.c (.v _)) .nil))))⟩)
         ·replace h := Z8 hc6 h
          refine .skip ?_
          replace h := sj h; subst h
          exact (.inl ⟨_, rfl, rfl, ⟨rfl, rfl, rfl, rfl, rfl, trivial⟩, H⟩)
       ·rintro x e σ (⟨a4, rfl, rfl, he, H⟩ | ⟨r', rfl, rfl, hE⟩)
        ·skip
         replace h := jgo h
         obtain ⟨e, rfl⟩ := he.ex
         replace h := sj h; subst h
         exact (.inl ⟨_, rfl, rfl, ⟨rfl, rfl, rfl, rfl, rfl, trivial⟩, H⟩)
        ·skip
         replace h := jret h
         replace h := sj h; subst h
         exact (.inr ⟨_, rfl, rfl, hE⟩)
      ·rintro x e σ (⟨a5, rfl, rfl, he, H⟩ | ⟨r', rfl, rfl, hE⟩)
       ·skip
        replace h := jgo h
        obtain ⟨e, rfl⟩ := he.ex
        refine .Z0 10 rfl H fun b20 σ H => (.Z2 (off := 0) (fo := 1) H 2 rfl rfl rfl rfl rfl nofun rfl (.ZC (off := 1) (v := (.v (.fn 72))) H 2 rfl rfl rfl rfl rfl nofun rfl (.ZI (off := 0) (cs := [(vi f.Period), (vi f.Count), (vl (cL Span.cs) f.Core), .nils]) H 1 rfl rfl rfl rfl rfl rfl rfl nofun rfl (.move (v := (vi s2.1)) rfl rfl ?_))))
        obtain ⟨x5, q5, h⟩ := bind_some h
        refine .callFX (xs := [(.agg [(vi f.Period), (vi f.Count), (vl (cL Span.cs) f.Core), .nils]), (vi s2.1)]) (ys := [(.agg (vs (Form.cs (Form.mk f.Period f.Count f.Core [])))), (vi s2.1)]) H rfl rfl (.cons (.a (.cons (.v _) (.cons (.v _) (.cons (.v _) (.cons (.n) .nil))))) (.cons (.c (.v _)) .nil)) (Z4b q5) rfl rfl nofun rfl fun σ H => (.move (v := (.tup [(vi x5.1), (vb x5.2)])) rfl rfl (.extract (v := (vi x5.1)) rfl rfl rfl (.extract (v := (vb x5.2)) rfl rfl rfl (.assign (v := (vi x5.1)) rfl rfl (.assign (v := (vb x5.2)) rfl rfl ?_)))))
        refine .nila H fun H => ?_
        replace h := sj h; subst h
        exact ⟨rfl, ⟨rfl, rfl, rfl, rfl, rfl, rfl, trivial⟩, H⟩
       ·skip
        replace h := jret h
        replace h := sj h; subst h
        exact ⟨nofun, (.inr ⟨_, rfl, rfl, hE⟩)⟩
     ·replace h := Z8 hc4 h
      refine .exit ?_
      replace h := sj h; subst h
      exact ⟨nofun, (.inl ⟨_, rfl, rfl, trivial, (((H.erase 2).erase 1).erase 0)⟩)⟩
   ·rintro x e σ (⟨a6, rfl, rfl, he, H⟩ | ⟨r', rfl, rfl, hE⟩)
    ·skip
     replace h := jgo h
     obtain ⟨e, rfl⟩ := he.ex
     refine .then (.Z0 2 rfl H fun b21 σ H => (.assign (v := (vi 0)) rfl rfl (.assign (v := (vb false)) rfl rfl (.nila H fun H => (.ret ?_)))))
     replace h := sj h; subst h
     exact (Ends.H (xs := [(vi 0), (vb false)]) (.inr rfl) H (.tmp (v := (vi 0)) rfl (.tmp (v := (vb false)) rfl .nil)) (.two (.cons (.c (.v _)) (.cons (.c (.v _)) .nil))))
    ·skip
     replace h := jret h
     replace h := sj h; subst h
     exact hE

theorem find_up_2_fn {h' : Span} {t : Int} {r : Bool} (h : Z2H h' t = r) : Fn CX 126 [(.agg (vs (Span.cs h'))), (vi t)] (vb r) := by
 refine Fn.ends Try.func126 rfl rfl rfl rfl rfl rfl ?_
 have H : Hs (⟨0, fun _ => .none⟩ : Heap) [] := Has.nil (Nat.le_refl _)
 generalize (⟨0, fun _ => .none⟩ : Heap) = σ at H ⊢
 unfold Z2H at h
 refine .then (.Z0 2 rfl H fun b1 σ H => (.boxH (cs := [(vi h'.From), (vi h'.To)]) H (by omega) (by omega) rfl rfl rfl fun σ H => (.assign (v := (vb false)) rfl rfl (.nila H fun H => (.then ?_)))))
 refine .Z0 5 rfl H fun b2 σ H => (.Z2 (off := 0) (fo := 1) H 0 rfl rfl rfl rfl rfl nofun rfl (.ZC (off := 1) (v := (vi h'.To)) H 0 rfl rfl rfl rfl rfl nofun rfl (.move (v := (vi t)) rfl rfl (.int (m := h'.To) (m' := t) (r := .bool (decide (h'.To ≥ t))) rfl rfl rfl rfl rfl (.assign (v := (vb (decide (h'.To ≥ t)))) rfl rfl ?_)))))
 refine .nila H fun H => (.ret ?_)
 subst h
 exact (Ends.H (xs := [(vb (decide (h'.To ≥ t)))]) (.inr rfl) H (.tmp (v := (vb (decide (h'.To ≥ t)))) rfl .nil) (.one (.c (.v _))))

theorem Z2A {f : Form} {t : Int} {r : Int × Bool} (h : ZQ f t = some r) : Fn CX 98 [(.agg (vs (Form.cs f))), (vi t), (.agg [(vi 1), (.v (.fn 72)), (.v (.fn 125)), (.v (.fn 126))])] (.tup [(vi r.1), (vb r.2)]) := by
 refine Fn.ends Try.func98 rfl rfl rfl rfl rfl rfl ?_
 have H : Hs (⟨0, fun _ => .none⟩ : Heap) [] := Has.nil (Nat.le_refl _)
 generalize (⟨0, fun _ => .none⟩ : Heap) = σ at H ⊢
 unfold ZQ at h
 refine .then (.Z0 4 rfl H fun b1 σ H => (.boxH (cs := (vF f)) H (by omega) (by omega) rfl rfl rfl fun σ H => (.boxH (cs := [(vi 1), (.v (.fn 72)), (.v (.fn 125)), (.v (.fn 126))]) H (by omega) (by omega) rfl rfl rfl fun σ H => (.assign (v := (vi 0)) rfl rfl (.assign (v := (vb false)) rfl rfl ?_)))))
 refine .nila H fun H => (.then (.Z0 4 rfl H fun b2 σ H => (.move (v := (vi t)) rfl rfl (.min2 rfl rfl rfl (.max2 rfl rfl rfl ?_)))))
 refine .assign (v := (vi (iMax (iMin t 1099511627777) (-1099511627777)))) rfl rfl (.nila H fun H => (.then (.Z0 9 rfl H fun b3 σ H => (.ZI (off := 0) (cs := (vF f)) H 1 rfl rfl rfl rfl rfl rfl rfl nofun rfl (.move (v := (vi (iMax (iMin t 1099511627777) (-1099511627777)))) rfl rfl ?_)))))
 refine .ZI (off := 0) (cs := [(vi 1), (.v (.fn 72)), (.v (.fn 125)), (.v (.fn 126))]) H 0 rfl rfl rfl rfl rfl rfl rfl nofun rfl ?_
 obtain ⟨x1, q1, h⟩ := bind_some h
 refine .call (ys := [(.agg (vF f)), (vi (iMax (iMin t 1099511627777) (-1099511627777))), (.agg [(vi 1), (.v (.fn 72)), (.v (.fn 125)), (.v (.fn 126))])]) (r := (.tup [(vi x1.1), (vb x1.2)])) rfl (Z2O q1) rfl (.move (v := (.tup [(vi x1.1), (vb x1.2)])) rfl rfl (.extract (v := (vi x1.1)) rfl rfl rfl (.extract (v := (vb x1.2)) rfl rfl rfl (.assign (v := (vi x1.1)) rfl rfl (.assign (v := (vb x1.2)) rfl rfl ?_)))))
 refine .nila H fun H => (.then (.then (.Z0 4 rfl H fun b4 σ H => (.Z2 (off := 0) (fo := 3) H 1 rfl rfl rfl rfl rfl nofun rfl (.ZC (off := 3) (v := (vl Granule.cs f.Odd)) H 1 rfl rfl rfl rfl rfl nofun rfl ?_)))))
 refine .Z0K (c := Granule.cs) (xs := f.Odd) rfl rfl rfl (.move (v := (vi 0)) rfl rfl (.nila H fun H => (.inBlock ?_)))
 obtain ⟨y1, hj1, h⟩ := bind_some h
 obtain ⟨n1, hj1⟩ := Zb.1 hj1
 refine .mono (Runs.ZO hj1 (fun s1 e σ => Z4 e [(1, (vi (iMax (iMin t 1099511627777) (-1099511627777)))), (5, (.ptr (b1 + 1) 4 0)), (8, (vi s1.1)), (9, (vb s1.2.1)), (25, (vl Granule.cs f.Odd)), (26, (vi (f.Odd.length : Int))), (27, (vi s1.2.2))] ∧ Hs σ [.blk (b1 + 1) 135 [(vi 1), (.v (.fn 72)), (.v (.fn 125)), (.v (.fn 126))]]) (fun y1 x e σ => x = .exit 0 ∧ Z4 e [(8, (vi y1.1)), (9, (vb y1.2))] ∧ Hs σ []) ⟨⟨rfl, rfl, rfl, rfl, rfl, rfl, rfl, trivial⟩, (H.erase 1)⟩ ?_) ?_
 ·intro s1 e σ hI z h
  obtain ⟨he, H⟩ := hI
  obtain ⟨e, rfl⟩ := he.ex
  unfold ZQ.s0 at h
  refine .then (.Z0 1 rfl H fun b5 σ H => (.int (m := s1.2.2) (m' := (f.Odd.length : Int)) (r := .bool (decide (s1.2.2 < (f.Odd.length : Int)))) rfl rfl rfl rfl rfl (.nila H fun H => (.then ?_))))
  refine .whether (v := (decide (s1.2.2 < (f.Odd.length : Int)))) rfl ?_ ?_ <;> intro hc1
  ·replace h := Z7 hc1 h
   refine .skip (.then ?_)
   obtain ⟨y2, hj2, h⟩ := bind_some h
   refine .mono (Q := fun x e σ => x = .normal ∧ Z4 e [(1, (vi (iMax (iMin t 1099511627777) (-1099511627777)))), (5, (.ptr (b1 + 1) 4 0)), (8, (vi y2.1)), (9, (vb y2.2)), (25, (vl Granule.cs f.Odd)), (26, (vi (f.Odd.length : Int))), (27, (vi s1.2.2))] ∧ Hs σ [.blk (b1 + 1) 135 [(vi 1), (.v (.fn 72)), (.v (.fn 125)), (.v (.fn 126))]]) ?_ ?_
   ·replace h := hj2
    refine .inBlock ?_
    obtain ⟨y3, hj3, h⟩ := bind_some h
    refine .mono (Q := fun x e σ => x = .normal ∧ Z4 e [(1, (vi (iMax (iMin t 1099511627777) (-1099511627777)))), (5, (.ptr (b1 + 1) 4 0)), (8, (vi y3.1)), (9, (vb y3.2)), (25, (vl Granule.cs f.Odd)), (26, (vi (f.Odd.length : Int))), (27, (vi s1.2.2))] ∧ Hs σ [.blk (b1 + 1) 135 [(vi 1), (.v (.fn 72)), (.v (.fn 125)), (.v (.fn 126))]]) ?_ ?_
    ·replace h := hj3
     refine .then (.Z0 4 rfl H fun b6 σ H => ?_)
     obtain ⟨x2, q2, h⟩ := bind_some h
     refine .Zy (c := Granule.cs) (u := x2) rfl rfl q2 rfl rfl rfl rfl (.Z26 (cs := [(.int .i64 x2.Index), (.sl (x2.Ticks.map Span.cs))]) rfl rfl rfl rfl rfl rfl (.Zk (cs := [(vi 0), .nils]) H (by omega) (by omega) rfl rfl fun σ H => (.ZV (off := 0) (cells' := [(vi x2.Index), (vl Span.cs x2.Ticks)]) H 0 rfl rfl rfl rfl rfl rfl rfl rfl rfl nofun fun σ H => (.nila H fun H => (.then ?_)))))
     refine .Z0 9 rfl H fun b7 σ H => (.Z2 (off := 0) (fo := 1) H 0 rfl rfl rfl rfl rfl nofun rfl (.ZC (off := 1) (v := (vl Span.cs x2.Ticks)) H 0 rfl rfl rfl rfl rfl nofun rfl ?_))
     obtain ⟨x3, q3, h⟩ := bind_some h
     refine .call (ys := [(vl Span.cs x2.Ticks)]) (r := (.tup [(.agg [(vi x3.1.From), (vi x3.1.To)]), (vb x3.2)])) rfl (Z2z q3) rfl (.move (v := (.tup [(.agg [(vi x3.1.From), (vi x3.1.To)]), (vb x3.2)])) rfl rfl (.extract (v := (.agg [(vi x3.1.From), (vi x3.1.To)])) rfl rfl rfl (.extract (v := (vb x3.2)) rfl rfl rfl (.Zk (cs := [(vi 0), (vi 0)]) H (by omega) (by omega) rfl rfl fun σ H => (.ZV (off := 0) (cells' := [(vi x3.1.From), (vi x3.1.To)]) H 0 rfl rfl rfl rfl rfl rfl rfl rfl rfl nofun fun σ H => ?_)))))
     refine .assign (v := (vb x3.2)) rfl rfl (.nila H fun H => (.then (.Z0 22 rfl H fun b8 σ H => (.move (v := (vb x3.2)) rfl rfl (.move (v := (vb x3.2)) rfl rfl ?_)))))
     refine .mid 6 (K1 := fun e σ => Z4 e [(44, (vb (x3.2 && (Z2H x3.1 (iMax (iMin t 1099511627777) (-1099511627777)))))), (1, (vi (iMax (iMin t 1099511627777) (-1099511627777)))), (5, (.ptr (b1 + 1) 4 0)), (8, (vi s1.1)), (9, (vb s1.2.1)), (11, (.ptr (b6 + 2) 2 0)), (25, (vl Granule.cs f.Odd)), (26, (vi (f.Odd.length : Int))), (27, (vi s1.2.2))] ∧ Has σ (b8 + 8) (b8 + 22) [.blk (b6 + 2) 76 [(vi x2.Index), (vl Span.cs x2.Ticks)], .blk (b1 + 1) 135 [(vi 1), (.v (.fn 72)), (.v (.fn 125)), (.v (.fn 126))]]) rfl ?_ ?_
     ·refine .split rfl rfl ?_ ?_ <;> intro hc2
      ·skip
       refine .wanted rfl rfl (.Z2 (off := 0) (fo := 3) H 2 rfl rfl rfl rfl rfl nofun rfl (.wanted rfl rfl (.ZC (off := 3) (v := (.v (.fn 126))) H 2 rfl rfl rfl rfl rfl nofun rfl (.wanted rfl rfl (.ZI (off := 0) (cs := [(vi x3.1.From), (vi x3.1.To)]) H 0 rfl rfl rfl rfl rfl rfl rfl nofun rfl ?_)))))
       refine .wanted rfl rfl (.move (v := (vi (iMax (iMin t 1099511627777) (-1099511627777)))) rfl rfl (.wanted rfl rfl (.callF (ys := [(.agg [(vi x3.1.From), (vi x3.1.To)]), (vi (iMax (iMin t 1099511627777) (-1099511627777)))]) (r := (vb (Z2H x3.1 (iMax (iMin t 1099511627777) (-1099511627777))))) rfl rfl (find_up_2_fn (rfl : Z2H x3.1 (iMax (iMin t 1099511627777) (-1099511627777)) = _)) rfl (.Zf (v := (vb (Z2H x3.1 (iMax (iMin t 1099511627777) (-1099511627777))))) rfl rfl rfl (.nil ?_)))))
       exact ⟨⟨Z15 hc2, rfl, rfl, rfl, rfl, rfl, rfl, rfl, rfl, trivial⟩, (H.erase 0).weak (by omega) (Nat.le_refl _)⟩
      ·skip
       refine .pass rfl rfl rfl (.pass rfl rfl rfl (.pass rfl rfl rfl (.pass rfl rfl rfl (.pass rfl rfl rfl (.Zh (v := (vb false)) rfl rfl rfl ?_)))))
       refine .nil ?_
       exact ⟨⟨Z19 hc2, rfl, rfl, rfl, rfl, rfl, rfl, rfl, rfl, trivial⟩, (H.erase 0).weak (by omega) (Nat.le_refl _)⟩
     ·rintro e σ ⟨he, H⟩
      obtain ⟨e, rfl⟩ := he.ex
      refine .move (v := (vb (x3.2 && (Z2H x3.1 (iMax (iMin t 1099511627777) (-1099511627777)))))) rfl rfl ?_
      refine .mid 13 (K1 := fun e σ => Z4 e [(58, (vb ((x3.2 && (Z2H x3.1 (iMax (iMin t 1099511627777) (-1099511627777)))) && ((!s1.2.1) || (decide ((w64 ((w64 (x2.Index - s1.1)) * 1)) < 0)))))), (1, (vi (iMax (iMin t 1099511627777) (-1099511627777)))), (5, (.ptr (b1 + 1) 4 0)), (8, (vi s1.1)), (9, (vb s1.2.1)), (11, (.ptr (b6 + 2) 2 0)), (25, (vl Granule.cs f.Odd)), (26, (vi (f.Odd.length : Int))), (27, (vi s1.2.2))] ∧ Has σ (b8 + 22) (b8 + 22) [.blk (b6 + 2) 76 [(vi x2.Index), (vl Span.cs x2.Ticks)], .blk (b1 + 1) 135 [(vi 1), (.v (.fn 72)), (.v (.fn 125)), (.v (.fn 126))]]) rfl ?_ ?_
      ·refine .split rfl rfl ?_ ?_ <;> intro hc3
       ·skip
        refine .wanted rfl rfl (.move (v := (vb s1.2.1)) rfl rfl (.wanted rfl rfl (.not (b := s1.2.1) rfl rfl (.wanted rfl rfl (.move (v := (vb (!s1.2.1))) rfl rfl ?_)))))
        refine .mid 9 (K1 := fun e σ => Z4 e [(57, (vb ((!s1.2.1) || (decide ((w64 ((w64 (x2.Index - s1.1)) * 1)) < 0))))), (1, (vi (iMax (iMin t 1099511627777) (-1099511627777)))), (5, (.ptr (b1 + 1) 4 0)), (8, (vi s1.1)), (9, (vb s1.2.1)), (11, (.ptr (b6 + 2) 2 0)), (25, (vl Granule.cs f.Odd)), (26, (vi (f.Odd.length : Int))), (27, (vi s1.2.2)), (45, (vb true))] ∧ Has σ (b8 + 21) (b8 + 22) [.blk (b6 + 2) 76 [(vi x2.Index), (vl Span.cs x2.Ticks)], .blk (b1 + 1) 135 [(vi 1), (.v (.fn 72)), (.v (.fn 125)), (.v (.fn 126))]]) rfl ?_ ?_
        ·refine .split rfl rfl ?_ ?_ <;> intro hc4
         ·skip
          refine .pass rfl rfl rfl (.pass rfl rfl rfl (.pass rfl rfl rfl (.pass rfl rfl rfl (.pass rfl rfl rfl (.pass rfl rfl rfl ?_)))))
          refine .pass rfl rfl rfl (.pass rfl rfl rfl (.wanted rfl rfl (.Zf (v := (vb true)) rfl rfl rfl (.nil ?_))))
          exact ⟨⟨or_T hc4, rfl, rfl, rfl, rfl, rfl, rfl, rfl, rfl, rfl, trivial⟩, H.weak (by omega) (Nat.le_refl _)⟩
         ·skip
          refine .wanted rfl rfl (.Z2 (off := 0) (fo := 0) H 0 rfl rfl rfl rfl rfl nofun rfl (.wanted rfl rfl (.ZC (off := 0) (v := (vi x2.Index)) H 0 rfl rfl rfl rfl rfl nofun rfl (.wanted rfl rfl (.move (v := (vi s1.1)) rfl rfl ?_)))))
          refine .wanted rfl rfl (.int (m := x2.Index) (m' := s1.1) (r := .int .i64 (w64 (x2.Index - s1.1))) rfl rfl rfl rfl rfl (.wanted rfl rfl (.Z2 (off := 0) (fo := 0) H 1 rfl rfl rfl rfl rfl nofun rfl (.wanted rfl rfl (.ZC (off := 0) (v := (vi 1)) H 1 rfl rfl rfl rfl rfl nofun rfl ?_)))))
          refine .wanted rfl rfl (.int (m := (w64 (x2.Index - s1.1))) (m' := 1) (r := .int .i64 (w64 ((w64 (x2.Index - s1.1)) * 1))) rfl rfl rfl rfl rfl (.wanted rfl rfl (.int (m := (w64 ((w64 (x2.Index - s1.1)) * 1))) (m' := 0) (r := .bool (decide ((w64 ((w64 (x2.Index - s1.1)) * 1)) < 0))) rfl rfl rfl rfl rfl (.wanted rfl rfl (.Zh (v := (vb (decide ((w64 ((w64 (x2.Index - s1.1)) * 1)) < 0)))) rfl rfl rfl ?_)))))
          refine .nil ?_
          exact ⟨⟨or_F hc4, rfl, rfl, rfl, rfl, rfl, rfl, rfl, rfl, rfl, trivial⟩, H.weak (by omega) (Nat.le_refl _)⟩
        ·rintro e σ ⟨he, H⟩
         obtain ⟨e, rfl⟩ := he.ex
         refine .Zf (v := (vb ((!s1.2.1) || (decide ((w64 ((w64 (x2.Index - s1.1)) * 1)) < 0))))) rfl rfl rfl (.nil ?_)
         exact ⟨⟨Z15 hc3, rfl, rfl, rfl, rfl, rfl, rfl, rfl, rfl, trivial⟩, H.weak (by omega) (Nat.le_refl _)⟩
       ·skip
        refine .pass rfl rfl rfl (.pass rfl rfl rfl (.pass rfl rfl rfl (.Z00 rfl rfl rfl (.Z00 rfl rfl rfl (.Z00 rfl rfl rfl ?_)))))
        refine .Z00 rfl rfl rfl (.Z00 rfl rfl rfl (.Z00 rfl rfl rfl (.Z00 rfl rfl rfl (.Z00 rfl rfl rfl (.pass rfl rfl rfl ?_)))))
        refine .Zh (v := (vb false)) rfl rfl rfl (.nil ?_)
        exact ⟨⟨Z19 hc3, rfl, rfl, rfl, rfl, rfl, rfl, rfl, rfl, trivial⟩, H.weak (by omega) (Nat.le_refl _)⟩
      ·rintro e σ ⟨he, H⟩
       obtain ⟨e, rfl⟩ := he.ex
       refine .nila H fun H => ?_
       refine .whether (v := ((x3.2 && (Z2H x3.1 (iMax (iMin t 1099511627777) (-1099511627777)))) && ((!s1.2.1) || (decide ((w64 ((w64 (x2.Index - s1.1)) * 1)) < 0))))) rfl ?_ ?_ <;> intro hc5
       ·replace h := Z7 hc5 h
        refine .Z0 4 rfl H fun b9 σ H => (.Z2 (off := 0) (fo := 0) H 0 rfl rfl rfl rfl rfl nofun rfl (.ZC (off := 0) (v := (vi x2.Index)) H 0 rfl rfl rfl rfl rfl nofun rfl (.assign (v := (vi x2.Index)) rfl rfl (.assign (v := (vb true)) rfl rfl (.nila H fun H => ?_)))))
        replace h := sj h; subst h
        exact ⟨rfl, ⟨rfl, rfl, rfl, rfl, rfl, rfl, rfl, trivial⟩, (H.erase 0)⟩
       ·replace h := Z8 hc5 h
        refine .skip ?_
        replace h := sj h; subst h
        exact ⟨rfl, ⟨rfl, rfl, rfl, rfl, rfl, rfl, rfl, trivial⟩, (H.erase 0)⟩
    ·rintro x e σ ⟨rfl, he, H⟩
     obtain ⟨e, rfl⟩ := he.ex
     replace h := sj h; subst h
     exact ⟨rfl, ⟨rfl, rfl, rfl, rfl, rfl, rfl, rfl, trivial⟩, H⟩
   ·rintro x e σ ⟨rfl, he, H⟩
    obtain ⟨e, rfl⟩ := he.ex
    refine .Z0 2 rfl H fun b10 σ H => (.int (m := s1.2.2) (m' := 1) (r := .int .i64 (w64 (s1.2.2 + 1))) rfl rfl rfl rfl rfl (.move (v := (vi (w64 (s1.2.2 + 1)))) rfl rfl (.nila H fun H => ?_)))
    replace h := sj h; subst h
    exact ⟨rfl, ⟨rfl, rfl, rfl, rfl, rfl, rfl, rfl, trivial⟩, H⟩
  ·replace h := Z8 hc1 h
   refine .exit ?_
   replace h := sj h; subst h
   exact ⟨nofun, ⟨rfl, ⟨rfl, rfl, trivial⟩, (H.erase 0)⟩⟩
 ·rintro x e σ ⟨rfl, he, H⟩
  obtain ⟨e, rfl⟩ := he.ex
  refine .then (.Z0 4 rfl H fun b11 σ H => (.move (v := (vi y1.1)) rfl rfl (.move (v := (vb y1.2)) rfl rfl (.assign (v := (vi y1.1)) rfl rfl (.assign (v := (vb y1.2)) rfl rfl ?_)))))
  refine .nila H fun H => (.ret ?_)
  replace h := sj h; subst h
  exact (Ends.H (xs := [(vi y1.1), (vb y1.2)]) (.inr rfl) H (.tmp (v := (vi y1.1)) rfl (.tmp (v := (vb y1.2)) rfl .nil)) (.two (.cons (.c (.v _)) (.cons (.c (.v _)) .nil))))

theorem find_From_fn {f : Form} {t : Int} {r : Int × Bool} (h : Z6b f t = some r) : Fn CX 74 [(.agg (vs (Form.cs f))), (vi t)] (.tup [(vi r.1), (vb r.2)]) := by
 refine Fn.ends Try.func74 rfl rfl rfl rfl rfl rfl ?_
 have H : Hs (⟨0, fun _ => .none⟩ : Heap) [] := Has.nil (Nat.le_refl _)
 generalize (⟨0, fun _ => .none⟩ : Heap) = σ at H ⊢
 unfold Z6b at h
 refine .then (.Z0 3 rfl H fun b1 σ H => (.boxH (cs := (vF f)) H (by omega) (by omega) rfl rfl rfl fun σ H => (.assign (v := (vi 0)) rfl rfl (.assign (v := (vb false)) rfl rfl (.nila H fun H => ?_)))))
 refine .then (.Z0w 8 rfl (by kernel_rfl) H fun b2 σ H B2 => (.ZI (off := 0) (cs := (vF f)) H 0 rfl rfl rfl rfl rfl rfl rfl (fun _ => .inl ⟨B2 0 _ rfl _ rfl, nofun, (fun _ => by kernel_rfl)⟩) rfl (.move (v := (vi t)) rfl rfl (.call (ys := []) (r := (.agg [(vi 1), (.v (.fn 72)), (.v (.fn 125)), (.v (.fn 126))])) rfl (find_up_fn rfl) rfl ?_))))
 obtain ⟨x1, q1, h⟩ := bind_some h
 refine .call (ys := [(.agg (vF f)), (vi t), (.agg [(vi 1), (.v (.fn 72)), (.v (.fn 125)), (.v (.fn 126))])]) (r := (.tup [(vi x1.1), (vb x1.2)])) rfl (Z2A q1) rfl (.extract (v := (vi x1.1)) rfl rfl rfl (.extract (v := (vb x1.2)) rfl rfl rfl (.assign (v := (vi x1.1)) rfl rfl (.assign (v := (vb x1.2)) rfl rfl (.nila H fun H => ?_)))))
 refine .ret ?_
 replace h := sj h; subst h
 exact (Ends.H (xs := [(vi x1.1), (vb x1.2)]) (.inr rfl) H (.tmp (v := (vi x1.1)) rfl (.tmp (v := (vb x1.2)) rfl .nil)) (.two (.cons (.c (.v _)) (.cons (.c (.v _)) .nil))))

theorem Z2B {x' : (List Span)} {target : Int} {cmp : Span → Int → Option Int} {C : List Res} {cv0 : PV} (hs0 : cv0.still = true) (hp0 : cv0.pure = true → C = []) (hf0 : ∀ z0 z1 y, cmp z0 z1 = some y → CloH CX cv0 [(.agg (vs (Span.cs z0))), (vi z1)] (vi y) C) {r : Int × Bool} (h : ZW x' target cmp = some r) : FnH CX 100 [(vl Span.cs x'), (vi target), cv0] (.tup [(vi r.1), (vb r.2)]) C := by
 refine FnH.of Try.func100 rfl rfl rfl rfl (Z4X rfl (Z4X rfl (Z4X hs0 all_nil))) rfl (fun h => hp0 (Z46 h 2 rfl)) ?_
 intro σ L hC H
 unfold ZW at h
 refine .then (.Z0 2 rfl H fun b1 σ H => (.assign (v := (vi 0)) rfl rfl (.assign (v := (vb false)) rfl rfl (.nila H fun H => (.then ?_)))))
 refine .Z0 3 rfl H fun b2 σ H => (.move (v := (vl Span.cs x')) rfl rfl (.Z0K (c := Span.cs) (xs := x') rfl rfl rfl (.assign (v := (vi (x'.length : Int))) rfl rfl (.nila H fun H => (.then ?_)))))
 refine .Z0 3 rfl H fun b3 σ H => (.move (v := (vi (x'.length : Int))) rfl rfl (.assign (v := (vi 0)) rfl rfl (.assign (v := (vi (x'.length : Int))) rfl rfl (.nila H fun H => (.then ?_)))))
 refine .inBlock ?_
 obtain ⟨y1, hj1, h⟩ := bind_some h
 obtain ⟨n1, hj1⟩ := Zb.1 hj1
 refine .mono (Runs.ZO hj1 (fun s1 e σ => Z4 e [(0, (vl Span.cs x')), (1, (vi target)), (2, cv0), (8, (vi (x'.length : Int))), (9, (vi s1.1)), (10, (vi s1.2))] ∧ Hs σ (L)) (fun y1 x e σ => x = .exit 0 ∧ Z4 e [(0, (vl Span.cs x')), (1, (vi target)), (2, cv0), (8, (vi (x'.length : Int))), (9, (vi y1))] ∧ Hs σ (L)) ⟨⟨rfl, rfl, rfl, rfl, rfl, rfl, trivial⟩, H⟩ ?_) ?_
 ·intro s1 e σ hI z h
  obtain ⟨he, H⟩ := hI
  obtain ⟨e, rfl⟩ := he.ex
  unfold ZW.s0 at h
  refine .then (.then (.Z0 3 rfl H fun b4 σ H => (.move (v := (vi s1.1)) rfl rfl (.move (v := (vi s1.2)) rfl rfl (.int (m := s1.1) (m' := s1.2) (r := .bool (decide (s1.1 < s1.2))) rfl rfl rfl rfl rfl ?_)))))
  refine .nila H fun H => ?_
  refine .whether (v := (decide (s1.1 < s1.2))) rfl ?_ ?_ <;> intro hc1
  ·replace h := Z7 hc1 h
   refine .skip (.inBlock ?_)
   obtain ⟨y2, hj2, h⟩ := bind_some h
   refine .mono (Q := fun x e σ => x = .normal ∧ Z4 e [(0, (vl Span.cs x')), (1, (vi target)), (2, cv0), (8, (vi (x'.length : Int))), (9, (vi y2.1)), (10, (vi y2.2))] ∧ Hs σ (L)) ?_ ?_
   ·replace h := hj2
    refine .then (.Z0 7 rfl H fun b5 σ H => (.move (v := (vi s1.1)) rfl rfl (.move (v := (vi s1.2)) rfl rfl (.int (m := s1.1) (m' := s1.2) (r := .int .i64 (w64 (s1.1 + s1.2))) rfl rfl rfl rfl rfl (.conv (m := (w64 (s1.1 + s1.2))) rfl rfl rfl rfl ?_)))))
    refine .shr (m := (IntKind.u64.wrap (w64 (s1.1 + s1.2)))) (m' := 1) rfl rfl (by decide) rfl (.conv (m := ((IntKind.u64.wrap (w64 (s1.1 + s1.2))).fdiv (2 ^ 1))) rfl rfl rfl rfl (.assign (v := (vi (w64 ((IntKind.u64.wrap (w64 (s1.1 + s1.2))).fdiv (2 ^ 1))))) rfl rfl (.nila H fun H => (.then (.Z0 8 rfl H fun b6 σ H => ?_)))))
    refine .move (v := cv0) rfl rfl (.move (v := (vl Span.cs x')) rfl rfl (.move (v := (vi (w64 ((IntKind.u64.wrap (w64 (s1.1 + s1.2))).fdiv (2 ^ 1))))) rfl rfl ?_))
    obtain ⟨x1, q1, h⟩ := bind_some h
    refine .Zy (c := Span.cs) (u := x1) rfl rfl q1 rfl rfl rfl rfl (.Z26 (cs := [(.int .i64 x1.From), (.int .i64 x1.To)]) rfl rfl rfl rfl rfl rfl (.move (v := (vi target)) rfl rfl ?_))
    obtain ⟨x2, q2, h⟩ := bind_some h
    refine .callV (cv := cv0) (ys := [(.agg (vs (Span.cs x1))), (vi target)]) (r := (vi x2)) H rfl rfl (hf0 x1 target _ q2) hC nofun rfl fun σ H => (.int (m := x2) (m' := 0) (r := .bool (decide (x2 < 0))) rfl rfl rfl rfl rfl (.nila H fun H => ?_))
    refine .whether (v := (decide (x2 < 0))) rfl ?_ ?_ <;> intro hc2
    ·replace h := Z7 hc2 h
     refine .Z0 3 rfl H fun b7 σ H => (.move (v := (vi (w64 ((IntKind.u64.wrap (w64 (s1.1 + s1.2))).fdiv (2 ^ 1))))) rfl rfl (.int (m := (w64 ((IntKind.u64.wrap (w64 (s1.1 + s1.2))).fdiv (2 ^ 1)))) (m' := 1) (r := .int .i64 (w64 ((w64 ((IntKind.u64.wrap (w64 (s1.1 + s1.2))).fdiv (2 ^ 1))) + 1))) rfl rfl rfl rfl rfl (.assign (v := (vi (w64 ((w64 ((IntKind.u64.wrap (w64 (s1.1 + s1.2))).fdiv (2 ^ 1))) + 1)))) rfl rfl (.nila H fun H => ?_))))
     replace h := sj h; subst h
     exact ⟨rfl, ⟨rfl, rfl, rfl, rfl, rfl, rfl, trivial⟩, H⟩
    ·replace h := Z8 hc2 h
     refine .Z0 2 rfl H fun b8 σ H => (.move (v := (vi (w64 ((IntKind.u64.wrap (w64 (s1.1 + s1.2))).fdiv (2 ^ 1))))) rfl rfl (.assign (v := (vi (w64 ((IntKind.u64.wrap (w64 (s1.1 + s1.2))).fdiv (2 ^ 1))))) rfl rfl (.nila H fun H => ?_)))
     replace h := sj h; subst h
     exact ⟨rfl, ⟨rfl, rfl, rfl, rfl, rfl, rfl, trivial⟩, H⟩
   ·rintro x e σ ⟨rfl, he, H⟩
    obtain ⟨e, rfl⟩ := he.ex
    replace h := sj h; subst h
    exact ⟨rfl, ⟨rfl, rfl, rfl, rfl, rfl, rfl, trivial⟩, H⟩
  ·replace h := Z8 hc1 h
   refine .exit ?_
   replace h := sj h; subst h
   exact ⟨nofun, ⟨rfl, ⟨rfl, rfl, rfl, rfl, rfl, trivial⟩, H⟩⟩
 ·rintro x e σ ⟨rfl, he, H⟩
  obtain ⟨e, rfl⟩ := he.ex
  refine .then (.Z0 16 rfl H fun b9 σ H => (.move (v := (vi y1)) rfl rfl (.move (v := (vi y1)) rfl rfl (.move (v := (vi (x'.length : Int))) rfl rfl (.int (m := y1) (m' := (x'.length : Int)) (r := .bool (decide (y1 < (x'.length : Int)))) rfl rfl rfl rfl rfl ?_)))))
  refine .move (v := (vb (decide (y1 < (x'.length : Int))))) rfl rfl ?_
  obtain ⟨y3, hj3, h⟩ := bind_some h
  refine .mid 9 (K1 := fun e σ => Z4 e [(48, (vb y3)), (35, (vi y1))] ∧ Has σ (b9 + 14) (b9 + 16) (L)) rfl ?_ ?_
  ·refine .split rfl rfl ?_ ?_ <;> intro hc3
   ·replace h := Z7 hc3 hj3
    refine .wanted rfl rfl (.move (v := cv0) rfl rfl (.wanted rfl rfl (.move (v := (vl Span.cs x')) rfl rfl (.wanted rfl rfl (.move (v := (vi y1)) rfl rfl ?_)))))
    refine .wanted rfl rfl ?_
    obtain ⟨x3, q3, h⟩ := bind_some h
    refine .Zy (c := Span.cs) (u := x3) rfl rfl q3 rfl rfl rfl rfl (.wanted rfl rfl (.Z26 (cs := [(.int .i64 x3.From), (.int .i64 x3.To)]) rfl rfl rfl rfl rfl rfl (.wanted rfl rfl (.move (v := (vi target)) rfl rfl (.wanted rfl rfl ?_)))))
    obtain ⟨x4, q4, h⟩ := bind_some h
    refine .callV (cv := cv0) (ys := [(.agg (vs (Span.cs x3))), (vi target)]) (r := (vi x4)) H rfl rfl (hf0 x3 target _ q4) hC nofun rfl fun σ H => (.wanted rfl rfl (.int (m := x4) (m' := 0) (r := .bool (x4 == 0)) rfl rfl rfl rfl rfl (.Zf (v := (vb (x4 == 0))) rfl rfl rfl (.nil ?_))))
    replace h := sj h; subst h
    exact ⟨⟨rfl, rfl, trivial⟩, H.weak (by omega) (Nat.le_refl _)⟩
   ·replace h := Z8 hc3 hj3
    refine .pass rfl rfl rfl (.pass rfl rfl rfl (.pass rfl rfl rfl (.pass rfl rfl rfl (.pass rfl rfl rfl (.pass rfl rfl rfl ?_)))))
    refine .pass rfl rfl rfl (.pass rfl rfl rfl (.Zh (v := (vb false)) rfl rfl rfl (.nil ?_)))
    replace h := sj h; subst h
    exact ⟨⟨rfl, rfl, trivial⟩, H.weak (by omega) (Nat.le_refl _)⟩
  ·rintro e σ ⟨he, H⟩
   obtain ⟨e, rfl⟩ := he.ex
   refine .assign (v := (vi y1)) rfl rfl (.assign (v := (vb y3)) rfl rfl (.nila H fun H => (.ret ?_)))
   replace h := sj h; subst h
   exact (EndsH.H (xs := [(vi y1), (vb y3)]) (.inr rfl) H (.tmp (v := (vi y1)) rfl (.tmp (v := (vb y3)) rfl .nil)) (.two (.cons (.c (.v _)) (.cons (.c (.v _)) .nil))) 0 rfl)

theorem Z9Z {s : Span} {t : Int} {r : Int} (h : Z38 s t = r) : Fn CX 101 [(.agg (vs (Span.cs s))), (vi t)] (vi r) := by
 refine Fn.ends Try.func101 rfl rfl rfl rfl rfl rfl ?_
 have H : Hs (⟨0, fun _ => .none⟩ : Heap) [] := Has.nil (Nat.le_refl _)
 generalize (⟨0, fun _ => .none⟩ : Heap) = σ at H ⊢
 unfold Z38 at h
 refine .then (.Z0 2 rfl H fun b1 σ H => (.boxH (cs := [(vi s.From), (vi s.To)]) H (by omega) (by omega) rfl rfl rfl fun σ H => (.assign (v := (vi 0)) rfl rfl (.nila H fun H => (.then ?_)))))
 refine .inBlock (.then (.Z0 5 rfl H fun b2 σ H => (.Z2 (off := 0) (fo := 1) H 0 rfl rfl rfl rfl rfl nofun rfl (.ZC (off := 1) (v := (vi s.To)) H 0 rfl rfl rfl rfl rfl nofun rfl (.move (v := (vi t)) rfl rfl ?_)))))
 refine .int (m := s.To) (m' := t) (r := .bool (decide (s.To < t))) rfl rfl rfl rfl rfl (.assign (v := (vb (decide (s.To < t)))) rfl rfl (.nila H fun H => ?_))
 refine .whether (v := (decide (s.To < t))) rfl ?_ ?_ <;> intro hc1
 ·replace h := Z7 hc1 h
  refine .then (.Z0 1 rfl H fun b3 σ H => (.assign (v := (vi (-1))) rfl rfl (.nila H fun H => (.ret ?_))))
  subst h
  exact (Ends.H (xs := [(vi (-1))]) (.inr rfl) H (.tmp (v := (vi (-1))) rfl .nil) (.one (.c (.v _))))
 ·replace h := Z8 hc1 h
  refine .then (.Z0 5 rfl H fun b4 σ H => (.Z2 (off := 0) (fo := 0) H 0 rfl rfl rfl rfl rfl nofun rfl (.ZC (off := 0) (v := (vi s.From)) H 0 rfl rfl rfl rfl rfl nofun rfl (.move (v := (vi t)) rfl rfl (.int (m := s.From) (m' := t) (r := .bool (decide (s.From > t))) rfl rfl rfl rfl rfl ?_)))))
  refine .assign (v := (vb (decide (s.From > t)))) rfl rfl (.nila H fun H => ?_)
  refine .whether (v := (decide (s.From > t))) rfl ?_ ?_ <;> intro hc2
  ·replace h := Z7 hc2 h
   refine .then (.Z0 1 rfl H fun b5 σ H => (.assign (v := (vi 1)) rfl rfl (.nila H fun H => (.ret ?_))))
   subst h
   exact (Ends.H (xs := [(vi 1)]) (.inr rfl) H (.tmp (v := (vi 1)) rfl .nil) (.one (.c (.v _))))
  ·replace h := Z8 hc2 h
   refine .skip (.then (.Z0 1 rfl H fun b6 σ H => (.assign (v := (vi 0)) rfl rfl (.nila H fun H => (.ret ?_)))))
   subst h
   exact (Ends.H (xs := [(vi 0)]) (.inr rfl) H (.tmp (v := (vi 0)) rfl .nil) (.one (.c (.v _))))

theorem spans_Has_fn {l : (List Span)} {t : Int} {r : Bool} (h : Z5A l t = some r) : Fn CX 75 [(vl Span.cs l), (vi t)] (vb r) := by
 refine Fn.ends Try.func75 rfl rfl rfl rfl rfl rfl ?_
 have H : Hs (⟨0, fun _ => .none⟩ : Heap) [] := Has.nil (Nat.le_refl _)
 generalize (⟨0, fun _ => .none⟩ : Heap) = σ at H ⊢
 unfold Z5A at h
 refine .then (.Z0 1 rfl H fun b1 σ H => (.assign (v := (vb false)) rfl rfl (.nila H fun H => (.then (.Z0 8 rfl H fun b2 σ H => ?_)))))
 refine .move (v := (vl Span.cs l)) rfl rfl (.move (v := (vi t)) rfl rfl ?_)
 obtain ⟨x1, q1, h⟩ := bind_some h
 refine .Z6u (ys := [(vl Span.cs l), (vi t), (.v (.fn 101))]) (r := (.tup [(vi x1.1), (vb x1.2)])) H rfl (Z2B (C := []) rfl (fun _ => rfl) (fun z0 z1 y hz => (CloH.fn (Fn.toH (Z9Z (Option.some.inj hz)) _))) q1) .nil nofun rfl fun σ H => (.move (v := (.tup [(vi x1.1), (vb x1.2)])) rfl rfl (.extract (v := (vi x1.1)) rfl rfl rfl (.extract (v := (vb x1.2)) rfl rfl rfl (.assign (v := (vi x1.1)) rfl rfl (.assign (v := (vb x1.2)) rfl rfl ?_)))))
 refine .nila H fun H => (.then (.Z0 8 rfl H fun b3 σ H => (.move (v := (vb x1.2)) rfl rfl (.move (v := (vb x1.2)) rfl rfl ?_))))
 refine .mid 5 (K1 := fun e σ => Z4 e [(19, (vb (x1.2 && (decide (x1.1 < (l.length : Int))))))] ∧ Has σ (b3 + 7) (b3 + 8) []) rfl ?_ ?_
 ·refine .split rfl rfl ?_ ?_ <;> intro hc1
  ·skip
   refine .wanted rfl rfl (.move (v := (vi x1.1)) rfl rfl (.wanted rfl rfl (.move (v := (vl Span.cs l)) rfl rfl (.wanted rfl rfl (.Z0K (c := Span.cs) (xs := l) rfl rfl rfl ?_)))))
   refine .wanted rfl rfl (.int (m := x1.1) (m' := (l.length : Int)) (r := .bool (decide (x1.1 < (l.length : Int)))) rfl rfl rfl rfl rfl (.Zf (v := (vb (decide (x1.1 < (l.length : Int))))) rfl rfl rfl (.nil ?_)))
   exact ⟨⟨Z15 hc1, trivial⟩, H.weak (by omega) (Nat.le_refl _)⟩
  ·skip
   refine .pass rfl rfl rfl (.pass rfl rfl rfl (.pass rfl rfl rfl (.pass rfl rfl rfl (.Zh (v := (vb false)) rfl rfl rfl (.nil ?_)))))
   exact ⟨⟨Z19 hc1, trivial⟩, H.weak (by omega) (Nat.le_refl _)⟩
 ·rintro e σ ⟨he, H⟩
  obtain ⟨e, rfl⟩ := he.ex
  refine .assign (v := (vb (x1.2 && (decide (x1.1 < (l.length : Int)))))) rfl rfl (.nila H fun H => (.ret ?_))
  replace h := sj h; subst h
  exact (Ends.H (xs := [(vb (x1.2 && (decide (x1.1 < (l.length : Int)))))]) (.inr rfl) H (.tmp (v := (vb (x1.2 && (decide (x1.1 < (l.length : Int)))))) rfl .nil) (.one (.c (.v _))))

theorem Z9P {f : Form} {t : Int} {r : Int × Bool} (h : Z4i f t = some r) : Fn CX 52 [(.agg (vs (Form.cs f))), (vi t)] (.tup [(vi r.1), (vb r.2)]) := by
 refine Fn.ends Try.func52 rfl rfl rfl rfl rfl rfl ?_
 have H : Hs (⟨0, fun _ => .none⟩ : Heap) [] := Has.nil (Nat.le_refl _)
 generalize (⟨0, fun _ => .none⟩ : Heap) = σ at H ⊢
 unfold Z4i at h
 refine .then (.Z0 3 rfl H fun b1 σ H => (.boxH (cs := (vF f)) H (by omega) (by omega) rfl rfl rfl fun σ H => (.assign (v := (vi 0)) rfl rfl (.assign (v := (vb false)) rfl rfl (.nila H fun H => ?_)))))
 refine .then (.Z0 8 rfl H fun b2 σ H => (.ZI (off := 0) (cs := (vF f)) H 0 rfl rfl rfl rfl rfl rfl rfl nofun rfl (.move (v := (vi t)) rfl rfl ?_)))
 obtain ⟨x1, q1, h⟩ := bind_some h
 refine .call (ys := [(.agg (vF f)), (vi t)]) (r := (.tup [(vi x1.1), (vb x1.2)])) rfl (find_From_fn q1) rfl (.move (v := (.tup [(vi x1.1), (vb x1.2)])) rfl rfl (.extract (v := (vi x1.1)) rfl rfl rfl (.extract (v := (vb x1.2)) rfl rfl rfl (.assign (v := (vi x1.1)) rfl rfl (.assign (v := (vb x1.2)) rfl rfl ?_)))))
 refine .nila H fun H => (.then (.then (.Z0 2 rfl H fun b3 σ H => (.move (v := (vb x1.2)) rfl rfl (.not (b := x1.2) rfl rfl ?_)))))
 refine .nila H fun H => ?_
 refine .whether (v := (!x1.2)) rfl ?_ ?_ <;> intro hc1
 ·replace h := Z7 hc1 h
  refine .then (.Z0 2 rfl H fun b4 σ H => (.assign (v := (vi 0)) rfl rfl (.assign (v := (vb false)) rfl rfl (.nila H fun H => (.ret ?_)))))
  replace h := sj h; subst h
  exact (Ends.H (xs := [(vi 0), (vb false)]) (.inr rfl) H (.tmp (v := (vi 0)) rfl (.tmp (v := (vb false)) rfl .nil)) (.two (.cons (.c (.v _)) (.cons (.c (.v _)) .nil))))
 ·replace h := Z8 hc1 h
  refine .skip (.then (.Z0 8 rfl H fun b5 σ H => (.ZI (off := 0) (cs := (vF f)) H 0 rfl rfl rfl rfl rfl rfl rfl nofun rfl (.move (v := (vi x1.1)) rfl rfl ?_))))
  obtain ⟨x2, q2, h⟩ := bind_some h
  refine .call (ys := [(.agg (vF f)), (vi x1.1)]) (r := (.tup [(vl Span.cs x2.1), (vi x2.2)])) rfl (Z3D q2) rfl (.move (v := (.tup [(vl Span.cs x2.1), (vi x2.2)])) rfl rfl (.extract (v := (vl Span.cs x2.1)) rfl rfl rfl (.extract (v := (vi x2.2)) rfl rfl rfl (.assign (v := (vl Span.cs x2.1)) rfl rfl (.assign (v := (vi x2.2)) rfl rfl ?_)))))
  refine .nila H fun H => (.then (.then (.Z0 4 rfl H fun b6 σ H => (.move (v := (vl Span.cs x2.1)) rfl rfl (.move (v := (vi t)) rfl rfl ?_)))))
  obtain ⟨x3, q3, h⟩ := bind_some h
  refine .call (ys := [(vl Span.cs x2.1), (vi t)]) (r := (vb x3)) rfl (spans_Has_fn q3) rfl (.not (b := x3) rfl rfl (.nila H fun H => ?_))
  refine .whether (v := (!x3)) rfl ?_ ?_ <;> intro hc2
  ·replace h := Z7 hc2 h
   refine .then (.Z0 2 rfl H fun b7 σ H => (.assign (v := (vi 0)) rfl rfl (.assign (v := (vb false)) rfl rfl (.nila H fun H => (.ret ?_)))))
   replace h := sj h; subst h
   exact (Ends.H (xs := [(vi 0), (vb false)]) (.inr rfl) H (.tmp (v := (vi 0)) rfl (.tmp (v := (vb false)) rfl .nil)) (.two (.cons (.c (.v _)) (.cons (.c (.v _)) .nil))))
  ·replace h := Z8 hc2 h
   refine .skip (.then (.Z0 3 rfl H fun b8 σ H => (.move (v := (vi x1.1)) rfl rfl (.assign (v := (vi x1.1)) rfl rfl (.assign (v := (vb true)) rfl rfl ?_)))))
   refine .nila H fun H => (.ret ?_)
   replace h := sj h; subst h
   exact (Ends.H (xs := [(vi x1.1), (vb true)]) (.inr rfl) H (.tmp (v := (vi x1.1)) rfl (.tmp (v := (vb true)) rfl .nil)) (.two (.cons (.c (.v _)) (.cons (.c (.v _)) .nil))))

theorem Z9E {f : Form} {a : Int} {b : Int} {r : Int × Bool} (h : Z3J f a b = some r) : Fn CX 25 [(.agg (vs (Form.cs f))), (vi a), (vi b)] (.tup [(vi r.1), (vb r.2)]) := by
 refine Fn.ends Try.func25 rfl rfl rfl rfl rfl rfl ?_
 have H : Hs (⟨0, fun _ => .none⟩ : Heap) [] := Has.nil (Nat.le_refl _)
 generalize (⟨0, fun _ => .none⟩ : Heap) = σ at H ⊢
 unfold Z3J at h
 refine .then (.Z0 3 rfl H fun b1 σ H => (.boxH (cs := (vF f)) H (by omega) (by omega) rfl rfl rfl fun σ H => (.assign (v := (vi 0)) rfl rfl (.assign (v := (vb false)) rfl rfl (.nila H fun H => ?_)))))
 refine .then (.Z0 8 rfl H fun b2 σ H => (.ZI (off := 0) (cs := (vF f)) H 0 rfl rfl rfl rfl rfl rfl rfl nofun rfl (.move (v := (vi a)) rfl rfl ?_)))
 obtain ⟨x1, q1, h⟩ := bind_some h
 refine .call (ys := [(.agg (vF f)), (vi a)]) (r := (.tup [(vi x1.1), (vb x1.2)])) rfl (Z9P q1) rfl (.move (v := (.tup [(vi x1.1), (vb x1.2)])) rfl rfl (.extract (v := (vi x1.1)) rfl rfl rfl (.extract (v := (vb x1.2)) rfl rfl rfl (.assign (v := (vi x1.1)) rfl rfl (.assign (v := (vb x1.2)) rfl rfl ?_)))))
 refine .nila H fun H => (.then (.then (.Z0 2 rfl H fun b3 σ H => (.move (v := (vb x1.2)) rfl rfl (.not (b := x1.2) rfl rfl ?_)))))
 refine .nila H fun H => ?_
 refine .whether (v := (!x1.2)) rfl ?_ ?_ <;> intro hc1
 ·replace h := Z7 hc1 h
  refine .then (.Z0 2 rfl H fun b4 σ H => (.assign (v := (vi 0)) rfl rfl (.assign (v := (vb false)) rfl rfl (.nila H fun H => (.ret ?_)))))
  replace h := sj h; subst h
  exact (Ends.H (xs := [(vi 0), (vb false)]) (.inr rfl) H (.tmp (v := (vi 0)) rfl (.tmp (v := (vb false)) rfl .nil)) (.two (.cons (.c (.v _)) (.cons (.c (.v _)) .nil))))
 ·replace h := Z8 hc1 h
  refine .skip (.then (.Z0 8 rfl H fun b5 σ H => (.ZI (off := 0) (cs := (vF f)) H 0 rfl rfl rfl rfl rfl rfl rfl nofun rfl (.move (v := (vi b)) rfl rfl ?_))))
  obtain ⟨x2, q2, h⟩ := bind_some h
  refine .call (ys := [(.agg (vF f)), (vi b)]) (r := (.tup [(vi x2.1), (vb x2.2)])) rfl (Z9P q2) rfl (.move (v := (.tup [(vi x2.1), (vb x2.2)])) rfl rfl (.extract (v := (vi x2.1)) rfl rfl rfl (.extract (v := (vb x2.2)) rfl rfl rfl (.assign (v := (vi x2.1)) rfl rfl (.assign (v := (vb x2.2)) rfl rfl ?_)))))
  refine .nila H fun H => (.then (.then (.Z0 2 rfl H fun b6 σ H => (.move (v := (vb x2.2)) rfl rfl (.not (b := x2.2) rfl rfl ?_)))))
  refine .nila H fun H => ?_
  refine .whether (v := (!x2.2)) rfl ?_ ?_ <;> intro hc2
  ·replace h := Z7 hc2 h
   refine .then (.Z0 2 rfl H fun b7 σ H => (.assign (v := (vi 0)) rfl rfl (.assign (v := (vb false)) rfl rfl (.nila H fun H => (.ret ?_)))))
   replace h := sj h; subst h
   exact (Ends.H (xs := [(vi 0), (vb false)]) (.inr rfl) H (.tmp (v := (vi 0)) rfl (.tmp (v := (vb false)) rfl .nil)) (.two (.cons (.c (.v _)) (.cons (.c (.v _)) .nil))))
  ·replace h := Z8 hc2 h
   refine .skip (.then (.Z0 5 rfl H fun b8 σ H => (.move (v := (vi x2.1)) rfl rfl (.move (v := (vi x1.1)) rfl rfl (.int (m := x2.1) (m' := x1.1) (r := .int .i64 (w64 (x2.1 - x1.1))) rfl rfl rfl rfl rfl ?_)))))
   refine .assign (v := (vi (w64 (x2.1 - x1.1)))) rfl rfl (.assign (v := (vb true)) rfl rfl (.nila H fun H => (.ret ?_)))
   replace h := sj h; subst h
   exact (Ends.H (xs := [(vi (w64 (x2.1 - x1.1))), (vb true)]) (.inr rfl) H (.tmp (v := (vi (w64 (x2.1 - x1.1)))) rfl (.tmp (v := (vb true)) rfl .nil)) (.two (.cons (.c (.v _)) (.cons (.c (.v _)) .nil))))

theorem Z2R {r' : Range} {n : Int} {r : Bool} (h : ZA r' n = r) : Fn CX 26 [(.agg (vs (Range.cs r'))), (vi n)] (vb r) := by
 refine Fn.ends Try.func26 rfl rfl rfl rfl rfl rfl ?_
 have H : Hs (⟨0, fun _ => .none⟩ : Heap) [] := Has.nil (Nat.le_refl _)
 generalize (⟨0, fun _ => .none⟩ : Heap) = σ at H ⊢
 unfold ZA at h
 refine .then (.Z0 2 rfl H fun b1 σ H => (.boxH (cs := [(vi r'.Low), (vi r'.High), (vb r'.HasLow), (vb r'.HasHigh)]) H (by omega) (by omega) rfl rfl rfl fun σ H => (.assign (v := (vb false)) rfl rfl (.nila H fun H => (.then ?_)))))
 refine .Z0 21 rfl H fun b2 σ H => (.Z2 (off := 0) (fo := 2) H 0 rfl rfl rfl rfl rfl nofun rfl (.ZC (off := 2) (v := (vb r'.HasLow)) H 0 rfl rfl rfl rfl rfl nofun rfl (.not (b := r'.HasLow) rfl rfl (.move (v := (vb (!r'.HasLow))) rfl rfl ?_))))
 refine .mid 5 (K1 := fun e σ => Z4 e [(13, (vb ((!r'.HasLow) || (decide (n ≥ r'.Low))))), (1, (vi n)), (2, (.ptr (b1 + 0) 4 0))] ∧ Has σ (b2 + 9) (b2 + 21) [.blk (b1 + 0) 27 [(vi r'.Low), (vi r'.High), (vb r'.HasLow), (vb r'.HasHigh)]]) rfl ?_ ?_
 ·refine .split rfl rfl ?_ ?_ <;> intro hc1
  ·skip
   refine .pass rfl rfl rfl (.pass rfl rfl rfl (.pass rfl rfl rfl (.pass rfl rfl rfl (.Zf (v := (vb true)) rfl rfl rfl (.nil ?_)))))
   exact ⟨⟨or_T hc1, rfl, rfl, trivial⟩, H.weak (by omega) (Nat.le_refl _)⟩
  ·skip
   refine .wanted rfl rfl (.move (v := (vi n)) rfl rfl (.wanted rfl rfl (.Z2 (off := 0) (fo := 0) H 0 rfl rfl rfl rfl rfl nofun rfl (.wanted rfl rfl (.ZC (off := 0) (v := (vi r'.Low)) H 0 rfl rfl rfl rfl rfl nofun rfl ?_)))))
   refine .wanted rfl rfl (.int (m := n) (m' := r'.Low) (r := .bool (decide (n ≥ r'.Low))) rfl rfl rfl rfl rfl (.Zh (v := (vb (decide (n ≥ r'.Low)))) rfl rfl rfl (.nil ?_)))
   exact ⟨⟨or_F hc1, rfl, rfl, trivial⟩, H.weak (by omega) (Nat.le_refl _)⟩
 ·rintro e σ ⟨he, H⟩
  obtain ⟨e, rfl⟩ := he.ex
  refine .move (v := (vb ((!r'.HasLow) || (decide (n ≥ r'.Low))))) rfl rfl ?_
  refine .mid 10 (K1 := fun e σ => Z4 e [(24, (vb (((!r'.HasLow) || (decide (n ≥ r'.Low))) && ((!r'.HasHigh) || (decide (n ≤ r'.High))))))] ∧ Has σ (b2 + 20) (b2 + 21) []) rfl ?_ ?_
  ·refine .split rfl rfl ?_ ?_ <;> intro hc2
   ·skip
    refine .wanted rfl rfl (.Z2 (off := 0) (fo := 3) H 0 rfl rfl rfl rfl rfl nofun rfl (.wanted rfl rfl (.ZC (off := 3) (v := (vb r'.HasHigh)) H 0 rfl rfl rfl rfl rfl nofun rfl (.wanted rfl rfl (.not (b := r'.HasHigh) rfl rfl ?_)))))
    refine .wanted rfl rfl (.move (v := (vb (!r'.HasHigh))) rfl rfl ?_)
    refine .mid 5 (K1 := fun e σ => Z4 e [(23, (vb ((!r'.HasHigh) || (decide (n ≤ r'.High))))), (14, (vb true))] ∧ Has σ (b2 + 19) (b2 + 21) []) rfl ?_ ?_
    ·refine .split rfl rfl ?_ ?_ <;> intro hc3
     ·skip
      refine .pass rfl rfl rfl (.pass rfl rfl rfl (.pass rfl rfl rfl (.pass rfl rfl rfl (.wanted rfl rfl (.Zf (v := (vb true)) rfl rfl rfl ?_)))))
      refine .nil ?_
      exact ⟨⟨or_T hc3, rfl, trivial⟩, (H.erase 0).weak (by omega) (Nat.le_refl _)⟩
     ·skip
      refine .wanted rfl rfl (.move (v := (vi n)) rfl rfl (.wanted rfl rfl (.Z2 (off := 0) (fo := 1) H 0 rfl rfl rfl rfl rfl nofun rfl (.wanted rfl rfl (.ZC (off := 1) (v := (vi r'.High)) H 0 rfl rfl rfl rfl rfl nofun rfl ?_)))))
      refine .wanted rfl rfl (.int (m := n) (m' := r'.High) (r := .bool (decide (n ≤ r'.High))) rfl rfl rfl rfl rfl (.wanted rfl rfl (.Zh (v := (vb (decide (n ≤ r'.High)))) rfl rfl rfl (.nil ?_))))
      exact ⟨⟨or_F hc3, rfl, trivial⟩, (H.erase 0).weak (by omega) (Nat.le_refl _)⟩
    ·rintro e σ ⟨he, H⟩
     obtain ⟨e, rfl⟩ := he.ex
     refine .Zf (v := (vb ((!r'.HasHigh) || (decide (n ≤ r'.High))))) rfl rfl rfl (.nil ?_)
     exact ⟨⟨Z15 hc2, trivial⟩, H.weak (by omega) (Nat.le_refl _)⟩
   ·skip
    refine .pass rfl rfl rfl (.pass rfl rfl rfl (.pass rfl rfl rfl (.pass rfl rfl rfl (.Z00 rfl rfl rfl (.Z00 rfl rfl rfl ?_)))))
    refine .Z00 rfl rfl rfl (.Z00 rfl rfl rfl (.pass rfl rfl rfl (.Zh (v := (vb false)) rfl rfl rfl (.nil ?_))))
    exact ⟨⟨Z19 hc2, trivial⟩, (H.erase 0).weak (by omega) (Nat.le_refl _)⟩
  ·rintro e σ ⟨he, H⟩
   obtain ⟨e, rfl⟩ := he.ex
   refine .assign (v := (vb (((!r'.HasLow) || (decide (n ≥ r'.Low))) && ((!r'.HasHigh) || (decide (n ≤ r'.High)))))) rfl rfl (.nila H fun H => (.ret ?_))
   subst h
   exact (Ends.H (xs := [(vb (((!r'.HasLow) || (decide (n ≥ r'.Low))) && ((!r'.HasHigh) || (decide (n ≤ r'.High)))))]) (.inr rfl) H (.tmp (v := (vb (((!r'.HasLow) || (decide (n ≥ r'.Low))) && ((!r'.HasHigh) || (decide (n ≤ r'.High)))))) rfl .nil) (.one (.c (.v _))))

end Go.Dn

namespace Go.Dn
open Go Go.Proofs
set_option maxRecDepth 100000
set_option maxHeartbeats 4000000

theorem Z88 {a : Bound} {b : Bound} {r : Bool} (h : Z03 a b = r) : Fn CX 24 [(.agg (vs (Bound.cs a))), (.agg (vs (Bound.cs b)))] (vb r) := by
 refine Fn.ends Try.func24 rfl rfl rfl rfl rfl rfl ?_
 have H : Hs (⟨0, fun _ => .none⟩ : Heap) [] := Has.nil (Nat.le_refl _)
 generalize (⟨0, fun _ => .none⟩ : Heap) = σ at H ⊢
 unfold Z03 at h
 refine .then (.Z0 3 rfl H fun b1 σ H => (.boxH (cs := [(.v (.int .i8 a.Inf)), (vi a.N)]) H (by omega) (by omega) rfl rfl rfl fun σ H => (.boxH (cs := [(.v (.int .i8 b.Inf)), (vi b.N)]) H (by omega) (by omega) rfl rfl rfl fun σ H => (.assign (v := (vb false)) rfl rfl (.nila H fun H => ?_)))))
 refine .then (.inBlock (.then (.Z0 9 rfl H fun b2 σ H => (.ZI (off := 0) (cs := [(.v (.int .i8 a.Inf)), (vi a.N)]) H 1 rfl rfl rfl rfl rfl rfl rfl nofun rfl (.call (ys := [(.agg [(.v (.int .i8 a.Inf)), (vi a.N)])]) (r := (vb (ZH a))) rfl (Z2w (rfl : ZH a = _)) rfl ?_)))))
 refine .not (b := (ZH a)) rfl rfl (.move (v := (vb (!(ZH a)))) rfl rfl ?_)
 refine .mid 4 (K1 := fun e σ => Z4 e [(13, (vb ((!(ZH a)) || (!(ZH b))))), (2, (.ptr (b1 + 0) 2 0)), (3, (.ptr (b1 + 1) 2 0))] ∧ Has σ (b2 + 8) (b2 + 9) [.blk (b1 + 1) 32 [(.v (.int .i8 b.Inf)), (vi b.N)], .blk (b1 + 0) 32 [(.v (.int .i8 a.Inf)), (vi a.N)]]) rfl ?_ ?_
 ·refine .split rfl rfl ?_ ?_ <;> intro hc1
  ·skip
   refine .pass rfl rfl rfl (.pass rfl rfl rfl (.pass rfl rfl rfl (.Zf (v := (vb true)) rfl rfl rfl (.nil ?_))))
   exact ⟨⟨or_T hc1, rfl, rfl, trivial⟩, H.weak (by omega) (Nat.le_refl _)⟩
  ·skip
   refine .wanted rfl rfl (.ZI (off := 0) (cs := [(.v (.int .i8 b.Inf)), (vi b.N)]) H 0 rfl rfl rfl rfl rfl rfl rfl nofun rfl (.wanted rfl rfl (.call (ys := [(.agg [(.v (.int .i8 b.Inf)), (vi b.N)])]) (r := (vb (ZH b))) rfl (Z2w (rfl : ZH b = _)) rfl (.wanted rfl rfl (.not (b := (ZH b)) rfl rfl ?_)))))
   refine .Zh (v := (vb (!(ZH b)))) rfl rfl rfl (.nil ?_)
   exact ⟨⟨or_F hc1, rfl, rfl, trivial⟩, H.weak (by omega) (Nat.le_refl _)⟩
 ·rintro e σ ⟨he, H⟩
  obtain ⟨e, rfl⟩ := he.ex
  refine .assign (v := (vb ((!(ZH a)) || (!(ZH b))))) rfl rfl (.nila H fun H => ?_)
  refine .whether (v := ((!(ZH a)) || (!(ZH b)))) rfl ?_ ?_ <;> intro hc2
  ·replace h := Z7 hc2 h
   refine .then (.Z0 1 rfl H fun b3 σ H => (.assign (v := (vb false)) rfl rfl (.nila H fun H => (.ret ?_))))
   subst h
   exact (Ends.H (xs := [(vb false)]) (.inr rfl) H (.tmp (v := (vb false)) rfl .nil) (.one (.c (.v _))))
  ·replace h := Z8 hc2 h
   refine .then (.Z0 6 rfl H fun b4 σ H => (.Z2 (off := 0) (fo := 0) H 1 rfl rfl rfl rfl rfl nofun rfl (.ZC (off := 0) (v := (.v (.int .i8 a.Inf))) H 1 rfl rfl rfl rfl rfl nofun rfl (.Z2 (off := 0) (fo := 0) H 0 rfl rfl rfl rfl rfl nofun rfl (.ZC (off := 0) (v := (.v (.int .i8 b.Inf))) H 0 rfl rfl rfl rfl rfl nofun rfl ?_)))))
   refine .int (m := a.Inf) (m' := b.Inf) (r := .bool (a.Inf != b.Inf)) rfl rfl rfl rfl rfl (.assign (v := (vb (a.Inf != b.Inf))) rfl rfl (.nila H fun H => ?_))
   refine .whether (v := (a.Inf != b.Inf)) rfl ?_ ?_ <;> intro hc3
   ·replace h := Z7 hc3 h
    refine .then (.Z0 6 rfl H fun b5 σ H => (.Z2 (off := 0) (fo := 0) H 1 rfl rfl rfl rfl rfl nofun rfl (.ZC (off := 0) (v := (.v (.int .i8 a.Inf))) H 1 rfl rfl rfl rfl rfl nofun rfl (.Z2 (off := 0) (fo := 0) H 0 rfl rfl rfl rfl rfl nofun rfl (.ZC (off := 0) (v := (.v (.int .i8 b.Inf))) H 0 rfl rfl rfl rfl rfl nofun rfl ?_)))))
    refine .int (m := a.Inf) (m' := b.Inf) (r := .bool (decide (a.Inf < b.Inf))) rfl rfl rfl rfl rfl (.assign (v := (vb (decide (a.Inf < b.Inf)))) rfl rfl (.nila H fun H => (.ret ?_)))
    subst h
    exact (Ends.H (xs := [(vb (decide (a.Inf < b.Inf)))]) (.inr rfl) H (.tmp (v := (vb (decide (a.Inf < b.Inf)))) rfl .nil) (.one (.c (.v _))))
   ·replace h := Z8 hc3 h
    refine .skip (.then (.Z0 6 rfl H fun b6 σ H => (.Z2 (off := 0) (fo := 1) H 1 rfl rfl rfl rfl rfl nofun rfl (.ZC (off := 1) (v := (vi a.N)) H 1 rfl rfl rfl rfl rfl nofun rfl (.Z2 (off := 0) (fo := 1) H 0 rfl rfl rfl rfl rfl nofun rfl ?_)))))
    refine .ZC (off := 1) (v := (vi b.N)) H 0 rfl rfl rfl rfl rfl nofun rfl (.int (m := a.N) (m' := b.N) (r := .bool (decide (a.N < b.N))) rfl rfl rfl rfl rfl (.assign (v := (vb (decide (a.N < b.N)))) rfl rfl (.nila H fun H => (.ret ?_))))
    subst h
    exact (Ends.H (xs := [(vb (decide (a.N < b.N)))]) (.inr rfl) H (.tmp (v := (vb (decide (a.N < b.N)))) rfl .nil) (.one (.c (.v _))))

theorem Z2W {low : Bound} {n : Int} {high : Bound} {r : Bool} (h : ZD low n high = r) : Fn CX 27 [(.agg (vs (Bound.cs low))), (vi n), (.agg (vs (Bound.cs high)))] (vb r) := by
 refine Fn.ends Try.func27 rfl rfl rfl rfl rfl rfl ?_
 have H : Hs (⟨0, fun _ => .none⟩ : Heap) [] := Has.nil (Nat.le_refl _)
 generalize (⟨0, fun _ => .none⟩ : Heap) = σ at H ⊢
 unfold ZD at h
 refine .then (.Z0 3 rfl H fun b1 σ H => (.boxH (cs := [(.v (.int .i8 low.Inf)), (vi low.N)]) H (by omega) (by omega) rfl rfl rfl fun σ H => (.boxH (cs := [(.v (.int .i8 high.Inf)), (vi high.N)]) H (by omega) (by omega) rfl rfl rfl fun σ H => (.assign (v := (vb false)) rfl rfl (.nila H fun H => ?_)))))
 refine .then (.Z0 13 rfl H fun b2 σ H => (.move (v := (vi n)) rfl rfl (.Z0I (cs := [(.v (.int .i8 0)), (vi n)]) rfl rfl (.ZI (off := 0) (cs := [(.v (.int .i8 low.Inf)), (vi low.N)]) H 1 rfl rfl rfl rfl rfl rfl rfl nofun rfl (.call (ys := [(.agg [(.v (.int .i8 0)), (vi n)]), (.agg [(.v (.int .i8 low.Inf)), (vi low.N)])]) (r := (vb (Z03 (Bound.mk 0 n) low))) rfl (Z88 (rfl : Z03 (Bound.mk 0 n) low = _)) rfl ?_)))))
 refine .not (b := (Z03 (Bound.mk 0 n) low)) rfl rfl (.move (v := (vb (!(Z03 (Bound.mk 0 n) low)))) rfl rfl ?_)
 refine .mid 6 (K1 := fun e σ => Z4 e [(18, (vb ((!(Z03 (Bound.mk 0 n) low)) && (!(Z03 high (Bound.mk 0 n))))))] ∧ Has σ (b2 + 12) (b2 + 13) []) rfl ?_ ?_
 ·refine .split rfl rfl ?_ ?_ <;> intro hc1
  ·skip
   refine .wanted rfl rfl (.ZI (off := 0) (cs := [(.v (.int .i8 high.Inf)), (vi high.N)]) H 0 rfl rfl rfl rfl rfl rfl rfl nofun rfl (.wanted rfl rfl (.move (v := (vi n)) rfl rfl (.wanted rfl rfl (.Z0I (cs := [(.v (.int .i8 0)), (vi n)]) rfl rfl ?_)))))
   refine .wanted rfl rfl (.call (ys := [(.agg [(.v (.int .i8 high.Inf)), (vi high.N)]), (.agg [(.v (.int .i8 0)), (vi n)])]) (r := (vb (Z03 high (Bound.mk 0 n)))) rfl (Z88 (rfl : Z03 high (Bound.mk 0 n) = _)) rfl (.wanted rfl rfl (.not (b := (Z03 high (Bound.mk 0 n))) rfl rfl (.Zf (v := (vb (!(Z03 high (Bound.mk 0 n))))) rfl rfl rfl (.nil ?_)))))
   exact ⟨⟨Z15 hc1, trivial⟩, ((H.erase 1).erase 0).weak (by omega) (Nat.le_refl _)⟩
  ·skip
   refine .pass rfl rfl rfl (.pass rfl rfl rfl (.pass rfl rfl rfl (.pass rfl rfl rfl (.pass rfl rfl rfl (.Zh (v := (vb false)) rfl rfl rfl ?_)))))
   refine .nil ?_
   exact ⟨⟨Z19 hc1, trivial⟩, ((H.erase 1).erase 0).weak (by omega) (Nat.le_refl _)⟩
 ·rintro e σ ⟨he, H⟩
  obtain ⟨e, rfl⟩ := he.ex
  refine .assign (v := (vb ((!(Z03 (Bound.mk 0 n) low)) && (!(Z03 high (Bound.mk 0 n)))))) rfl rfl (.nila H fun H => (.ret ?_))
  subst h
  exact (Ends.H (xs := [(vb ((!(Z03 (Bound.mk 0 n) low)) && (!(Z03 high (Bound.mk 0 n)))))]) (.inr rfl) H (.tmp (v := (vb ((!(Z03 (Bound.mk 0 n) low)) && (!(Z03 high (Bound.mk 0 n)))))) rfl .nil) (.one (.c (.v _))))

theorem Z55 {f : Form} {a : Int} {b : Int} {r' : Range} {low : Int} {high : Int} {r : Bool} (h : Z1V f a b r' low high = some r) : Fn CX 7 [(.agg (vs (Form.cs f))), (vi a), (vi b), (.agg (vs (Range.cs r'))), (vi low), (vi high)] (vb r) := by
 refine Fn.ends Try.func7 rfl rfl rfl rfl rfl rfl ?_
 have H : Hs (⟨0, fun _ => .none⟩ : Heap) [] := Has.nil (Nat.le_refl _)
 generalize (⟨0, fun _ => .none⟩ : Heap) = σ at H ⊢
 unfold Z1V at h
 refine .then (.Z0 3 rfl H fun b1 σ H => (.boxH (cs := (vF f)) H (by omega) (by omega) rfl rfl rfl fun σ H => (.boxH (cs := [(vi r'.Low), (vi r'.High), (vb r'.HasLow), (vb r'.HasHigh)]) H (by omega) (by omega) rfl rfl rfl fun σ H => (.assign (v := (vb false)) rfl rfl (.nila H fun H => ?_)))))
 refine .then (.then (.Z0 3 rfl H fun b2 σ H => (.ZI (off := 0) (cs := (vF f)) H 1 rfl rfl rfl rfl rfl rfl rfl nofun rfl ?_)))
 obtain ⟨x1, q1, h⟩ := bind_some h
 refine .call (ys := [(.agg (vF f))]) (r := (vb x1)) rfl (Z6e q1) rfl (.not (b := x1) rfl rfl (.nila H fun H => ?_))
 refine .whether (v := (!x1)) rfl ?_ ?_ <;> intro hc1
 ·replace h := Z7 hc1 h
  refine .then (.Z0 2 rfl H fun b3 σ H => (.call (ys := []) (r := (vb ZY)) rfl (Z2q rfl) rfl (.assign (v := (vb ZY)) rfl rfl (.nila H fun H => (.ret ?_)))))
  replace h := sj h; subst h
  exact (Ends.H (xs := [(vb ZY)]) (.inr rfl) H (.tmp (v := (vb ZY)) rfl .nil) (.one (.c (.v _))))
 ·replace h := Z8 hc1 h
  refine .skip (.then (.Z0 6 rfl H fun b4 σ H => (.move (v := (vi a)) rfl rfl (.rem (m := a) (m' := 1099511627776) rfl rfl (by decide) rfl (.move (v := (vi b)) rfl rfl ?_)))))
  refine .rem (m := b) (m' := 1099511627776) rfl rfl (by decide) rfl (.assign (v := (vi (a.tmod 1099511627776))) rfl rfl (.assign (v := (vi (b.tmod 1099511627776))) rfl rfl (.nila H fun H => (.then (.Z0 9 rfl H fun b5 σ H => ?_)))))
  refine .ZI (off := 0) (cs := (vF f)) H 1 rfl rfl rfl rfl rfl rfl rfl nofun rfl (.move (v := (vi (a.tmod 1099511627776))) rfl rfl (.move (v := (vi (b.tmod 1099511627776))) rfl rfl ?_))
  obtain ⟨x2, q2, h⟩ := bind_some h
  refine .call (ys := [(.agg (vF f)), (vi (a.tmod 1099511627776)), (vi (b.tmod 1099511627776))]) (r := (.tup [(vi x2.1), (vb x2.2)])) rfl (Z9E q2) rfl (.move (v := (.tup [(vi x2.1), (vb x2.2)])) rfl rfl (.extract (v := (vi x2.1)) rfl rfl rfl (.extract (v := (vb x2.2)) rfl rfl rfl (.assign (v := (vi x2.1)) rfl rfl (.assign (v := (vb x2.2)) rfl rfl ?_)))))
  refine .nila H fun H => (.then (.then (.Z0 2 rfl H fun b6 σ H => (.move (v := (vb x2.2)) rfl rfl (.not (b := x2.2) rfl rfl ?_)))))
  refine .nila H fun H => ?_
  refine .whether (v := (!x2.2)) rfl ?_ ?_ <;> intro hc2
  ·replace h := Z7 hc2 h
   refine .then (.Z0 2 rfl H fun b7 σ H => (.call (ys := []) (r := (vb ZY)) rfl (Z2q rfl) rfl (.assign (v := (vb ZY)) rfl rfl (.nila H fun H => (.ret ?_)))))
   replace h := sj h; subst h
   exact (Ends.H (xs := [(vb ZY)]) (.inr rfl) H (.tmp (v := (vb ZY)) rfl .nil) (.one (.c (.v _))))
  ·replace h := Z8 hc2 h
   refine .skip (.then (.then (.Z0 10 rfl H fun b8 σ H => (.ZI (off := 0) (cs := (vF f)) H 1 rfl rfl rfl rfl rfl rfl rfl nofun rfl (.ZI (off := 0) (cs := [(vi r'.Low), (vi r'.High), (vb r'.HasLow), (vb r'.HasHigh)]) H 0 rfl rfl rfl rfl rfl rfl rfl nofun rfl ?_)))))
   obtain ⟨x3, q3, h⟩ := bind_some h
   refine .call (ys := [(.agg (vF f)), (.agg [(vi r'.Low), (vi r'.High), (vb r'.HasLow), (vb r'.HasHigh)])]) (r := (.tup [(.agg [(.v (.int .i8 x3.1.Inf)), (vi x3.1.N)]), (.agg [(.v (.int .i8 x3.2.Inf)), (vi x3.2.N)])])) rfl (Z4V q3) rfl (.move (v := (.tup [(.agg [(.v (.int .i8 x3.1.Inf)), (vi x3.1.N)]), (.agg [(.v (.int .i8 x3.2.Inf)), (vi x3.2.N)])])) rfl rfl (.extract (v := (.agg [(.v (.int .i8 x3.1.Inf)), (vi x3.1.N)])) rfl rfl rfl (.extract (v := (.agg [(.v (.int .i8 x3.2.Inf)), (vi x3.2.N)])) rfl rfl rfl (.Zk (cs := [(.v (.int .i8 0)), (vi 0)]) H (by omega) (by omega) rfl rfl fun σ H => (.Zk (cs := [(.v (.int .i8 0)), (vi 0)]) H (by omega) (by omega) rfl rfl fun σ H => ?_)))))
   refine .ZV (off := 0) (cells' := [(.v (.int .i8 x3.1.Inf)), (vi x3.1.N)]) H 1 rfl rfl rfl rfl rfl rfl rfl rfl rfl nofun fun σ H => (.ZV (off := 0) (cells' := [(.v (.int .i8 x3.2.Inf)), (vi x3.2.N)]) H 0 rfl rfl rfl rfl rfl rfl rfl rfl rfl nofun fun σ H => (.nila H fun H => (.then (.Z0 12 rfl H fun b9 σ H => (.ZI (off := 0) (cs := [(vi r'.Low), (vi r'.High), (vb r'.HasLow), (vb r'.HasHigh)]) H 2 rfl rfl rfl rfl rfl rfl rfl nofun rfl ?_)))))
   refine .move (v := (vi x2.1)) rfl rfl (.call (ys := [(.agg [(vi r'.Low), (vi r'.High), (vb r'.HasLow), (vb r'.HasHigh)]), (vi x2.1)]) (r := (vb (ZA r' x2.1))) rfl (Z2R (rfl : ZA r' x2.1 = _)) rfl (.move (v := (vb (ZA r' x2.1))) rfl rfl ?_))
   refine .mid 8 (K1 := fun e σ => Z4 e [(62, (vb ((ZA r' x2.1) && (!(ZD x3.1 (w64 ((b.tmod 1099511627776) - (a.tmod 1099511627776))) x3.2))))), (4, (vi low)), (5, (vi high)), (6, (.ptr (b1 + 0) 4 0)), (9, (.ptr (b1 + 1) 4 0)), (13, (vi (a.tmod 1099511627776))), (14, (vi (b.tmod 1099511627776))), (15, (vi x2.1))] ∧ Has σ (b9 + 12) (b9 + 12) [.blk (b1 + 1) 27 [(vi r'.Low), (vi r'.High), (vb r'.HasLow), (vb r'.HasHigh)], .blk (b1 + 0) 25 (vF f)]) rfl ?_ ?_
   ·refine .split rfl rfl ?_ ?_ <;> intro hc3
    ·skip
     refine .wanted rfl rfl (.ZI (off := 0) (cs := [(.v (.int .i8 x3.1.Inf)), (vi x3.1.N)]) H 1 rfl rfl rfl rfl rfl rfl rfl nofun rfl (.wanted rfl rfl (.move (v := (vi (b.tmod 1099511627776))) rfl rfl (.wanted rfl rfl (.move (v := (vi (a.tmod 1099511627776))) rfl rfl ?_)))))
     refine .wanted rfl rfl (.int (m := (b.tmod 1099511627776)) (m' := (a.tmod 1099511627776)) (r := .int .i64 (w64 ((b.tmod 1099511627776) - (a.tmod 1099511627776)))) rfl rfl rfl rfl rfl (.wanted rfl rfl (.ZI (off := 0) (cs := [(.v (.int .i8 x3.2.Inf)), (vi x3.2.N)]) H 0 rfl rfl rfl rfl rfl rfl rfl nofun rfl (.wanted rfl rfl (.call (ys := [(.agg [(.v (.int .i8 x3.1.Inf)), (vi x3.1.N)]), (vi (w64 ((b.tmod 1099511627776) - (a.tmod 1099511627776)))), (.agg [(.v (.int .i8 x3.2.Inf)), (vi x3.2.N)])]) (r := (vb (ZD x3.1 (w64 ((b.tmod 1099511627776) - (a.tmod 1099511627776))) x3.2))) rfl (Z2W (rfl : ZD x3.1 (w64 ((b.tmod 1099511627776) - (a.tmod 1099511627776))) x3.2 = _)) rfl ?_)))))
     refine .wanted rfl rfl (.not (b := (ZD x3.1 (w64 ((b.tmod 1099511627776) - (a.tmod 1099511627776))) x3.2)) rfl rfl (.Zf (v := (vb (!(ZD x3.1 (w64 ((b.tmod 1099511627776) - (a.tmod 1099511627776))) x3.2)))) rfl rfl rfl (.nil ?_)))
     exact ⟨⟨Z15 hc3, rfl, rfl, rfl, rfl, rfl, rfl, rfl, trivial⟩, ((H.erase 1).erase 0).weak (by omega) (Nat.le_refl _)⟩
    ·skip
     refine .pass rfl rfl rfl (.pass rfl rfl rfl (.pass rfl rfl rfl (.pass rfl rfl rfl (.pass rfl rfl rfl (.pass rfl rfl rfl ?_)))))
     refine .pass rfl rfl rfl (.Zh (v := (vb false)) rfl rfl rfl (.nil ?_))
     exact ⟨⟨Z19 hc3, rfl, rfl, rfl, rfl, rfl, rfl, rfl, trivial⟩, ((H.erase 1).erase 0).weak (by omega) (Nat.le_refl _)⟩
   ·rintro e σ ⟨he, H⟩
    obtain ⟨e, rfl⟩ := he.ex
    refine .nila H fun H => ?_
    refine .whether (v := ((ZA r' x2.1) && (!(ZD x3.1 (w64 ((b.tmod 1099511627776) - (a.tmod 1099511627776))) x3.2)))) rfl ?_ ?_ <;> intro hc4
    ·replace h := Z7 hc4 h
     refine .then (.Z0 1 rfl H fun b10 σ H => (.assign (v := (vb false)) rfl rfl (.nila H fun H => (.ret ?_))))
     replace h := sj h; subst h
     exact (Ends.H (xs := [(vb false)]) (.inr rfl) H (.tmp (v := (vb false)) rfl .nil) (.one (.c (.v _))))
    ·replace h := Z8 hc4 h
     refine .skip (.then (.Z0 8 rfl H fun b11 σ H => (.move (v := (vi low)) rfl rfl (.Z0I (cs := [(.v (.int .i8 0)), (vi low)]) rfl rfl (.move (v := (vi high)) rfl rfl ?_)))))
     refine .Z0I (cs := [(.v (.int .i8 0)), (vi high)]) rfl rfl (.Zk (cs := [(.v (.int .i8 0)), (vi 0)]) H (by omega) (by omega) rfl rfl fun σ H => (.Zk (cs := [(.v (.int .i8 0)), (vi 0)]) H (by omega) (by omega) rfl rfl fun σ H => (.ZV (off := 0) (cells' := [(.v (.int .i8 0)), (vi low)]) H 1 rfl rfl rfl rfl rfl rfl rfl rfl rfl nofun fun σ H => (.ZV (off := 0) (cells' := [(.v (.int .i8 0)), (vi high)]) H 0 rfl rfl rfl rfl rfl rfl rfl rfl rfl nofun fun σ H => (.nila H fun H => ?_)))))
     refine .then ?_
     obtain ⟨y1, hj1, h⟩ := bind_some h
     refine .mono (Q := fun x e σ => x = .normal ∧ Z4 e [(6, (.ptr (b1 + 0) 4 0)), (9, (.ptr (b1 + 1) 4 0)), (13, (vi (a.tmod 1099511627776))), (14, (vi (b.tmod 1099511627776))), (15, (vi x2.1)), (19, (.ptr (b11 + 4) 2 0)), (20, (.ptr (b11 + 5) 2 0))] ∧ Hs σ [.blk (b11 + 5) 32 [(.v (.int .i8 0)), (vi high)], .blk (b11 + 4) 32 [(.v (.int .i8 y1.1)), (vi y1.2)], .blk (b1 + 1) 27 [(vi r'.Low), (vi r'.High), (vb r'.HasLow), (vb r'.HasHigh)], .blk (b1 + 0) 25 (vF f)]) ?_ ?_
     ·replace h := hj1
      refine .then (.Z0 3 rfl H fun b12 σ H => (.Z2 (off := 0) (fo := 2) H 2 rfl rfl rfl rfl rfl nofun rfl (.ZC (off := 2) (v := (vb r'.HasLow)) H 2 rfl rfl rfl rfl rfl nofun rfl (.not (b := r'.HasLow) rfl rfl (.nila H fun H => ?_)))))
      refine .whether (v := (!r'.HasLow)) rfl ?_ ?_ <;> intro hc5
      ·replace h := Z7 hc5 h
       refine .Z0 2 rfl H fun b13 σ H => (.Z0I (cs := [(.v (.int .i8 (-1))), (vi 0)]) rfl rfl (.ZV (off := 0) (cells' := [(.v (.int .i8 (-1))), (vi 0)]) H 1 rfl rfl rfl rfl rfl rfl rfl rfl rfl nofun fun σ H => (.nila H fun H => ?_)))
       replace h := sj h; subst h
       exact ⟨rfl, ⟨rfl, rfl, rfl, rfl, rfl, rfl, rfl, trivial⟩, H⟩
      ·replace h := Z8 hc5 h
       refine .skip ?_
       replace h := sj h; subst h
       exact ⟨rfl, ⟨rfl, rfl, rfl, rfl, rfl, rfl, rfl, trivial⟩, H⟩
     ·rintro x e σ ⟨rfl, he, H⟩
      obtain ⟨e, rfl⟩ := he.ex
      refine .then ?_
      obtain ⟨y2, hj2, h⟩ := bind_some h
      refine .mono (Q := fun x e σ => x = .normal ∧ Z4 e [(6, (.ptr (b1 + 0) 4 0)), (13, (vi (a.tmod 1099511627776))), (14, (vi (b.tmod 1099511627776))), (15, (vi x2.1)), (19, (.ptr (b11 + 4) 2 0)), (20, (.ptr (b11 + 5) 2 0))] ∧ Hs σ [.blk (b11 + 5) 32 [(.v (.int .i8 y2.1)), (vi y2.2)], .blk (b11 + 4) 32 [(.v (.int .i8 y1.1)), (vi y1.2)], .blk (b1 + 0) 25 (vF f)]) ?_ ?_
      ·replace h := hj2
       refine .then (.Z0 3 rfl H fun b14 σ H => (.Z2 (off := 0) (fo := 3) H 2 rfl rfl rfl rfl rfl nofun rfl (.ZC (off := 3) (v := (vb r'.HasHigh)) H 2 rfl rfl rfl rfl rfl nofun rfl (.not (b := r'.HasHigh) rfl rfl (.nila H fun H => ?_)))))
       refine .whether (v := (!r'.HasHigh)) rfl ?_ ?_ <;> intro hc6
       ·replace h := Z7 hc6 h
        refine .Z0 2 rfl H fun b15 σ H => (.Z0I (cs := [(.v (.int .i8 1)), (vi 0)]) rfl rfl (.ZV (off := 0) (cells' := [(.v (.int .i8 1)), (vi 0)]) H 0 rfl rfl rfl rfl rfl rfl rfl rfl rfl nofun fun σ H => (.nila H fun H => ?_)))
        replace h := sj h; subst h
        exact ⟨rfl, ⟨rfl, rfl, rfl, rfl, rfl, rfl, trivial⟩, (H.erase 2)⟩
       ·replace h := Z8 hc6 h
        refine .skip ?_
        replace h := sj h; subst h
        exact ⟨rfl, ⟨rfl, rfl, rfl, rfl, rfl, rfl, trivial⟩, (H.erase 2)⟩
      ·rintro x e σ ⟨rfl, he, H⟩
       obtain ⟨e, rfl⟩ := he.ex
       refine .then (.Z0 12 rfl H fun b16 σ H => (.ZI (off := 0) (cs := (vF f)) H 2 rfl rfl rfl rfl rfl rfl rfl nofun rfl (.ZI (off := 0) (cs := [(.v (.int .i8 y1.1)), (vi y1.2)]) H 1 rfl rfl rfl rfl rfl rfl rfl nofun rfl (.ZI (off := 0) (cs := [(.v (.int .i8 y2.1)), (vi y2.2)]) H 0 rfl rfl rfl rfl rfl rfl rfl nofun rfl ?_))))
       obtain ⟨x4, q4, h⟩ := bind_some h
       refine .call (ys := [(.agg (vF f)), (.agg [(.v (.int .i8 y1.1)), (vi y1.2)]), (.agg [(.v (.int .i8 y2.1)), (vi y2.2)])]) (r := (.tup [(.agg [(vi x4.1.Low), (vi x4.1.High), (vb x4.1.HasLow), (vb x4.1.HasHigh)]), (vb x4.2.1), (vi x4.2.2)])) rfl (Z4R q4) rfl (.move (v := (.tup [(.agg [(vi x4.1.Low), (vi x4.1.High), (vb x4.1.HasLow), (vb x4.1.HasHigh)]), (vb x4.2.1), (vi x4.2.2)])) rfl rfl (.extract (v := (.agg [(vi x4.1.Low), (vi x4.1.High), (vb x4.1.HasLow), (vb x4.1.HasHigh)])) rfl rfl rfl (.extract (v := (vb x4.2.1)) rfl rfl rfl (.extract (v := (vi x4.2.2)) rfl rfl rfl (.Zk (cs := [(vi 0), (vi 0), (vb false), (vb false)]) H (by omega) (by omega) rfl rfl fun σ H => ?_)))))
       refine .ZV (off := 0) (cells' := [(vi x4.1.Low), (vi x4.1.High), (vb x4.1.HasLow), (vb x4.1.HasHigh)]) H 0 rfl rfl rfl rfl rfl rfl rfl rfl rfl nofun fun σ H => (.assign (v := (vb x4.2.1)) rfl rfl (.assign (v := (vi x4.2.2)) rfl rfl (.nila H fun H => (.then (.then ?_)))))
       refine .Z0 2 rfl H fun b17 σ H => (.move (v := (vi x4.2.2)) rfl rfl (.int (m := x4.2.2) (m' := 0) (r := .bool (x4.2.2 != 0)) rfl rfl rfl rfl rfl (.nila H fun H => ?_)))
       refine .whether (v := (x4.2.2 != 0)) rfl ?_ ?_ <;> intro hc7
       ·replace h := Z7 hc7 h
        refine .then (.Z0 1 rfl H fun b18 σ H => (.assign (v := (vb false)) rfl rfl (.nila H fun H => (.ret ?_))))
        replace h := sj h; subst h
        exact (Ends.H (xs := [(vb false)]) (.inr rfl) H (.tmp (v := (vb false)) rfl .nil) (.one (.c (.v _))))
       ·replace h := Z8 hc7 h
        refine .skip (.then (.then (.Z0 16 rfl H fun b19 σ H => (.ZI (off := 0) (cs := [(.v (.int .i8 y1.1)), (vi y1.2)]) H 2 rfl rfl rfl rfl rfl rfl rfl nofun rfl (.move (v := (vi (b.tmod 1099511627776))) rfl rfl ?_)))))
        refine .move (v := (vi (a.tmod 1099511627776))) rfl rfl (.int (m := (b.tmod 1099511627776)) (m' := (a.tmod 1099511627776)) (r := .int .i64 (w64 ((b.tmod 1099511627776) - (a.tmod 1099511627776)))) rfl rfl rfl rfl rfl (.ZI (off := 0) (cs := [(.v (.int .i8 y2.1)), (vi y2.2)]) H 1 rfl rfl rfl rfl rfl rfl rfl nofun rfl (.call (ys := [(.agg [(.v (.int .i8 y1.1)), (vi y1.2)]), (vi (w64 ((b.tmod 1099511627776) - (a.tmod 1099511627776)))), (.agg [(.v (.int .i8 y2.1)), (vi y2.2)])]) (r := (vb (ZD (Bound.mk y1.1 y1.2) (w64 ((b.tmod 1099511627776) - (a.tmod 1099511627776))) (Bound.mk y2.1 y2.2)))) rfl (Z2W (rfl : ZD (Bound.mk y1.1 y1.2) (w64 ((b.tmod 1099511627776) - (a.tmod 1099511627776))) (Bound.mk y2.1 y2.2) = _)) rfl (.move (v := (vb (ZD (Bound.mk y1.1 y1.2) (w64 ((b.tmod 1099511627776) - (a.tmod 1099511627776))) (Bound.mk y2.1 y2.2)))) rfl rfl ?_))))
        refine .mid 9 (K1 := fun e σ => Z4 e [(100, (vb ((ZD (Bound.mk y1.1 y1.2) (w64 ((b.tmod 1099511627776) - (a.tmod 1099511627776))) (Bound.mk y2.1 y2.2)) && ((!x4.2.1) || (!(ZA x4.1 x2.1)))))), (6, (.ptr (b1 + 0) 4 0)), (13, (vi (a.tmod 1099511627776))), (14, (vi (b.tmod 1099511627776))), (15, (vi x2.1)), (21, (.ptr (b16 + 8) 4 0))] ∧ Has σ (b19 + 16) (b19 + 16) [.blk (b16 + 8) 27 [(vi x4.1.Low), (vi x4.1.High), (vb x4.1.HasLow), (vb x4.1.HasHigh)], .blk (b1 + 0) 25 (vF f)]) rfl ?_ ?_
        ·refine .split rfl rfl ?_ ?_ <;> intro hc8
         ·skip
          refine .wanted rfl rfl (.move (v := (vb x4.2.1)) rfl rfl (.wanted rfl rfl (.not (b := x4.2.1) rfl rfl (.wanted rfl rfl (.move (v := (vb (!x4.2.1))) rfl rfl ?_)))))
          refine .mid 5 (K1 := fun e σ => Z4 e [(99, (vb ((!x4.2.1) || (!(ZA x4.1 x2.1))))), (6, (.ptr (b1 + 0) 4 0)), (13, (vi (a.tmod 1099511627776))), (14, (vi (b.tmod 1099511627776))), (15, (vi x2.1)), (21, (.ptr (b16 + 8) 4 0)), (91, (vb true))] ∧ Has σ (b19 + 15) (b19 + 16) [.blk (b16 + 8) 27 [(vi x4.1.Low), (vi x4.1.High), (vb x4.1.HasLow), (vb x4.1.HasHigh)], .blk (b1 + 0) 25 (vF f)]) rfl ?_ ?_
          ·refine .split rfl rfl ?_ ?_ <;> intro hc9
           ·skip
            refine .pass rfl rfl rfl (.pass rfl rfl rfl (.pass rfl rfl rfl (.pass rfl rfl rfl (.wanted rfl rfl (.Zf (v := (vb true)) rfl rfl rfl ?_)))))
            refine .nil ?_
            exact ⟨⟨or_T hc9, rfl, rfl, rfl, rfl, rfl, rfl, trivial⟩, ((H.erase 2).erase 1).weak (by omega) (Nat.le_refl _)⟩
           ·skip
            refine .wanted rfl rfl (.ZI (off := 0) (cs := [(vi x4.1.Low), (vi x4.1.High), (vb x4.1.HasLow), (vb x4.1.HasHigh)]) H 0 rfl rfl rfl rfl rfl rfl rfl nofun rfl (.wanted rfl rfl (.move (v := (vi x2.1)) rfl rfl (.wanted rfl rfl (.call (ys := [(.agg [(vi x4.1.Low), (vi x4.1.High), (vb x4.1.HasLow), (vb x4.1.HasHigh)]), (vi x2.1)]) (r := (vb (ZA x4.1 x2.1))) rfl (Z2R (rfl : ZA x4.1 x2.1 = _)) rfl ?_)))))
            refine .wanted rfl rfl (.not (b := (ZA x4.1 x2.1)) rfl rfl (.wanted rfl rfl (.Zh (v := (vb (!(ZA x4.1 x2.1)))) rfl rfl rfl (.nil ?_))))
            exact ⟨⟨or_F hc9, rfl, rfl, rfl, rfl, rfl, rfl, trivial⟩, ((H.erase 2).erase 1).weak (by omega) (Nat.le_refl _)⟩
          ·rintro e σ ⟨he, H⟩
           obtain ⟨e, rfl⟩ := he.ex
           refine .Zf (v := (vb ((!x4.2.1) || (!(ZA x4.1 x2.1))))) rfl rfl rfl (.nil ?_)
           exact ⟨⟨Z15 hc8, rfl, rfl, rfl, rfl, rfl, trivial⟩, H.weak (by omega) (Nat.le_refl _)⟩
         ·skip
          refine .pass rfl rfl rfl (.pass rfl rfl rfl (.pass rfl rfl rfl (.Z00 rfl rfl rfl (.Z00 rfl rfl rfl (.Z00 rfl rfl rfl ?_)))))
          refine .Z00 rfl rfl rfl (.pass rfl rfl rfl (.Zh (v := (vb false)) rfl rfl rfl (.nil ?_)))
          exact ⟨⟨Z19 hc8, rfl, rfl, rfl, rfl, rfl, trivial⟩, ((H.erase 2).erase 1).weak (by omega) (Nat.le_refl _)⟩
        ·rintro e σ ⟨he, H⟩
         obtain ⟨e, rfl⟩ := he.ex
         refine .nila H fun H => ?_
         refine .whether (v := ((ZD (Bound.mk y1.1 y1.2) (w64 ((b.tmod 1099511627776) - (a.tmod 1099511627776))) (Bound.mk y2.1 y2.2)) && ((!x4.2.1) || (!(ZA x4.1 x2.1))))) rfl ?_ ?_ <;> intro hc10
         ·replace h := Z7 hc10 h
          refine .then (.Z0 1 rfl H fun b20 σ H => (.assign (v := (vb false)) rfl rfl (.nila H fun H => (.ret ?_))))
          replace h := sj h; subst h
          exact (Ends.H (xs := [(vb false)]) (.inr rfl) H (.tmp (v := (vb false)) rfl .nil) (.one (.c (.v _))))
         ·replace h := Z8 hc10 h
          refine .skip (.then (.Z0 6 rfl H fun b21 σ H => (.move (v := (vi (b.tmod 1099511627776))) rfl rfl (.move (v := (vi (a.tmod 1099511627776))) rfl rfl (.int (m := (b.tmod 1099511627776)) (m' := (a.tmod 1099511627776)) (r := .int .i64 (w64 ((b.tmod 1099511627776) - (a.tmod 1099511627776)))) rfl rfl rfl rfl rfl ?_)))))
          refine .Z0I (cs := [(.v (.int .i8 0)), (vi (w64 ((b.tmod 1099511627776) - (a.tmod 1099511627776))))]) rfl rfl (.Zk (cs := [(.v (.int .i8 0)), (vi 0)]) H (by omega) (by omega) rfl rfl fun σ H => (.ZV (off := 0) (cells' := [(.v (.int .i8 0)), (vi (w64 ((b.tmod 1099511627776) - (a.tmod 1099511627776))))]) H 0 rfl rfl rfl rfl rfl rfl rfl rfl rfl nofun fun σ H => (.nila H fun H => (.then (.Z0 11 rfl H fun b22 σ H => ?_)))))
          refine .ZI (off := 0) (cs := (vF f)) H 2 rfl rfl rfl rfl rfl rfl rfl nofun rfl (.ZI (off := 0) (cs := [(.v (.int .i8 0)), (vi (w64 ((b.tmod 1099511627776) - (a.tmod 1099511627776))))]) H 0 rfl rfl rfl rfl rfl rfl rfl nofun rfl (.ZI (off := 0) (cs := [(.v (.int .i8 0)), (vi (w64 ((b.tmod 1099511627776) - (a.tmod 1099511627776))))]) H 0 rfl rfl rfl rfl rfl rfl rfl nofun rfl ?_))
          obtain ⟨x5, q5, h⟩ := bind_some h
          refine .call (ys := [(.agg (vF f)), (.agg [(.v (.int .i8 0)), (vi (w64 ((b.tmod 1099511627776) - (a.tmod 1099511627776))))]), (.agg [(.v (.int .i8 0)), (vi (w64 ((b.tmod 1099511627776) - (a.tmod 1099511627776))))])]) (r := (.tup [(.agg [(vi x5.1.Low), (vi x5.1.High), (vb x5.1.HasLow), (vb x5.1.HasHigh)]), (vb x5.2.1), (vi x5.2.2)])) rfl (Z4R q5) rfl (.move (v := (.tup [(.agg [(vi x5.1.Low), (vi x5.1.High), (vb x5.1.HasLow), (vb x5.1.HasHigh)]), (vb x5.2.1), (vi x5.2.2)])) rfl rfl (.extract (v := (.agg [(vi x5.1.Low), (vi x5.1.High), (vb x5.1.HasLow), (vb x5.1.HasHigh)])) rfl rfl rfl (.extract (v := (vb x5.2.1)) rfl rfl rfl (.extract (v := (vi x5.2.2)) rfl rfl rfl (.ZV (off := 0) (cells' := [(vi x5.1.Low), (vi x5.1.High), (vb x5.1.HasLow), (vb x5.1.HasHigh)]) H 1 rfl rfl rfl rfl rfl rfl rfl rfl rfl nofun fun σ H => ?_)))))
          refine .assign (v := (vb x5.2.1)) rfl rfl (.assign (v := (vi x5.2.2)) rfl rfl (.nila H fun H => (.then (.Z0w 12 rfl (by kernel_rfl) H fun b23 σ H B23 => (.ZI (off := 0) (cs := (vF f)) H 2 rfl rfl rfl rfl rfl rfl rfl (fun _ => .inl ⟨B23 2 _ rfl _ rfl, nofun, (fun _ => by kernel_rfl)⟩) rfl ?_)))))
          refine .move (v := (vi x2.1)) rfl rfl (.move (v := (vi x2.1)) rfl rfl (.call (ys := [(vi x2.1), (vi x2.1)]) (r := (.agg [(vi (Z5 x2.1 x2.1).Low), (vi (Z5 x2.1 x2.1).High), (vb (Z5 x2.1 x2.1).HasLow), (vb (Z5 x2.1 x2.1).HasHigh)])) rfl (Z1F rfl) rfl ?_))
          obtain ⟨x6, q6, h⟩ := bind_some h
          refine .call (ys := [(.agg (vF f)), (.agg [(vi (Z5 x2.1 x2.1).Low), (vi (Z5 x2.1 x2.1).High), (vb (Z5 x2.1 x2.1).HasLow), (vb (Z5 x2.1 x2.1).HasHigh)])]) (r := (.tup [(.agg [(.v (.int .i8 x6.1.Inf)), (vi x6.1.N)]), (.agg [(.v (.int .i8 x6.2.Inf)), (vi x6.2.N)])])) rfl (Z4V q6) rfl (.move (v := (.tup [(.agg [(.v (.int .i8 x6.1.Inf)), (vi x6.1.N)]), (.agg [(.v (.int .i8 x6.2.Inf)), (vi x6.2.N)])])) rfl rfl (.extract (v := (.agg [(.v (.int .i8 x6.1.Inf)), (vi x6.1.N)])) rfl rfl rfl (.extract (v := (.agg [(.v (.int .i8 x6.2.Inf)), (vi x6.2.N)])) rfl rfl rfl (.Zk (cs := [(.v (.int .i8 0)), (vi 0)]) H (by omega) (by omega) rfl rfl fun σ H => (.Zk (cs := [(.v (.int .i8 0)), (vi 0)]) H (by omega) (by omega) rfl rfl fun σ H => ?_)))))
          refine .ZV (off := 0) (cells' := [(.v (.int .i8 x6.1.Inf)), (vi x6.1.N)]) H 1 rfl rfl rfl rfl rfl rfl rfl rfl rfl (fun _ => .inr ⟨8, rfl, by kernel_rfl, by decide⟩) fun σ H => (.ZV (off := 0) (cells' := [(.v (.int .i8 x6.2.Inf)), (vi x6.2.N)]) H 0 rfl rfl rfl rfl rfl rfl rfl rfl rfl (fun _ => .inr ⟨9, rfl, by kernel_rfl, by decide⟩) fun σ H => (.nila H fun H => (.then (.Z0 22 rfl H fun b24 σ H => (.move (v := (vi x5.2.2)) rfl rfl ?_)))))
          refine .int (m := x5.2.2) (m' := 0) (r := .bool (x5.2.2 == 0)) rfl rfl rfl rfl rfl (.move (v := (vb (x5.2.2 == 0))) rfl rfl ?_)
          refine .mid 2 (K1 := fun e σ => Z4 e [(125, (vb ((x5.2.2 == 0) && x5.2.1))), (13, (vi (a.tmod 1099511627776))), (14, (vi (b.tmod 1099511627776))), (15, (vi x2.1)), (21, (.ptr (b16 + 8) 4 0)), (25, (.ptr (b23 + 8) 2 0)), (26, (.ptr (b23 + 9) 2 0))] ∧ Has σ (b24 + 5) (b24 + 22) [.blk (b23 + 9) 32 [(.v (.int .i8 x6.2.Inf)), (vi x6.2.N)], .blk (b23 + 8) 32 [(.v (.int .i8 x6.1.Inf)), (vi x6.1.N)], .blk (b16 + 8) 27 [(vi x5.1.Low), (vi x5.1.High), (vb x5.1.HasLow), (vb x5.1.HasHigh)]]) rfl ?_ ?_
          ·refine .split rfl rfl ?_ ?_ <;> intro hc11
           ·skip
            refine .wanted rfl rfl (.move (v := (vb x5.2.1)) rfl rfl (.Zf (v := (vb x5.2.1)) rfl rfl rfl (.nil ?_)))
            exact ⟨⟨Z15 hc11, rfl, rfl, rfl, rfl, rfl, rfl, trivial⟩, ((H.erase 4).erase 2).weak (by omega) (Nat.le_refl _)⟩
           ·skip
            refine .pass rfl rfl rfl (.Zh (v := (vb false)) rfl rfl rfl (.nil ?_))
            exact ⟨⟨Z19 hc11, rfl, rfl, rfl, rfl, rfl, rfl, trivial⟩, ((H.erase 4).erase 2).weak (by omega) (Nat.le_refl _)⟩
          ·rintro e σ ⟨he, H⟩
           obtain ⟨e, rfl⟩ := he.ex
           refine .move (v := (vb ((x5.2.2 == 0) && x5.2.1))) rfl rfl ?_
           refine .mid 4 (K1 := fun e σ => Z4 e [(130, (vb (((x5.2.2 == 0) && x5.2.1) && (ZA x5.1 x2.1)))), (13, (vi (a.tmod 1099511627776))), (14, (vi (b.tmod 1099511627776))), (25, (.ptr (b23 + 8) 2 0)), (26, (.ptr (b23 + 9) 2 0))] ∧ Has σ (b24 + 10) (b24 + 22) [.blk (b23 + 9) 32 [(.v (.int .i8 x6.2.Inf)), (vi x6.2.N)], .blk (b23 + 8) 32 [(.v (.int .i8 x6.1.Inf)), (vi x6.1.N)]]) rfl ?_ ?_
           ·refine .split rfl rfl ?_ ?_ <;> intro hc12
            ·skip
             refine .wanted rfl rfl (.ZI (off := 0) (cs := [(vi x5.1.Low), (vi x5.1.High), (vb x5.1.HasLow), (vb x5.1.HasHigh)]) H 2 rfl rfl rfl rfl rfl rfl rfl nofun rfl (.wanted rfl rfl (.move (v := (vi x2.1)) rfl rfl (.wanted rfl rfl (.call (ys := [(.agg [(vi x5.1.Low), (vi x5.1.High), (vb x5.1.HasLow), (vb x5.1.HasHigh)]), (vi x2.1)]) (r := (vb (ZA x5.1 x2.1))) rfl (Z2R (rfl : ZA x5.1 x2.1 = _)) rfl ?_)))))
             refine .Zf (v := (vb (ZA x5.1 x2.1))) rfl rfl rfl (.nil ?_)
             exact ⟨⟨Z15 hc12, rfl, rfl, rfl, rfl, trivial⟩, (H.erase 2).weak (by omega) (Nat.le_refl _)⟩
            ·skip
             refine .pass rfl rfl rfl (.pass rfl rfl rfl (.pass rfl rfl rfl (.Zh (v := (vb false)) rfl rfl rfl (.nil ?_))))
             exact ⟨⟨Z19 hc12, rfl, rfl, rfl, rfl, trivial⟩, (H.erase 2).weak (by omega) (Nat.le_refl _)⟩
           ·rintro e σ ⟨he, H⟩
            obtain ⟨e, rfl⟩ := he.ex
            refine .move (v := (vb (((x5.2.2 == 0) && x5.2.1) && (ZA x5.1 x2.1)))) rfl rfl ?_
            refine .mid 7 (K1 := fun e σ => Z4 e [(138, (vb ((((x5.2.2 == 0) && x5.2.1) && (ZA x5.1 x2.1)) && (ZD x6.1 (w64 ((b.tmod 1099511627776) - (a.tmod 1099511627776))) x6.2))))] ∧ Has σ (b24 + 18) (b24 + 22) []) rfl ?_ ?_
            ·refine .split rfl rfl ?_ ?_ <;> intro hc13
             ·skip
              refine .wanted rfl rfl (.ZI (off := 0) (cs := [(.v (.int .i8 x6.1.Inf)), (vi x6.1.N)]) H 1 rfl rfl rfl rfl rfl rfl rfl nofun rfl (.wanted rfl rfl (.move (v := (vi (b.tmod 1099511627776))) rfl rfl (.wanted rfl rfl (.move (v := (vi (a.tmod 1099511627776))) rfl rfl ?_)))))
              refine .wanted rfl rfl (.int (m := (b.tmod 1099511627776)) (m' := (a.tmod 1099511627776)) (r := .int .i64 (w64 ((b.tmod 1099511627776) - (a.tmod 1099511627776)))) rfl rfl rfl rfl rfl (.wanted rfl rfl (.ZI (off := 0) (cs := [(.v (.int .i8 x6.2.Inf)), (vi x6.2.N)]) H 0 rfl rfl rfl rfl rfl rfl rfl nofun rfl (.wanted rfl rfl (.call (ys := [(.agg [(.v (.int .i8 x6.1.Inf)), (vi x6.1.N)]), (vi (w64 ((b.tmod 1099511627776) - (a.tmod 1099511627776)))), (.agg [(.v (.int .i8 x6.2.Inf)), (vi x6.2.N)])]) (r := (vb (ZD x6.1 (w64 ((b.tmod 1099511627776) - (a.tmod 1099511627776))) x6.2))) rfl (Z2W (rfl : ZD x6.1 (w64 ((b.tmod 1099511627776) - (a.tmod 1099511627776))) x6.2 = _)) rfl ?_)))))
              refine .Zf (v := (vb (ZD x6.1 (w64 ((b.tmod 1099511627776) - (a.tmod 1099511627776))) x6.2))) rfl rfl rfl (.nil ?_)
              exact ⟨⟨Z15 hc13, trivial⟩, ((H.erase 1).erase 0).weak (by omega) (Nat.le_refl _)⟩
             ·skip
              refine .pass rfl rfl rfl (.pass rfl rfl rfl (.pass rfl rfl rfl (.pass rfl rfl rfl (.pass rfl rfl rfl (.pass rfl rfl rfl ?_)))))
              refine .Zh (v := (vb false)) rfl rfl rfl (.nil ?_)
              exact ⟨⟨Z19 hc13, trivial⟩, ((H.erase 1).erase 0).weak (by omega) (Nat.le_refl _)⟩
            ·rintro e σ ⟨he, H⟩
             obtain ⟨e, rfl⟩ := he.ex
             refine .move (v := (vb ((((x5.2.2 == 0) && x5.2.1) && (ZA x5.1 x2.1)) && (ZD x6.1 (w64 ((b.tmod 1099511627776) - (a.tmod 1099511627776))) x6.2)))) rfl rfl ?_
             refine .mid 2 (K1 := fun e σ => Z4 e [(141, (vb (((((x5.2.2 == 0) && x5.2.1) && (ZA x5.1 x2.1)) && (ZD x6.1 (w64 ((b.tmod 1099511627776) - (a.tmod 1099511627776))) x6.2)) && ZY)))] ∧ Has σ (b24 + 21) (b24 + 22) []) rfl ?_ ?_
             ·refine .split rfl rfl ?_ ?_ <;> intro hc14
              ·skip
               refine .wanted rfl rfl (.call (ys := []) (r := (vb ZY)) rfl (Z2q rfl) rfl (.Zf (v := (vb ZY)) rfl rfl rfl (.nil ?_)))
               exact ⟨⟨Z15 hc14, trivial⟩, H.weak (by omega) (Nat.le_refl _)⟩
              ·skip
               refine .pass rfl rfl rfl (.Zh (v := (vb false)) rfl rfl rfl (.nil ?_))
               exact ⟨⟨Z19 hc14, trivial⟩, H.weak (by omega) (Nat.le_refl _)⟩
             ·rintro e σ ⟨he, H⟩
              obtain ⟨e, rfl⟩ := he.ex
              refine .assign (v := (vb (((((x5.2.2 == 0) && x5.2.1) && (ZA x5.1 x2.1)) && (ZD x6.1 (w64 ((b.tmod 1099511627776) - (a.tmod 1099511627776))) x6.2)) && ZY))) rfl rfl (.nila H fun H => (.ret ?_))
              replace h := sj h; subst h
              exact (Ends.H (xs := [(vb (((((x5.2.2 == 0) && x5.2.1) && (ZA x5.1 x2.1)) && (ZD x6.1 (w64 ((b.tmod 1099511627776) - (a.tmod 1099511627776))) x6.2)) && ZY))]) (.inr rfl) H (.tmp (v := (vb (((((x5.2.2 == 0) && x5.2.1) && (ZA x5.1 x2.1)) && (ZD x6.1 (w64 ((b.tmod 1099511627776) - (a.tmod 1099511627776))) x6.2)) && ZY))) rfl .nil) (.one (.c (.v _))))

end Go.Dn

namespace Go.Dn
open Go

theorem Z0p {S R : Type} {step : S → Option (S ⊕ R)} (I : S → Prop) (m : S → Nat) (post : R → Prop)
  (h : ∀ s, I s → (∃ s', step s = some (.inl s') ∧ I s' ∧ m s' < m s) ∨ (∃ r, step s = some (.inr r) ∧ post r)) : ∀ s, I s → ∃ r, ZO step s = some r ∧ post r := by
 have key : ∀ n s, m s = n → I s → ∃ r, ZO step s = some r ∧ post r := by
  intro n
  induction n using Nat.strongRecOn with
  | _ n ih =>
   intro s hm hI
   rcases h s hI with ⟨s', h1, h2, h3⟩ | ⟨r, h1, h2⟩
   ·obtain ⟨r, q1, q2⟩ := ih (m s') (by omega) s' rfl h2
    exact ⟨r, by rw [Z29, h1]; exact q1, q2⟩
   ·exact ⟨r, by rw [Z29, h1], h2⟩
 exact fun s hI => key _ s rfl hI

theorem Z1t {S R : Type} {step : S → Option (S ⊕ R)} (I : S → R → Prop) (m : S → Nat)
  (h : ∀ s r, I s r → (∃ s', step s = some (.inl s') ∧ I s' r ∧ m s' < m s) ∨ step s = some (.inr r)) {s : S} {r : R} (hI : I s r) : ZO step s = some r := by
 obtain ⟨r', h1, h2⟩ := Z0p (I := fun s => I s r) m (fun r' => r' = r) (fun s hs => by
  rcases h s r hs with ⟨s', h1, h2, h3⟩ | h1
  ·exact .inl ⟨s', h1, h2, h3⟩
  ·exact .inr ⟨r, h1, rfl⟩) s hI
 rw [h1, h2]

theorem Z4K (a : Int) : IntKind.i64.wrap a = (a + 9223372036854775808) % 18446744073709551616 - 9223372036854775808 := by
 simp [IntKind.wrap, IntKind.bits, IntKind.signed]
 split <;> omega
theorem Z4M (a : Int) : IntKind.u64.wrap a = a % 18446744073709551616 := by
 simp [IntKind.wrap, IntKind.bits, IntKind.signed]
theorem okI_i64 {x : Int} : okI .i64 x ↔ -9223372036854775808 ≤ x ∧ x ≤ 9223372036854775807 := Iff.rfl
theorem ZX {x : Int} (h : -9223372036854775808 ≤ x ∧ x ≤ 9223372036854775807) : w64 x = x := by
 unfold w64; rw [Z4K]; omega
theorem Z8E : maxLen = 9223372036854775807 := rfl
theorem Z7h : room = 140737488355328 := rfl

theorem at?_lt {α : Type} {l : List α} {i : Int} (h0 : 0 ≤ i) (h : i < l.length) : at? l i = some (l[i.toNat]'(by omega)) := by
 unfold at?; rw [if_pos h0, List.getElem?_eq_getElem]
theorem at?_nat {α : Type} {l : List α} {k : Nat} (h : k < l.length) : at? l (k : Int) = some l[k] := by
 rw [at?_lt (by omega) (by omega)]; rfl
theorem app?_ok {α : Type} {b : Nat} {l m : List α} (h : (l.length + m.length) * b ≤ room) : app? b l m = some (l ++ m) := if_pos h
theorem nz?_ok {b : Int} (h : b ≠ 0) : nz? b = some () := if_neg h

theorem beq_t {a b : Int} (h : a = b) : (a == b) = true := by simp [h]
theorem beq_f {a b : Int} (h : a ≠ b) : (a == b) = false := by simp [h]
theorem bne_t {a b : Int} (h : a ≠ b) : (a != b) = true := by simp [h]
theorem bne_f {a b : Int} (h : a = b) : (a != b) = false := by simp [h]
theorem ibeq (a b : Int) : (a == b) = decide (a = b) := by by_cases h : a = b <;> simp [h]
theorem Zj {p : Prop} [Decidable p] (h : p) : decide p = true := by simp [h]
theorem Zm {p : Prop} [Decidable p] (h : ¬ p) : decide p = false := by simp [h]

theorem pickB {α : Type} (c : Bool) (a b : α) : (bif c then a else b) = if c = true then a else b := by cases c <;> rfl

theorem Z8d {α : Type} {l : List α} {good : Nat → α → Prop} (h : ¬ ∀ k x, l[k]? = some x → good k x) : ∃ (k : Nat) (x : α), l[k]? = some x ∧ ¬ good k x ∧ ∀ j y, j < k → l[j]? = some y → good j y := by
 have hex : ∃ k : Nat, ∃ x, l[k]? = some x ∧ ¬ good k x := by
  apply Classical.byContradiction
  intro hn
  exact h fun k x hk => Classical.byContradiction fun hg => hn ⟨k, x, hk, hg⟩
 obtain ⟨k, hk⟩ := hex
 induction k using Nat.strongRecOn with
 | _ k ih =>
  by_cases h : ∃ j, j < k ∧ ∃ x, l[j]? = some x ∧ ¬ good j x
  ·obtain ⟨j, hj, hx⟩ := h
   exact ih j hj hx
  ·obtain ⟨x, hx, hb⟩ := hk
   exact ⟨k, x, hx, hb, fun j y hj hy => Classical.byContradiction fun hg => h ⟨j, hj, y, hy, hg⟩⟩

theorem Z3q {α R : Type} {l : List α} {step : Int → Option (Int ⊕ R)} (good : Nat → α → Prop) {no yes : R}
  (hstep : ∀ (k : Nat) (x : α), l[k]? = some x → (∀ j y, j < k → l[j]? = some y → good j y) → (step (k : Int) = some (.inl ((k : Int) + 1)) ∧ good k x) ∨ (step (k : Int) = some (.inr no) ∧ ¬ good k x))
  (hend : step (l.length : Int) = some (.inr yes)) : (ZO step 0 = some yes ∧ ∀ k x, l[k]? = some x → good k x) ∨ (ZO step 0 = some no ∧ ¬ ∀ k x, l[k]? = some x → good k x) := by
 by_cases hall : ∀ k x, l[k]? = some x → good k x
 ·refine .inl ⟨?_, hall⟩
  refine Z1t (I := fun (s : Int) r => r = yes ∧ ∃ k : Nat, s = k ∧ k ≤ l.length) (fun s => (l.length - s.toNat)) ?_ ⟨rfl, 0, rfl, Nat.zero_le _⟩
  rintro s r ⟨rfl, k, rfl, hk⟩
  by_cases hlt : k < l.length
  ·rcases hstep k l[k] (List.getElem?_eq_getElem hlt) (fun j y _ hy => hall j y hy) with ⟨h1, _⟩ | ⟨_, h2⟩
   ·exact .inl ⟨_, h1, ⟨rfl, k + 1, by push_cast; rfl, hlt⟩, by simp; omega⟩
   ·exact absurd (hall k _ (List.getElem?_eq_getElem hlt)) h2
  ·have : k = l.length := by omega
   subst this
   exact .inr hend
 ·refine .inr ⟨?_, hall⟩
  obtain ⟨k0, x0, hx0, hb0, hgood⟩ := Z8d hall
  have hlt0 := (List.getElem?_eq_some_iff.1 hx0).1
  refine Z1t (I := fun (s : Int) r => r = no ∧ ∃ k : Nat, s = k ∧ k ≤ k0) (fun s => (l.length - s.toNat)) ?_ ⟨rfl, 0, rfl, Nat.zero_le _⟩
  rintro s r ⟨rfl, k, rfl, hk⟩
  by_cases hlt : k < k0
  ·have hkl : k < l.length := by omega
   rcases hstep k l[k] (List.getElem?_eq_getElem hkl) (fun j y hj hy => hgood j y (by omega) hy) with ⟨h1, _⟩ | ⟨_, h2⟩
   ·exact .inl ⟨_, h1, ⟨rfl, k + 1, by push_cast; rfl, hlt⟩, by simp; omega⟩
   ·exact absurd (hgood k _ hlt (List.getElem?_eq_getElem hkl)) h2
  ·have : k = k0 := by omega
   subst this
   rcases hstep k x0 hx0 hgood with ⟨_, h2⟩ | ⟨h1, _⟩
   ·exact absurd h2 hb0
   ·exact .inr h1

theorem fold_loop {α A R : Type} {l : List α} {step : A × Int → Option ((A × Int) ⊕ R)} (f : A → Nat → α → A) (fin : A → R) (I : Nat → A → Prop) {a0 : A} (h0 : I 0 a0)
  (hgo : ∀ (k : Nat) (x : α) (a : A), l[k]? = some x → I k a → step (a, (k : Int)) = some (.inl (f a k x, (k : Int) + 1)) ∧ I (k + 1) (f a k x))
  (hend : ∀ a, I l.length a → step (a, (l.length : Int)) = some (.inr (fin a))) : ∃ a, ZO step (a0, 0) = some (fin a) ∧ I l.length a := by
 obtain ⟨r, h1, a, rfl, h2⟩ := Z0p (step := step) (I := fun s => ∃ (k : Nat) (a : A), s = (a, (k : Int)) ∧ k ≤ l.length ∧ I k a) (fun s => l.length - s.2.toNat) (fun r => ∃ a, r = fin a ∧ I l.length a) (by
  rintro s ⟨k, a, rfl, hk, hI⟩
  by_cases hlt : k < l.length
  ·obtain ⟨q1, q2⟩ := hgo k l[k] a (List.getElem?_eq_getElem hlt) hI
   exact .inl ⟨_, q1, ⟨k + 1, _, by push_cast; rfl, hlt, q2⟩, by simp; omega⟩
  ·have : k = l.length := by omega
   subst this
   exact .inr ⟨_, hend a hI, a, rfl, hI⟩) (a0, 0) ⟨0, a0, rfl, Nat.zero_le _, h0⟩
 exact ⟨a, h1, h2⟩
end Go.Dn

namespace Go.Dn
open Go

def In64 (a : Int) : Prop := -9223372036854775808 ≤ a ∧ a ≤ 9223372036854775807
def Z6n (a : Int) : Prop := 0 ≤ a ∧ a ≤ 18446744073709551615
def fitS (a : Int) : Int × Int := if -9223372036854775808 ≤ a ∧ a ≤ 9223372036854775807 then (a, 0) else (0, 10)
theorem fitS_of {a : Int} (h : In64 a) : fitS a = (a, 0) := if_pos h
theorem fitS_not {a : Int} (h : ¬ In64 a) : fitS a = (0, 10) := if_neg h
theorem fit_or (x : Int) : (In64 x ∧ fitS x = (x, 0)) ∨ (¬ In64 x ∧ fitS x = (0, 10)) := by
 by_cases h : In64 x
 ·exact .inl ⟨h, fitS_of h⟩
 ·exact .inr ⟨h, fitS_not h⟩
theorem and32 (x : Int) (h : Z6n x) : (((BitVec.ofInt 64 x &&& BitVec.ofInt 64 4294967295).toNat : Nat) : Int) = x % 4294967296 := by
 obtain ⟨n, rfl⟩ := Int.eq_ofNat_of_zero_le h.1
 have hn : n < 2 ^ 64 := by have := h.2; omega
 have h1 : (BitVec.ofInt 64 (n : Int)).toNat = n := by simp [BitVec.toNat_ofInt]; omega
 have h2 : (BitVec.ofInt 64 4294967295).toNat = 2 ^ 32 - 1 := by decide
 rw [BitVec.toNat_and, h1, h2, Nat.and_two_pow_sub_one_eq_mod]
 omega

theorem mul64_fact {x y : Int} (hx : Z6n x) (hy : Z6n y) :
  (x / 4294967296 * (y / 4294967296) + (x / 4294967296 * (y % 4294967296) + x % 4294967296 * (y % 4294967296) / 4294967296) / 4294967296 +
   ((x / 4294967296 * (y % 4294967296) + x % 4294967296 * (y % 4294967296) / 4294967296) % 4294967296 + x % 4294967296 * (y / 4294967296)) / 4294967296) = x * y / 18446744073709551616 ∧
  0 ≤ x % 4294967296 * (y % 4294967296) ∧ x % 4294967296 * (y % 4294967296) ≤ 18446744065119617025 ∧
  0 ≤ x / 4294967296 * (y % 4294967296) ∧ x / 4294967296 * (y % 4294967296) ≤ 18446744065119617025 ∧
  0 ≤ x % 4294967296 * (y / 4294967296) ∧ x % 4294967296 * (y / 4294967296) ≤ 18446744065119617025 ∧
  0 ≤ x / 4294967296 * (y / 4294967296) ∧ x / 4294967296 * (y / 4294967296) ≤ 18446744065119617025 := by
 have b : ∀ {u v : Int}, 0 ≤ u → u ≤ 4294967295 → 0 ≤ v → v ≤ 4294967295 → 0 ≤ u * v ∧ u * v ≤ 18446744065119617025 := by
  intro u v h1 h2 h3 h4
  exact ⟨Int.mul_nonneg h1 h3, Int.le_trans (Int.mul_le_mul h2 h4 h3 (by omega)) (by decide)⟩
 obtain ⟨hx1, hx2⟩ := hx
 obtain ⟨hy1, hy2⟩ := hy
 obtain ⟨a1, a2⟩ := b (u := x % 4294967296) (v := y % 4294967296) (by omega) (by omega) (by omega) (by omega)
 obtain ⟨b1, b2⟩ := b (u := x / 4294967296) (v := y % 4294967296) (by omega) (by omega) (by omega) (by omega)
 obtain ⟨c1, c2⟩ := b (u := x % 4294967296) (v := y / 4294967296) (by omega) (by omega) (by omega) (by omega)
 obtain ⟨d1, d2⟩ := b (u := x / 4294967296) (v := y / 4294967296) (by omega) (by omega) (by omega) (by omega)
 refine ⟨?_, a1, a2, b1, b2, c1, c2, d1, d2⟩
 have e : x * y = x / 4294967296 * (y / 4294967296) * 18446744073709551616 + (x / 4294967296 * (y % 4294967296) + x % 4294967296 * (y / 4294967296)) * 4294967296 + x % 4294967296 * (y % 4294967296) := by
  have ex : x = x / 4294967296 * 4294967296 + x % 4294967296 := by omega
  have ey : y = y / 4294967296 * 4294967296 + y % 4294967296 := by omega
  clear a1 a2 b1 b2 c1 c2 d1 d2 b hx1 hx2 hy1 hy2
  generalize x / 4294967296 = x1 at *
  generalize x % 4294967296 = x0 at *
  generalize y / 4294967296 = y1 at *
  generalize y % 4294967296 = y0 at *
  subst ex ey
  simp only [Int.add_mul, Int.mul_add]
  have h1 : x1 * 4294967296 * (y1 * 4294967296) = x1 * y1 * 18446744073709551616 := by
   rw [Int.mul_assoc, Int.mul_comm 4294967296, Int.mul_assoc y1, ← Int.mul_assoc]
   rfl
  have h2 : x1 * 4294967296 * y0 = x1 * y0 * 4294967296 := by rw [Int.mul_assoc, Int.mul_comm 4294967296, ← Int.mul_assoc]
  have h3 : x0 * (y1 * 4294967296) = x0 * y1 * 4294967296 := by rw [← Int.mul_assoc]
  rw [h1, h2, h3]
  omega
 rw [e]
 generalize x / 4294967296 * (y / 4294967296) = d at *
 generalize x / 4294967296 * (y % 4294967296) = b' at *
 generalize x % 4294967296 * (y / 4294967296) = c at *
 generalize x % 4294967296 * (y % 4294967296) = a at *
 omega

theorem Z91 {a b : Int} (ha : In64 a) (hb : In64 b) : ZF a b = fitS (a + b) := by
 unfold In64 at ha hb
 unfold ZF fitS w64
 rw [Z4K]
 cases h : ((decide ((a + b + 9223372036854775808) % 18446744073709551616 - 9223372036854775808 > a) != decide (b > 0)) && b != 0)
 ·rw [cond_false]
  simp only [Bool.and_eq_false_iff, bne_eq_false_iff_eq, decide_eq_decide] at h
  split <;> simp only [Prod.mk.injEq, and_true] <;> omega
 ·rw [cond_true]
  simp only [Bool.and_eq_true, bne_iff_ne, ne_eq, decide_eq_decide] at h
  split <;> simp only [Prod.mk.injEq] <;> omega

theorem Z7x {a : Int} (h : In64 a) : ZJ a = a.natAbs := by
 unfold In64 at h
 unfold ZJ
 rw [pickB]
 simp only [decide_eq_true_eq, Z4M]
 split <;> omega

theorem inU_abs {a : Int} (h : In64 a) : Z6n a.natAbs := by unfold In64 at h; unfold Z6n; omega
theorem natAbs_prod (a b : Int) : (a.natAbs : Int) * b.natAbs = (a * b).natAbs := by rw [Int.natAbs_mul]; simp

theorem mul64_eq {x y : Int} (hx : Z6n x) (hy : Z6n y) : ZM x y = (x * y / 18446744073709551616, x * y % 18446744073709551616) := by
 unfold ZM
 have hb : ∀ z : Int, z.fdiv (2 ^ 32) = z / 4294967296 := fun z => Int.fdiv_eq_ediv_of_nonneg z (by decide)
 have hm : (IntKind.u64.bits) = 64 := rfl
 obtain ⟨h1, h2, h3, h4, h5, h6, h7, h8, h9⟩ := mul64_fact hx hy
 have hw : ∀ z : Int, 0 ≤ z → z ≤ 18446744073709551615 → IntKind.u64.wrap z = z := fun z q1 q2 => by rw [Z4M]; omega
 simp only [hb, iAnd]
 rw [hm, and32 x hx, and32 y hy]
 have x0 : 0 ≤ x % 4294967296 ∧ x % 4294967296 < 4294967296 := by omega
 have y0 : 0 ≤ y % 4294967296 ∧ y % 4294967296 < 4294967296 := by omega
 rw [hw (x % 4294967296) (by omega) (by omega), hw (y % 4294967296) (by omega) (by omega), hw _ h2 (by omega), hw _ h4 (by omega), hw _ h6 (by omega), hw _ h8 (by omega)]
 rw [hw (x / 4294967296 * (y % 4294967296) + x % 4294967296 * (y % 4294967296) / 4294967296) (by omega) (by omega)]
 rw [and32 _ ⟨by omega, by omega⟩]
 have t0 : 0 ≤ (x / 4294967296 * (y % 4294967296) + x % 4294967296 * (y % 4294967296) / 4294967296) % 4294967296 ∧ (x / 4294967296 * (y % 4294967296) + x % 4294967296 * (y % 4294967296) / 4294967296) % 4294967296 < 4294967296 := by omega
 rw [hw ((x / 4294967296 * (y % 4294967296) + x % 4294967296 * (y % 4294967296) / 4294967296) % 4294967296) (by omega) (by omega)]
 rw [hw ((x / 4294967296 * (y % 4294967296) + x % 4294967296 * (y % 4294967296) / 4294967296) % 4294967296 + x % 4294967296 * (y / 4294967296)) (by omega) (by omega)]
 rw [hw (x / 4294967296 * (y / 4294967296) + (x / 4294967296 * (y % 4294967296) + x % 4294967296 * (y % 4294967296) / 4294967296) / 4294967296) (by omega) (by omega)]
 rw [hw _ (by omega) (by omega), h1, Z4M]

theorem Z9y {n : Int} (m : Bool) (h : Z6n n) : Z0O n m = fitS (if m then -n else n) := by
 unfold Z6n at h
 unfold Z0O fitS w64
 rw [pickB, pickB, Z4M, Z4K, Z4K]
 cases m <;> simp only [Bool.true_and, Bool.false_and, Bool.not_true, Bool.not_false, decide_eq_true_eq, Bool.false_eq_true, if_false, if_true]
 ·split
  ·rw [if_pos (by omega)]; simp only [Prod.mk.injEq, and_true]; omega
  ·rw [if_neg (by omega)]
 ·split
  ·rw [if_pos (by omega)]; simp only [Prod.mk.injEq, and_true]; omega
  ·rw [if_neg (by omega)]

theorem safe_Mul_eq {a b : Int} (ha : In64 a) (hb : In64 b) : Z0P a b = fitS (a * b) := by
 unfold Z0P
 rw [Z7x ha, Z7x hb, mul64_eq (inU_abs ha) (inU_abs hb), pickB]
 simp only [natAbs_prod]
 rw [Z9y _ (by unfold Z6n; omega)]
 by_cases h : ((a * b).natAbs : Int) / 18446744073709551616 = 0
 ·rw [if_neg (by simp [h])]
  have e : ((a * b).natAbs : Int) % 18446744073709551616 = (a * b).natAbs := by omega
  rw [e]
  show fitS _ = _
  refine congrArg fitS ?_
  by_cases h1 : a < 0 <;> by_cases h2 : b < 0 <;> simp only [h1, h2, decide_true, decide_false]
  ·have := Int.mul_nonneg_of_nonpos_of_nonpos (Int.le_of_lt h1) (Int.le_of_lt h2)
   simp; omega
  ·have := Int.mul_nonpos_of_nonpos_of_nonneg (Int.le_of_lt h1) (Int.not_lt.1 h2)
   simp; omega
  ·have := Int.mul_nonpos_of_nonneg_of_nonpos (Int.not_lt.1 h1) (Int.le_of_lt h2)
   simp; omega
  ·have := Int.mul_nonneg (Int.not_lt.1 h1) (Int.not_lt.1 h2)
   simp; omega
 ·rw [if_pos (by simp [h])]
  unfold fitS
  rw [if_neg]
  omega

def Z7B (a b : Int) : Int × Int × Int := if b = 0 then (0, 0, 11) else if b = -1 ∧ a = -9223372036854775808 then (0, 0, 10) else (a.fdiv b, a.fmod b, 0)
theorem floor_up {a b : Int} (hb : b ≠ 0) (h1 : a.tmod b ≠ 0) (h2 : ¬(a.tmod b < 0 ↔ b < 0)) : a.fdiv b = a.tdiv b - 1 ∧ a.fmod b = a.tmod b + b := by
 have q1 := Int.emod_nonneg a hb
 have q2 := Int.emod_lt a hb
 have hd : b ∣ a ↔ a % b = 0 := Int.dvd_iff_emod_eq_zero
 rw [Int.fdiv_eq_ediv, Int.fmod_eq_emod, Int.tdiv_eq_ediv]
 rw [Int.tmod_eq_emod] at h1 h2 ⊢
 simp only [hd] at h1 h2 ⊢
 rcases Int.lt_or_gt_of_ne hb with h | h
 ·rw [Int.sign_eq_neg_one_of_neg h]
  split at h1 <;> split <;> simp_all <;> omega
 ·rw [Int.sign_eq_one_of_pos h]
  split at h1 <;> split <;> simp_all <;> omega

theorem floor_same {a b : Int} (hb : b ≠ 0) (h : a.tmod b = 0 ∨ (a.tmod b < 0 ↔ b < 0)) : a.fdiv b = a.tdiv b ∧ a.fmod b = a.tmod b := by
 have q1 := Int.emod_nonneg a hb
 have q2 := Int.emod_lt a hb
 have hd : b ∣ a ↔ a % b = 0 := Int.dvd_iff_emod_eq_zero
 rw [Int.fdiv_eq_ediv, Int.fmod_eq_emod, Int.tdiv_eq_ediv]
 rw [Int.tmod_eq_emod] at h ⊢
 simp only [hd] at h ⊢
 rcases Int.lt_or_gt_of_ne hb with hh | hh
 ·rw [Int.sign_eq_neg_one_of_neg hh]
  split at h <;> split <;> simp_all <;> omega
 ·rw [Int.sign_eq_one_of_pos hh]
  split at h <;> split <;> simp_all <;> omega

theorem tdiv_in {a b : Int} (ha : In64 a) (hb : b ≠ 0) (hn : ¬(b = -1 ∧ a = -9223372036854775808)) : In64 (a.tdiv b) := by
 have h : (a.tdiv b).natAbs = a.natAbs / b.natAbs := Int.natAbs_tdiv a b
 obtain ⟨h1, h2⟩ := ha
 by_cases hb1 : b = 1
 ·subst hb1; rw [Int.tdiv_one]; exact ⟨h1, h2⟩
 ·by_cases hb2 : b = -1
  ·have ha' : a ≠ -9223372036854775808 := fun e => hn ⟨hb2, e⟩
   have : a.natAbs / b.natAbs ≤ a.natAbs := Nat.div_le_self _ _
   unfold In64; omega
  ·have h3 : a.natAbs / b.natAbs ≤ a.natAbs / 2 := Nat.div_le_div_left (by omega) (by omega)
   unfold In64; omega

theorem tdiv_in1 {a b : Int} (ha : In64 a) (hb : b ≠ 0) (h1 : a.tmod b ≠ 0) : In64 (a.tdiv b - 1) := by
 have h : (a.tdiv b).natAbs = a.natAbs / b.natAbs := Int.natAbs_tdiv a b
 obtain ⟨h2, h3⟩ := ha
 by_cases hb1 : b = 1
 ·subst hb1; simp at h1
 ·by_cases hb2 : b = -1
  ·subst hb2; simp at h1
  ·have h3 : a.natAbs / b.natAbs ≤ a.natAbs / 2 := Nat.div_le_div_left (by omega) (by omega)
   unfold In64; omega

theorem wrap_in {a : Int} (h : In64 a) : IntKind.i64.wrap a = a := by rw [Z4K]; unfold In64 at h; omega

theorem fmod_in {a b : Int} (hb : In64 b) (hb0 : b ≠ 0) : In64 (a.fmod b) := by
 have q1 := Int.emod_nonneg a hb0
 have q2 := Int.emod_lt a hb0
 rw [Int.fmod_eq_emod]
 unfold In64 at *
 split <;> omega

theorem floor_leaf1 {a b : Int} (ha : In64 a) (hb : In64 b) (h0 : b ≠ 0) (hn : ¬(b = -1 ∧ a = -9223372036854775808)) (h1 : a.tmod b ≠ 0) (h2 : ¬(a.tmod b < 0 ↔ b < 0)) :
  (IntKind.i64.wrap (IntKind.i64.wrap (a.tdiv b) - 1), IntKind.i64.wrap (a.tmod b + b), (0 : Int)) = Z7B a b := by
 obtain ⟨e1, e2⟩ := floor_up h0 h1 h2
 rw [Z7B, if_neg h0, if_neg hn, e1, e2, wrap_in (tdiv_in ha h0 hn), wrap_in (tdiv_in1 ha h0 h1), wrap_in (by rw [← e2]; exact fmod_in hb h0)]

theorem floor_leaf2 {a b : Int} (ha : In64 a) (hb : In64 b) (h0 : b ≠ 0) (hn : ¬(b = -1 ∧ a = -9223372036854775808)) (h : a.tmod b = 0 ∨ (a.tmod b < 0 ↔ b < 0)) :
  (IntKind.i64.wrap (a.tdiv b), a.tmod b, (0 : Int)) = Z7B a b := by
 obtain ⟨e1, e2⟩ := floor_same h0 h
 rw [Z7B, if_neg h0, if_neg hn, e1, e2, wrap_in (tdiv_in ha h0 hn)]


theorem Z2I {a b : Int} (ha : In64 a) (hb : In64 b) : Z0k a b = some (Z7B a b) := by
 unfold Z0k
 by_cases h0 : b = 0
 ·subst h0; rfl
 rw [beq_f h0, cond_false]
 by_cases hn : b = -1 ∧ a = -9223372036854775808
 ·obtain ⟨rfl, rfl⟩ := hn
  rfl
 have : (b == -1 && a == -9223372036854775808) = false := by
  simp only [Bool.and_eq_false_iff, beq_eq_false_iff_ne]
  by_cases h : b = -1
  ·exact .inr fun e => hn ⟨h, e⟩
  ·exact .inl h
 rw [this, cond_false, nz?_ok h0]
 simp only [Option.bind_some, pickB, Bool.and_eq_true, bne_iff_ne, ne_eq, decide_eq_decide]
 split
 ·rename_i h
  simp only [Option.bind_some]
  exact congrArg some (floor_leaf1 ha hb h0 hn h.1 h.2)
 ·rename_i h
  simp only [Option.bind_some]
  refine congrArg some (floor_leaf2 ha hb h0 hn ?_)
  by_cases h1 : a.tmod b = 0
  ·exact .inl h1
  ·exact .inr (Classical.byContradiction fun h2 => h ⟨h1, h2⟩)

theorem Z5z {a b : Int} (hb : 0 < b) : a.fdiv b = a / b ∧ a.fmod b = a % b := ⟨Int.fdiv_eq_ediv_of_nonneg a (Int.le_of_lt hb), Int.fmod_eq_emod_of_nonneg a (Int.le_of_lt hb)⟩
theorem Z4F {a b : Int} (hb : 0 < b) : Z7B a b = (a / b, a % b, 0) := by
 unfold Z7B
 rw [if_neg (by omega), if_neg (by omega), (Z5z hb).1, (Z5z hb).2]

end Go.Dn
