/- Part 4 of what the row stands on. -/
import Derived.Test.YtobglidemkpmaaaM3
set_option linter.unusedVariables false
set_option linter.unusedSimpArgs false
namespace Go.Dn
open Go Go.Proofs
set_option maxRecDepth 100000
set_option maxHeartbeats 4000000

theorem Z5N {n : Net} {ticks : (List Int)} {cut : Int} {r : Bool} (h : ZR n ticks cut = some r) : Fn CX 4 [(.agg (vs (Net.cs n))), (vl (cI .i64) ticks), (.v (.int .u8 cut))] (vb r) := by
 refine Fn.ends Try.func4 rfl rfl rfl rfl rfl rfl ?_
 have H : Hs (⟨0, fun _ => .none⟩ : Heap) [] := Has.nil (Nat.le_refl _)
 generalize (⟨0, fun _ => .none⟩ : Heap) = σ at H ⊢
 unfold ZR at h
 refine .then (.Z0 2 rfl H fun b1 σ H => (.boxH (cs := [(vi n.Vars), (vl Form.cs n.Forms), (vl Con.cs n.Cons)]) H (by omega) (by omega) rfl rfl rfl fun σ H => (.assign (v := (vb false)) rfl rfl (.nila H fun H => (.then ?_)))))
 refine .then (.Z0 3 rfl H fun b2 σ H => (.ZX (off := 0) (cs := [(vi n.Vars), (vl Form.cs n.Forms), (vl Con.cs n.Cons)]) H 0 rfl rfl rfl rfl rfl rfl rfl nofun rfl ?_))
 obtain ⟨x1, q1, h⟩ := bind_some h
 refine .call (ys := [(.agg [(vi n.Vars), (vl Form.cs n.Forms), (vl Con.cs n.Cons)])]) (r := (vb x1)) rfl (Z7g q1) rfl (.not (b := x1) rfl rfl (.nila H fun H => ?_))
 refine .whether (v := (!x1)) rfl ?_ ?_ <;> intro hc1
 ·replace h := Z6 hc1 h
  refine .then (.Z0 2 rfl H fun b3 σ H => (.call (ys := []) (r := (vb ZV)) rfl (Z2Y rfl) rfl (.assign (v := (vb ZV)) rfl rfl (.nila H fun H => (.ret ?_)))))
  replace h := sj h; subst h
  exact (Ends.H (xs := [(vb ZV)]) (.inr rfl) H (.tmp (v := (vb ZV)) rfl .nil) (.one (.c (.v _))))
 ·replace h := Z7 hc1 h
  refine .skip (.then (.inBlock (.again (.then (.then ?_)))))
  refine .Z0 5 rfl H fun b4 σ H => (.move (v := (vl (cI .i64) ticks)) rfl rfl (.Z0B (c := (cI .i64)) (xs := ticks) rfl rfl rfl (.Z2 (off := 0) (fo := 0) H 0 rfl rfl rfl rfl rfl nofun rfl (.ZQ (off := 0) (v := (vi n.Vars)) H 0 rfl rfl rfl rfl rfl nofun rfl (.int (m := (ticks.length : Int)) (m' := n.Vars) (r := .bool (decide ((ticks.length : Int) < n.Vars))) rfl rfl rfl rfl rfl ?_)))))
  refine .nila H fun H => ?_
  refine .whether (v := (decide ((ticks.length : Int) < n.Vars))) rfl ?_ ?_ <;> intro hc2
  ·replace h := Z6 hc2 h
   refine .skip (.inBlock (.Z0 9 rfl H fun b5 σ H => (.move (v := (vl (cI .i64) ticks)) rfl rfl (.move (v := (vl (cI .i64) ticks)) rfl rfl (.Z0B (c := (cI .i64)) (xs := ticks) rfl rfl rfl ?_)))))
   refine .move (v := (vl (cI .i64) ticks)) rfl rfl (.Z0B (c := (cI .i64)) (xs := ticks) rfl rfl rfl ?_)
   obtain ⟨x2, q2, h⟩ := bind_some h
   refine .sliceF (c := (cI .i64)) q2 rfl rfl rfl rfl rfl (fun _ => rfl) rfl (.Z2o (sz := 1) ([0].map (cI .i64)) H (by omega) (by omega) rfl rfl rfl rfl rfl rfl rfl rfl rfl fun σ H => ?_)
   obtain ⟨x3, q3, h⟩ := bind_some h
   refine .appendF (c := (cI .i64)) (w := (.buf (b5 + 6) 1 1)) (xs := x2) (ys := [0]) H (by omega) (by omega) (fun _ => rfl) rfl rfl (.s 0 rfl) rfl q3 rfl rfl rfl rfl rfl nofun rfl fun σ H => (.assign (v := (.buf (b5 + 7) x3.length 1)) rfl rfl (.nila H fun H => ?_))
   obtain ⟨y1, hj1, h⟩ := bind_some h
   obtain ⟨n3, hj1⟩ := Zc.1 hj1
   refine .mono (Runs.ZJ hj1 (fun s1 e σ => ∃ (id3 : Nat) (n4 : Nat), Z4 e [(1, (.buf id3 n4 1)), (2, (.v (.int .u8 cut))), (3, (.ptr (b1 + 0) 3 0))] ∧ Hs σ [.sl (.buf id3 n4 1) 3 1 (s1.map (cI .i64)) true, .blk (b1 + 0) 36 [(vi n.Vars), (vl Form.cs n.Forms), (vl Con.cs n.Cons)]]) (fun y1 x e σ => ∃ (id4 : Nat) (n5 : Nat), x = .exit 0 ∧ Z4 e [(1, (.buf id4 n5 1)), (2, (.v (.int .u8 cut))), (3, (.ptr (b1 + 0) 3 0))] ∧ Hs σ [.sl (.buf id4 n5 1) 3 1 (y1.map (cI .i64)) true, .blk (b1 + 0) 36 [(vi n.Vars), (vl Form.cs n.Forms), (vl Con.cs n.Cons)]]) ⟨(b5 + 7), x3.length, ⟨rfl, rfl, rfl, trivial⟩, (H.erase 1)⟩ ?_) ?_
   ·intro s1 e σ hI z h
    obtain ⟨id3, n4, he, H⟩ := hI
    obtain ⟨e, rfl⟩ := he.ex
    unfold ZR.s0 at h
    refine .then (.then (.Z0 5 rfl H fun b6 σ H => (.move (v := (.buf id3 n4 1)) rfl rfl (.Z6Z (c := (cI .i64)) (xs := s1) H 0 rfl rfl rfl nofun rfl (.Z2 (off := 0) (fo := 0) H 1 rfl rfl rfl rfl rfl nofun rfl ?_)))))
    refine .ZQ (off := 0) (v := (vi n.Vars)) H 1 rfl rfl rfl rfl rfl nofun rfl (.int (m := (s1.length : Int)) (m' := n.Vars) (r := .bool (decide ((s1.length : Int) < n.Vars))) rfl rfl rfl rfl rfl (.nila H fun H => ?_))
    refine .whether (v := (decide ((s1.length : Int) < n.Vars))) rfl ?_ ?_ <;> intro hc3
    ·replace h := Z6 hc3 h
     refine .skip (.inBlock (.Z0 9 rfl H fun b7 σ H => (.move (v := (.buf id3 n4 1)) rfl rfl (.move (v := (.buf id3 n4 1)) rfl rfl (.Z6Z (c := (cI .i64)) (xs := s1) H 0 rfl rfl rfl nofun rfl ?_)))))
     refine .move (v := (.buf id3 n4 1)) rfl rfl (.Z6Z (c := (cI .i64)) (xs := s1) H 0 rfl rfl rfl nofun rfl ?_)
     obtain ⟨x4, q4, h⟩ := bind_some h
     refine .sliceSF (c := (cI .i64)) q4 H 0 rfl rfl rfl rfl rfl rfl (fun _ => rfl) nofun rfl fun σ H => (.Z2o (sz := 1) ([0].map (cI .i64)) H (by omega) (by omega) rfl rfl rfl rfl rfl rfl rfl rfl rfl fun σ H => ?_)
     obtain ⟨x5, q5, h⟩ := bind_some h
     refine .appendF (c := (cI .i64)) (w := (.buf (b7 + 6) 1 1)) (xs := x4) (ys := [0]) H (by omega) (by omega) (fun _ => rfl) rfl rfl (.s 0 rfl) rfl q5 rfl rfl rfl rfl rfl nofun rfl fun σ H => ?_
     replace H := H.erase 2
     refine .assign (v := (.buf (b7 + 7) x5.length 1)) rfl rfl (.nila H fun H => ?_)
     replace h := sj h; subst h
     exact ⟨rfl, (b7 + 7), x5.length, ⟨rfl, rfl, rfl, trivial⟩, (H.erase 1)⟩
    ·replace h := Z7 hc3 h
     refine .exit ?_
     replace h := sj h; subst h
     exact ⟨nofun, ⟨id3, n4, rfl, ⟨rfl, rfl, rfl, trivial⟩, H⟩⟩
   ·rintro x e σ ⟨id5, n6, rfl, he, H⟩
    obtain ⟨e, rfl⟩ := he.ex
    refine .then (.Z0 5 rfl H fun b8 σ H => (.move (v := (.buf id5 n6 1)) rfl rfl (.Z2 (off := 0) (fo := 0) H 1 rfl rfl rfl rfl rfl nofun rfl (.ZQ (off := 0) (v := (vi n.Vars)) H 1 rfl rfl rfl rfl rfl nofun rfl ?_))))
    obtain ⟨x6, q6, h⟩ := bind_some h
    refine .sliceS (c := (cI .i64)) q6 H 0 rfl rfl rfl rfl rfl (fun _ => rfl) nofun rfl fun σ H => (.assign (v := (vl (cI .i64) x6)) rfl rfl (.nila H fun H => (.then (.Z0 8 rfl H fun b9 σ H => (.move (v := (.v (.int .u8 cut))) rfl rfl ?_)))))
    refine .conv (m := cut) rfl rfl rfl rfl (.Z2 (off := 0) (fo := 2) H 1 rfl rfl rfl rfl rfl nofun rfl (.ZQ (off := 2) (v := (vl Con.cs n.Cons)) H 1 rfl rfl rfl rfl rfl nofun rfl (.Z0B (c := Con.cs) (xs := n.Cons) rfl rfl rfl (.int (m := (n.Cons.length : Int)) (m' := 1) (r := .int .i64 (w64 ((n.Cons.length : Int) + 1))) rfl rfl rfl rfl rfl ?_))))
    obtain ⟨u1, q7, h⟩ := bind_some h
    refine .rem (m := (w64 cut)) (m' := (w64 ((n.Cons.length : Int) + 1))) rfl rfl (nz_ne q7) rfl (.assign (v := (vi ((w64 cut).tmod (w64 ((n.Cons.length : Int) + 1))))) rfl rfl (.nila H fun H => (.then (.Z2X 6 rfl (by kernel_rfl) H fun b10 σ H B10 => (.ZX (off := 0) (cs := [(vi n.Vars), (vl Form.cs n.Forms), (vl Con.cs n.Cons)]) H 1 rfl rfl rfl rfl rfl rfl rfl (fun _ => .inl ⟨B10 1 _ rfl _ rfl, nofun, (fun _ => by kernel_rfl)⟩) rfl ?_)))))
    refine .ZX (off := 0) (cs := [(vi n.Vars), (vl Form.cs n.Forms), (vl Con.cs n.Cons)]) H 1 rfl rfl rfl rfl rfl rfl rfl (fun _ => .inl ⟨B10 1 _ rfl _ rfl, nofun, (fun _ => by kernel_rfl)⟩) rfl (.Z0t (cs := [(vi 0), .nils, .nils]) H (by omega) (by omega) rfl rfl fun σ H => (.Z0t (cs := [(vi 0), .nils, .nils]) H (by omega) (by omega) rfl rfl fun σ H => (.Z0U (off := 0) (cells' := [(vi n.Vars), (vl Form.cs n.Forms), (vl Con.cs n.Cons)]) H 1 rfl rfl rfl rfl rfl rfl rfl rfl rfl (fun _ => .inr ⟨2, rfl, by kernel_rfl, by decide⟩) fun σ H => (.Z0U (off := 0) (cells' := [(vi n.Vars), (vl Form.cs n.Forms), (vl Con.cs n.Cons)]) H 0 rfl rfl rfl rfl rfl rfl rfl rfl rfl (fun _ => .inr ⟨3, rfl, by kernel_rfl, by decide⟩) fun σ H => (.nila H fun H => ?_)))))
    refine .then (.Z2X 12 rfl (by kernel_rfl) H fun b11 σ H B11 => (.Z2 (off := 0) (fo := 2) H 3 rfl rfl rfl rfl rfl (fun _ => .inl ⟨B11 3 _ rfl _ rfl, nofun, (fun _ => by kernel_rfl)⟩) rfl (.ZQ (off := 2) (v := (vl Con.cs n.Cons)) H 3 rfl rfl rfl rfl rfl (fun _ => .inl ⟨B11 3 _ rfl _ rfl, nofun, (fun _ => by kernel_rfl)⟩) rfl (.move (v := (vi ((w64 cut).tmod (w64 ((n.Cons.length : Int) + 1))))) rfl rfl ?_))))
    obtain ⟨x7, q8, h⟩ := bind_some h
    refine .sliceP01 (c := Con.cs) q8 rfl rfl rfl rfl (fun _ => rfl) rfl (.Z2 (off := 0) (fo := 2) H 3 rfl rfl rfl rfl rfl (fun _ => .inl ⟨B11 3 _ rfl _ rfl, nofun, (fun _ => by kernel_rfl)⟩) rfl (.loadHR (off := 2) (v := (vl Con.cs n.Cons)) H 3 rfl rfl rfl rfl rfl (fun _ => ⟨B11 3 _ rfl _ rfl, _, rfl, mem_one⟩) rfl (.move (v := (vi ((w64 cut).tmod (w64 ((n.Cons.length : Int) + 1))))) rfl rfl ?_)))
    obtain ⟨x8, q9, h⟩ := bind_some h
    refine .sliceP10 (c := Con.cs) q9 rfl rfl rfl rfl (fun _ => rfl) rfl (.Z2 (off := 0) (fo := 2) H 1 rfl rfl rfl rfl rfl (fun _ => .inl ⟨B11 1 _ rfl _ rfl, nofun, (fun _ => by kernel_rfl)⟩) rfl (.Z0U (off := 2) (cells' := [(vi n.Vars), (vl Form.cs n.Forms), (vl Con.cs x7)]) H 1 rfl rfl rfl rfl rfl rfl rfl rfl rfl (fun _ => .inl ⟨B11 1 _ rfl _ rfl, (Z9Z [4, 5] (by kernel_rfl) (.cons rfl rfl (ne_one (H.ne (j := 1) (k := 3) rfl rfl rfl rfl rfl)) (.cons rfl rfl (ne_one (H.ne (j := 1) (k := 3) rfl rfl rfl rfl rfl)) .nil)))⟩) fun σ H => (.Z2 (off := 0) (fo := 2) H 0 rfl rfl rfl rfl rfl (fun _ => .inl ⟨B11 0 _ rfl _ rfl, nofun, (fun _ => by kernel_rfl)⟩) rfl (.Z0U (off := 2) (cells' := [(vi n.Vars), (vl Form.cs n.Forms), (vl Con.cs x8)]) H 0 rfl rfl rfl rfl rfl rfl rfl rfl rfl (fun _ => .inl ⟨B11 0 _ rfl _ rfl, (Z44 (by kernel_rfl))⟩) fun σ H => (.nila H fun H => ?_)))))
    refine .then (.Z0 8 rfl H fun b12 σ H => (.ZX (off := 0) (cs := [(vi n.Vars), (vl Form.cs n.Forms), (vl Con.cs x7)]) H 1 rfl rfl rfl rfl rfl rfl rfl nofun rfl (.move (v := (vl (cI .i64) x6)) rfl rfl ?_)))
    obtain ⟨x9, q10, h⟩ := bind_some h
    refine .Z8G (ys := [(.agg (vs (Net.cs (Net.mk n.Vars n.Forms x7)))), (vl (cI .i64) x6)]) H rfl (Z1I q10) nofun rfl ?_; rintro _ _ σ ⟨w1, rfl, rfl⟩ H
    refine .move (v := (.tup [w1, (vi x9.2)])) rfl rfl (.extract (v := w1) rfl rfl rfl (.extract (v := (vi x9.2)) rfl rfl rfl (.assign (v := w1) rfl rfl (.assign (v := (vi x9.2)) rfl rfl (.nila H fun H => ?_)))))
    refine .then (.Z0 8 rfl H fun b13 σ H => (.ZX (off := 0) (cs := [(vi n.Vars), (vl Form.cs n.Forms), (vl Con.cs x8)]) H 1 rfl rfl rfl rfl rfl rfl rfl nofun rfl (.move (v := (vl (cI .i64) x6)) rfl rfl ?_)))
    obtain ⟨x10, q11, h⟩ := bind_some h
    refine .Z8G (ys := [(.agg (vs (Net.cs (Net.mk n.Vars n.Forms x8)))), (vl (cI .i64) x6)]) H rfl (Z1I q11) nofun rfl ?_; rintro _ _ σ ⟨w2, rfl, rfl⟩ H
    refine .move (v := (.tup [w2, (vi x10.2)])) rfl rfl (.extract (v := w2) rfl rfl rfl (.extract (v := (vi x10.2)) rfl rfl rfl (.assign (v := w2) rfl rfl (.assign (v := (vi x10.2)) rfl rfl (.nila H fun H => ?_)))))
    refine .then (.Z0 8 rfl H fun b14 σ H => (.ZX (off := 0) (cs := [(vi n.Vars), (vl Form.cs n.Forms), (vl Con.cs n.Cons)]) H 5 rfl rfl rfl rfl rfl rfl rfl nofun rfl (.move (v := (vl (cI .i64) x6)) rfl rfl ?_)))
    obtain ⟨x11, q12, h⟩ := bind_some h
    refine .Z8G (ys := [(.agg (vs (Net.cs n))), (vl (cI .i64) x6)]) H rfl (Z1I q12) nofun rfl ?_; rintro _ _ σ ⟨w3, rfl, rfl⟩ H
    refine .move (v := (.tup [w3, (vi x11.2)])) rfl rfl (.extract (v := w3) rfl rfl rfl (.extract (v := (vi x11.2)) rfl rfl rfl (.assign (v := w3) rfl rfl (.assign (v := (vi x11.2)) rfl rfl (.nila H fun H => ?_)))))
    refine .then (.then (.Z0 8 rfl H fun b15 σ H => (.move (v := (vi x9.2)) rfl rfl (.move (v := (vi x10.2)) rfl rfl (.int (m := x9.2) (m' := x10.2) (r := .bool (x9.2 != x10.2)) rfl rfl rfl rfl rfl ?_)))))
    refine .move (v := (vb (x9.2 != x10.2))) rfl rfl ?_
    refine .mid 4 (K1 := fun e σ => Z4 e [(83, (vb ((x9.2 != x10.2) || (x9.2 != x11.2)))), (1, (vl (cI .i64) x6)), (3, (.ptr (b1 + 0) 3 0)), (7, (vi ((w64 cut).tmod (w64 ((n.Cons.length : Int) + 1))))), (8, (.ptr (b10 + 2) 3 0)), (9, (.ptr (b10 + 3) 3 0)), (10, w1), (11, (vi x9.2)), (12, w2), (14, w3)] ∧ Has σ (b15 + 8) (b15 + 8) [.sl w3 3 1 (x11.1.map (cI .i64)) true, .sl w2 3 1 (x10.1.map (cI .i64)) true, .sl w1 3 1 (x9.1.map (cI .i64)) true, .blk (b10 + 3) 36 [(vi n.Vars), (vl Form.cs n.Forms), (vl Con.cs x8)], .blk (b10 + 2) 36 [(vi n.Vars), (vl Form.cs n.Forms), (vl Con.cs x7)], .blk (b1 + 0) 36 [(vi n.Vars), (vl Form.cs n.Forms), (vl Con.cs n.Cons)]]) rfl ?_ ?_
    ·refine .split rfl rfl ?_ ?_ <;> intro hc4
     ·skip
      refine .pass rfl rfl rfl (.pass rfl rfl rfl (.pass rfl rfl rfl (.Ze (v := (vb true)) rfl rfl rfl (.nil ?_))))
      exact ⟨⟨or_T hc4, rfl, rfl, rfl, rfl, rfl, rfl, rfl, rfl, rfl, trivial⟩, (H.erase 5).weak (by omega) (Nat.le_refl _)⟩
     ·skip
      refine .wanted rfl rfl (.move (v := (vi x9.2)) rfl rfl (.wanted rfl rfl (.move (v := (vi x11.2)) rfl rfl (.wanted rfl rfl (.int (m := x9.2) (m' := x11.2) (r := .bool (x9.2 != x11.2)) rfl rfl rfl rfl rfl ?_)))))
      refine .Zg (v := (vb (x9.2 != x11.2))) rfl rfl rfl (.nil ?_)
      exact ⟨⟨or_F hc4, rfl, rfl, rfl, rfl, rfl, rfl, rfl, rfl, rfl, trivial⟩, (H.erase 5).weak (by omega) (Nat.le_refl _)⟩
    ·rintro e σ ⟨he, H⟩
     obtain ⟨e, rfl⟩ := he.ex
     refine .nila H fun H => ?_
     refine .whether (v := ((x9.2 != x10.2) || (x9.2 != x11.2))) rfl ?_ ?_ <;> intro hc5
     ·replace h := Z6 hc5 h
      refine .then (.Z0 1 rfl H fun b16 σ H => (.assign (v := (vb false)) rfl rfl (.nila H fun H => (.ret ?_))))
      replace h := sj h; subst h
      exact (Ends.H (xs := [(vb false)]) (.inr rfl) H (.tmp (v := (vb false)) rfl .nil) (.one (.c (.v _))))
     ·replace h := Z7 hc5 h
      refine .skip (.then (.then (.Z0 3 rfl H fun b17 σ H => (.move (v := w2) rfl rfl (.Z6Z (c := (cI .i64)) (xs := x10.1) H 1 rfl rfl rfl nofun rfl ?_)))))
      refine .move (v := (vi 0)) rfl rfl (.nila H fun H => (.inBlock ?_))
      obtain ⟨y2, hj2, h⟩ := bind_some h
      obtain ⟨n7, hj2⟩ := Zc.1 hj2
      refine .mono (Runs.ZJ hj2 (fun s2 e σ => ∃ (w6 : PV), Z4 e [(1, (vl (cI .i64) x6)), (3, (.ptr (b1 + 0) 3 0)), (7, (vi ((w64 cut).tmod (w64 ((n.Cons.length : Int) + 1))))), (8, (.ptr (b10 + 2) 3 0)), (9, (.ptr (b10 + 3) 3 0)), (10, w6), (11, (vi x9.2)), (14, w3), (84, w2), (85, (vi (x10.1.length : Int))), (86, (vi s2.1))] ∧ Hs σ [.sl w3 3 1 (x11.1.map (cI .i64)) true, .sl w2 3 1 (x10.1.map (cI .i64)) true, .sl w6 3 1 (s2.2.map (cI .i64)) true, .blk (b10 + 3) 36 [(vi n.Vars), (vl Form.cs n.Forms), (vl Con.cs x8)], .blk (b10 + 2) 36 [(vi n.Vars), (vl Form.cs n.Forms), (vl Con.cs x7)], .blk (b1 + 0) 36 [(vi n.Vars), (vl Form.cs n.Forms), (vl Con.cs n.Cons)]]) (fun y2 x e σ => ∃ (w7 : PV), x = .exit 2 ∧ Z4 e [(1, (vl (cI .i64) x6)), (3, (.ptr (b1 + 0) 3 0)), (8, (.ptr (b10 + 2) 3 0)), (9, (.ptr (b10 + 3) 3 0)), (10, w7), (11, (vi x9.2)), (14, w3)] ∧ Hs σ [.sl w3 3 1 (x11.1.map (cI .i64)) true, .sl w7 3 1 (y2.map (cI .i64)) true, .blk (b10 + 3) 36 [(vi n.Vars), (vl Form.cs n.Forms), (vl Con.cs x8)], .blk (b10 + 2) 36 [(vi n.Vars), (vl Form.cs n.Forms), (vl Con.cs x7)], .blk (b1 + 0) 36 [(vi n.Vars), (vl Form.cs n.Forms), (vl Con.cs n.Cons)]]) ⟨w1, ⟨rfl, rfl, rfl, rfl, rfl, rfl, rfl, rfl, rfl, rfl, rfl, trivial⟩, H⟩ ?_) ?_
      ·intro s2 e σ hI z h
       obtain ⟨w6, he, H⟩ := hI
       obtain ⟨e, rfl⟩ := he.ex
       unfold ZR.s1 at h
       refine .then (.Z0 1 rfl H fun b18 σ H => (.int (m := s2.1) (m' := (x10.1.length : Int)) (r := .bool (decide (s2.1 < (x10.1.length : Int)))) rfl rfl rfl rfl rfl (.nila H fun H => (.then ?_))))
       refine .whether (v := (decide (s2.1 < (x10.1.length : Int)))) rfl ?_ ?_ <;> intro hc6
       ·replace h := Z6 hc6 h
        refine .skip (.then (.inBlock (.then (.Z0 3 rfl H fun b19 σ H => ?_))))
        obtain ⟨x12, q13, h⟩ := bind_some h
        refine .indexS H 1 rfl rfl rfl (at?_map q13) rfl rfl nofun rfl ?_; intro id6 hv1
        refine .loadS (id := id6) (j := 0) (w := (.int .i64 x12)) H 1 rfl hv1 (by simp) (at?_map q13) rfl (by simp) rfl rfl rfl nofun rfl ?_
        refine .assign (v := (vi x12)) rfl rfl (.nila H fun H => (.Z0 7 rfl H fun b20 σ H => (.move (v := w6) rfl rfl (.move (v := (vi x12)) rfl rfl (.move (v := (vi ((w64 cut).tmod (w64 ((n.Cons.length : Int) + 1))))) rfl rfl ?_)))))
        refine .int (m := x12) (m' := ((w64 cut).tmod (w64 ((n.Cons.length : Int) + 1)))) (r := .int .i64 (w64 (x12 + ((w64 cut).tmod (w64 ((n.Cons.length : Int) + 1)))))) rfl rfl rfl rfl rfl (.Z2o (sz := 1) ([(w64 (x12 + ((w64 cut).tmod (w64 ((n.Cons.length : Int) + 1)))))].map (cI .i64)) H (by omega) (by omega) rfl rfl rfl rfl rfl rfl rfl rfl rfl fun σ H => ?_)
        obtain ⟨x13, q14, h⟩ := bind_some h
        refine .Z5u (c := (cI .i64)) (v := w6) (w := (.buf (b20 + 4) 1 1)) (xs := s2.2) (ys := [(w64 (x12 + ((w64 cut).tmod (w64 ((n.Cons.length : Int) + 1)))))]) H (by omega) (by omega) 3 rfl rfl rfl (.s 0 rfl) q14 rfl rfl rfl rfl rfl nofun rfl fun w8 σ H => (.assign (v := w8) rfl rfl (.nila H fun H => (.Z0 2 rfl H fun b21 σ H => (.int (m := s2.1) (m' := 1) (r := .int .i64 (w64 (s2.1 + 1))) rfl rfl rfl rfl rfl (.move (v := (vi (w64 (s2.1 + 1)))) rfl rfl ?_)))))
        refine .nila H fun H => ?_
        replace h := sj h; subst h
        exact ⟨rfl, w8, ⟨rfl, rfl, rfl, rfl, rfl, rfl, rfl, rfl, rfl, rfl, rfl, trivial⟩, (H.erase 0)⟩
       ·replace h := Z7 hc6 h
        refine .exit ?_
        replace h := sj h; subst h
        exact ⟨nofun, ⟨w6, rfl, ⟨rfl, rfl, rfl, rfl, rfl, rfl, rfl, trivial⟩, (H.erase 1)⟩⟩
      ·rintro x e σ ⟨w9, rfl, he, H⟩
       obtain ⟨e, rfl⟩ := he.ex
       refine .then (.Z2X 34 rfl (by kernel_rfl) H fun b22 σ H B22 => (.move (v := w9) rfl rfl (.move (v := w3) rfl rfl ?_)))
       obtain ⟨x14, q15, h⟩ := bind_some h
       refine .Z6W (xs := [w9, w3]) (ys := [(vl (cI .i64) y2), (vl (cI .i64) x11.1)]) H rfl (.cons (.c (.s 1 rfl)) (.cons (.c (.s 0 rfl)) .nil)) (Z1o q15) rfl rfl (fun _ => by kernel_rfl) rfl fun σ H => (.move (v := (vb x14)) rfl rfl ?_)
       obtain ⟨y3, hj3, h⟩ := bind_some h
       refine .mid 12 (K1 := fun e σ => Z4 e [(112, (vb y3)), (1, (vl (cI .i64) x6)), (3, (.ptr (b1 + 0) 3 0)), (8, (.ptr (b10 + 2) 3 0)), (9, (.ptr (b10 + 3) 3 0))] ∧ Has σ (b22 + 16) (b22 + 34) [.blk (b10 + 3) 36 [(vi n.Vars), (vl Form.cs n.Forms), (vl Con.cs x8)], .blk (b10 + 2) 36 [(vi n.Vars), (vl Form.cs n.Forms), (vl Con.cs x7)], .blk (b1 + 0) 36 [(vi n.Vars), (vl Form.cs n.Forms), (vl Con.cs n.Cons)]]) rfl ?_ ?_
       ·refine .split rfl rfl ?_ ?_ <;> intro hc7
        ·replace h := Z6 hc7 hj3
         refine .wanted rfl rfl (.ZX (off := 0) (cs := [(vi n.Vars), (vl Form.cs n.Forms), (vl Con.cs n.Cons)]) H 4 rfl rfl rfl rfl rfl rfl rfl (fun _ => .inl ⟨B22 4 _ rfl _ rfl, nofun, (fun _ => by kernel_rfl)⟩) rfl (.wanted rfl rfl (.move (v := (vl (cI .i64) x6)) rfl rfl (.wanted rfl rfl ?_))))
         obtain ⟨x15, q16, h⟩ := bind_some h
         refine .call (ys := [(.agg [(vi n.Vars), (vl Form.cs n.Forms), (vl Con.cs n.Cons)]), (vl (cI .i64) x6)]) (r := (vb x15)) rfl (Z10 q16) rfl (.wanted rfl rfl (.move (v := (vi x9.2)) rfl rfl (.wanted rfl rfl (.int (m := x9.2) (m' := 0) (r := .bool (x9.2 == 0)) rfl rfl rfl rfl rfl (.wanted rfl rfl ?_)))))
         refine .move (v := (vb (x9.2 == 0))) rfl rfl ?_
         refine .mid 4 (K1 := fun e σ => Z4 e [(110, (vb ((x9.2 == 0) && ((x11.1.length : Int) == 0)))), (1, (vl (cI .i64) x6)), (3, (.ptr (b1 + 0) 3 0)), (8, (.ptr (b10 + 2) 3 0)), (9, (.ptr (b10 + 3) 3 0)), (100, (vb true)), (103, (vb x15))] ∧ Has σ (b22 + 14) (b22 + 34) [.blk (b10 + 3) 36 [(vi n.Vars), (vl Form.cs n.Forms), (vl Con.cs x8)], .blk (b10 + 2) 36 [(vi n.Vars), (vl Form.cs n.Forms), (vl Con.cs x7)], .blk (b1 + 0) 36 [(vi n.Vars), (vl Form.cs n.Forms), (vl Con.cs n.Cons)]]) rfl ?_ ?_
         ·refine .split rfl rfl ?_ ?_ <;> intro hc8
          ·skip
           refine .wanted rfl rfl (.move (v := w3) rfl rfl (.wanted rfl rfl (.Z6Z (c := (cI .i64)) (xs := x11.1) H 0 rfl rfl rfl (fun _ id ho => .inl ⟨B22 0 _ rfl id ho, nofun, (fun _ => by kernel_rfl)⟩) rfl (.wanted rfl rfl (.int (m := (x11.1.length : Int)) (m' := 0) (r := .bool ((x11.1.length : Int) == 0)) rfl rfl rfl rfl rfl ?_)))))
           refine .wanted rfl rfl (.Ze (v := (vb ((x11.1.length : Int) == 0))) rfl rfl rfl (.nil ?_))
           exact ⟨⟨Z1D hc8, rfl, rfl, rfl, rfl, rfl, rfl, trivial⟩, ((H.erase 1).erase 0).weak (by omega) (Nat.le_refl _)⟩
          ·skip
           refine .pass rfl rfl rfl (.pass rfl rfl rfl (.pass rfl rfl rfl (.wanted rfl rfl (.Zg (v := (vb false)) rfl rfl rfl (.nil ?_)))))
           exact ⟨⟨Z1E hc8, rfl, rfl, rfl, rfl, rfl, rfl, trivial⟩, ((H.erase 1).erase 0).weak (by omega) (Nat.le_refl _)⟩
         ·rintro e σ ⟨he, H⟩
          obtain ⟨e, rfl⟩ := he.ex
          refine .wanted rfl rfl (.eqB (b := x15) (b' := ((x9.2 == 0) && ((x11.1.length : Int) == 0))) rfl rfl rfl rfl (.Ze (v := (vb (x15 == ((x9.2 == 0) && ((x11.1.length : Int) == 0))))) rfl rfl rfl (.nil ?_)))
          replace h := sj h; subst h
          exact ⟨⟨rfl, rfl, rfl, rfl, rfl, trivial⟩, H.weak (by omega) (Nat.le_refl _)⟩
        ·replace h := Z7 hc7 hj3
         refine .pass rfl rfl rfl (.pass rfl rfl rfl (.pass rfl rfl rfl (.pass rfl rfl rfl (.pass rfl rfl rfl (.pass rfl rfl rfl ?_)))))
         refine .Z0S rfl rfl rfl (.Z0S rfl rfl rfl (.Z0S rfl rfl rfl (.pass rfl rfl rfl (.pass rfl rfl rfl (.Zg (v := (vb false)) rfl rfl rfl ?_)))))
         refine .nil ?_
         replace h := sj h; subst h
         exact ⟨⟨rfl, rfl, rfl, rfl, rfl, trivial⟩, ((H.erase 1).erase 0).weak (by omega) (Nat.le_refl _)⟩
       ·rintro e σ ⟨he, H⟩
        obtain ⟨e, rfl⟩ := he.ex
        refine .move (v := (vb y3)) rfl rfl ?_
        obtain ⟨y4, hj4, h⟩ := bind_some h
        refine .mid 13 (K1 := fun e σ => Z4 e [(126, (vb y4))] ∧ Has σ (b22 + 30) (b22 + 34) []) rfl ?_ ?_
        ·refine .split rfl rfl ?_ ?_ <;> intro hc9
         ·replace h := Z6 hc9 hj4
          refine .wanted rfl rfl (.ZX (off := 0) (cs := [(vi n.Vars), (vl Form.cs n.Forms), (vl Con.cs n.Cons)]) H 2 rfl rfl rfl rfl rfl rfl rfl (fun _ => .inl ⟨B22 4 _ rfl _ rfl, nofun, (fun _ => by kernel_rfl)⟩) rfl (.wanted rfl rfl (.move (v := (vl (cI .i64) x6)) rfl rfl (.wanted rfl rfl ?_))))
          obtain ⟨x16, q17, h⟩ := bind_some h
          refine .call (ys := [(.agg [(vi n.Vars), (vl Form.cs n.Forms), (vl Con.cs n.Cons)]), (vl (cI .i64) x6)]) (r := (vb x16)) rfl (Z10 q17) rfl (.wanted rfl rfl (.ZX (off := 0) (cs := [(vi n.Vars), (vl Form.cs n.Forms), (vl Con.cs x7)]) H 1 rfl rfl rfl rfl rfl rfl rfl (fun _ => .inl ⟨B22 3 _ rfl _ rfl, nofun, (fun _ => by kernel_rfl)⟩) rfl (.wanted rfl rfl (.move (v := (vl (cI .i64) x6)) rfl rfl (.wanted rfl rfl ?_)))))
          obtain ⟨x17, q18, h⟩ := bind_some h
          refine .call (ys := [(.agg [(vi n.Vars), (vl Form.cs n.Forms), (vl Con.cs x7)]), (vl (cI .i64) x6)]) (r := (vb x17)) rfl (Z10 q18) rfl (.wanted rfl rfl (.move (v := (vb x17)) rfl rfl ?_))
          obtain ⟨y5, hj5, h⟩ := bind_some h
          refine .mid 4 (K1 := fun e σ => Z4 e [(124, (vb y5)), (113, (vb true)), (116, (vb x16))] ∧ Has σ (b22 + 28) (b22 + 34) []) rfl ?_ ?_
          ·refine .split rfl rfl ?_ ?_ <;> intro hc10
           ·replace h := Z6 hc10 hj5
            refine .wanted rfl rfl (.ZX (off := 0) (cs := [(vi n.Vars), (vl Form.cs n.Forms), (vl Con.cs x8)]) H 0 rfl rfl rfl rfl rfl rfl rfl (fun _ => .inl ⟨B22 2 _ rfl _ rfl, nofun, (fun _ => by kernel_rfl)⟩) rfl (.wanted rfl rfl (.move (v := (vl (cI .i64) x6)) rfl rfl (.wanted rfl rfl ?_))))
            obtain ⟨x18, q19, h⟩ := bind_some h
            refine .call (ys := [(.agg [(vi n.Vars), (vl Form.cs n.Forms), (vl Con.cs x8)]), (vl (cI .i64) x6)]) (r := (vb x18)) rfl (Z10 q19) rfl (.wanted rfl rfl (.Ze (v := (vb x18)) rfl rfl rfl (.nil ?_)))
            replace h := sj h; subst h
            exact ⟨⟨rfl, rfl, rfl, trivial⟩, (((H.erase 2).erase 1).erase 0).weak (by omega) (Nat.le_refl _)⟩
           ·replace h := Z7 hc10 hj5
            refine .pass rfl rfl rfl (.pass rfl rfl rfl (.pass rfl rfl rfl (.wanted rfl rfl (.Zg (v := (vb false)) rfl rfl rfl (.nil ?_)))))
            replace h := sj h; subst h
            exact ⟨⟨rfl, rfl, rfl, trivial⟩, (((H.erase 2).erase 1).erase 0).weak (by omega) (Nat.le_refl _)⟩
          ·rintro e σ ⟨he, H⟩
           obtain ⟨e, rfl⟩ := he.ex
           refine .wanted rfl rfl (.eqB (b := x16) (b' := y5) rfl rfl rfl rfl (.Ze (v := (vb (x16 == y5))) rfl rfl rfl (.nil ?_)))
           replace h := sj h; subst h
           exact ⟨⟨rfl, trivial⟩, H.weak (by omega) (Nat.le_refl _)⟩
         ·replace h := Z7 hc9 hj4
          refine .pass rfl rfl rfl (.pass rfl rfl rfl (.pass rfl rfl rfl (.pass rfl rfl rfl (.pass rfl rfl rfl (.pass rfl rfl rfl ?_)))))
          refine .pass rfl rfl rfl (.Z0S rfl rfl rfl (.Z0S rfl rfl rfl (.Z0S rfl rfl rfl (.pass rfl rfl rfl (.pass rfl rfl rfl ?_)))))
          refine .Zg (v := (vb false)) rfl rfl rfl (.nil ?_)
          replace h := sj h; subst h
          exact ⟨⟨rfl, trivial⟩, (((H.erase 2).erase 1).erase 0).weak (by omega) (Nat.le_refl _)⟩
        ·rintro e σ ⟨he, H⟩
         obtain ⟨e, rfl⟩ := he.ex
         refine .move (v := (vb y4)) rfl rfl ?_
         refine .mid 2 (K1 := fun e σ => Z4 e [(129, (vb (y4 && ZV)))] ∧ Has σ (b22 + 33) (b22 + 34) []) rfl ?_ ?_
         ·refine .split rfl rfl ?_ ?_ <;> intro hc11
          ·skip
           refine .wanted rfl rfl (.call (ys := []) (r := (vb ZV)) rfl (Z2Y rfl) rfl (.Ze (v := (vb ZV)) rfl rfl rfl (.nil ?_)))
           exact ⟨⟨Z1D hc11, trivial⟩, H.weak (by omega) (Nat.le_refl _)⟩
          ·skip
           refine .pass rfl rfl rfl (.Zg (v := (vb false)) rfl rfl rfl (.nil ?_))
           exact ⟨⟨Z1E hc11, trivial⟩, H.weak (by omega) (Nat.le_refl _)⟩
         ·rintro e σ ⟨he, H⟩
          obtain ⟨e, rfl⟩ := he.ex
          refine .assign (v := (vb (y4 && ZV))) rfl rfl (.nila H fun H => (.ret ?_))
          replace h := sj h; subst h
          exact (Ends.H (xs := [(vb (y4 && ZV))]) (.inr rfl) H (.tmp (v := (vb (y4 && ZV))) rfl .nil) (.one (.c (.v _))))
  ·replace h := Z7 hc2 h
   refine .exit (.then (.Z0 5 rfl H fun b23 σ H => (.move (v := (vl (cI .i64) ticks)) rfl rfl (.Z2 (off := 0) (fo := 0) H 0 rfl rfl rfl rfl rfl nofun rfl (.ZQ (off := 0) (v := (vi n.Vars)) H 0 rfl rfl rfl rfl rfl nofun rfl ?_)))))
   obtain ⟨x19, q20, h⟩ := bind_some h
   refine .sliceP01 (c := (cI .i64)) q20 rfl rfl rfl rfl (fun _ => rfl) rfl (.assign (v := (vl (cI .i64) x19)) rfl rfl (.nila H fun H => (.then (.Z0 8 rfl H fun b24 σ H => (.move (v := (.v (.int .u8 cut))) rfl rfl ?_)))))
   refine .conv (m := cut) rfl rfl rfl rfl (.Z2 (off := 0) (fo := 2) H 0 rfl rfl rfl rfl rfl nofun rfl (.ZQ (off := 2) (v := (vl Con.cs n.Cons)) H 0 rfl rfl rfl rfl rfl nofun rfl (.Z0B (c := Con.cs) (xs := n.Cons) rfl rfl rfl (.int (m := (n.Cons.length : Int)) (m' := 1) (r := .int .i64 (w64 ((n.Cons.length : Int) + 1))) rfl rfl rfl rfl rfl ?_))))
   obtain ⟨u2, q21, h⟩ := bind_some h
   refine .rem (m := (w64 cut)) (m' := (w64 ((n.Cons.length : Int) + 1))) rfl rfl (nz_ne q21) rfl (.assign (v := (vi ((w64 cut).tmod (w64 ((n.Cons.length : Int) + 1))))) rfl rfl (.nila H fun H => (.then (.Z2X 6 rfl (by kernel_rfl) H fun b25 σ H B25 => (.ZX (off := 0) (cs := [(vi n.Vars), (vl Form.cs n.Forms), (vl Con.cs n.Cons)]) H 0 rfl rfl rfl rfl rfl rfl rfl (fun _ => .inl ⟨B25 0 _ rfl _ rfl, nofun, (fun _ => by kernel_rfl)⟩) rfl ?_)))))
   refine .ZX (off := 0) (cs := [(vi n.Vars), (vl Form.cs n.Forms), (vl Con.cs n.Cons)]) H 0 rfl rfl rfl rfl rfl rfl rfl (fun _ => .inl ⟨B25 0 _ rfl _ rfl, nofun, (fun _ => by kernel_rfl)⟩) rfl (.Z0t (cs := [(vi 0), .nils, .nils]) H (by omega) (by omega) rfl rfl fun σ H => (.Z0t (cs := [(vi 0), .nils, .nils]) H (by omega) (by omega) rfl rfl fun σ H => (.Z0U (off := 0) (cells' := [(vi n.Vars), (vl Form.cs n.Forms), (vl Con.cs n.Cons)]) H 1 rfl rfl rfl rfl rfl rfl rfl rfl rfl (fun _ => .inr ⟨2, rfl, by kernel_rfl, by decide⟩) fun σ H => (.Z0U (off := 0) (cells' := [(vi n.Vars), (vl Form.cs n.Forms), (vl Con.cs n.Cons)]) H 0 rfl rfl rfl rfl rfl rfl rfl rfl rfl (fun _ => .inr ⟨3, rfl, by kernel_rfl, by decide⟩) fun σ H => (.nila H fun H => ?_)))))
   refine .then (.Z2X 12 rfl (by kernel_rfl) H fun b26 σ H B26 => (.Z2 (off := 0) (fo := 2) H 2 rfl rfl rfl rfl rfl (fun _ => .inl ⟨B26 2 _ rfl _ rfl, nofun, (fun _ => by kernel_rfl)⟩) rfl (.ZQ (off := 2) (v := (vl Con.cs n.Cons)) H 2 rfl rfl rfl rfl rfl (fun _ => .inl ⟨B26 2 _ rfl _ rfl, nofun, (fun _ => by kernel_rfl)⟩) rfl (.move (v := (vi ((w64 cut).tmod (w64 ((n.Cons.length : Int) + 1))))) rfl rfl ?_))))
   obtain ⟨x20, q22, h⟩ := bind_some h
   refine .sliceP01 (c := Con.cs) q22 rfl rfl rfl rfl (fun _ => rfl) rfl (.Z2 (off := 0) (fo := 2) H 2 rfl rfl rfl rfl rfl (fun _ => .inl ⟨B26 2 _ rfl _ rfl, nofun, (fun _ => by kernel_rfl)⟩) rfl (.loadHR (off := 2) (v := (vl Con.cs n.Cons)) H 2 rfl rfl rfl rfl rfl (fun _ => ⟨B26 2 _ rfl _ rfl, _, rfl, mem_one⟩) rfl (.move (v := (vi ((w64 cut).tmod (w64 ((n.Cons.length : Int) + 1))))) rfl rfl ?_)))
   obtain ⟨x21, q23, h⟩ := bind_some h
   refine .sliceP10 (c := Con.cs) q23 rfl rfl rfl rfl (fun _ => rfl) rfl (.Z2 (off := 0) (fo := 2) H 1 rfl rfl rfl rfl rfl (fun _ => .inl ⟨B26 1 _ rfl _ rfl, nofun, (fun _ => by kernel_rfl)⟩) rfl (.Z0U (off := 2) (cells' := [(vi n.Vars), (vl Form.cs n.Forms), (vl Con.cs x20)]) H 1 rfl rfl rfl rfl rfl rfl rfl rfl rfl (fun _ => .inl ⟨B26 1 _ rfl _ rfl, (Z9Z [4, 5] (by kernel_rfl) (.cons rfl rfl (ne_one (H.ne (j := 1) (k := 2) rfl rfl rfl rfl rfl)) (.cons rfl rfl (ne_one (H.ne (j := 1) (k := 2) rfl rfl rfl rfl rfl)) .nil)))⟩) fun σ H => (.Z2 (off := 0) (fo := 2) H 0 rfl rfl rfl rfl rfl (fun _ => .inl ⟨B26 0 _ rfl _ rfl, nofun, (fun _ => by kernel_rfl)⟩) rfl (.Z0U (off := 2) (cells' := [(vi n.Vars), (vl Form.cs n.Forms), (vl Con.cs x21)]) H 0 rfl rfl rfl rfl rfl rfl rfl rfl rfl (fun _ => .inl ⟨B26 0 _ rfl _ rfl, (Z44 (by kernel_rfl))⟩) fun σ H => (.nila H fun H => ?_)))))
   refine .then (.Z0 8 rfl H fun b27 σ H => (.ZX (off := 0) (cs := [(vi n.Vars), (vl Form.cs n.Forms), (vl Con.cs x20)]) H 1 rfl rfl rfl rfl rfl rfl rfl nofun rfl (.move (v := (vl (cI .i64) x19)) rfl rfl ?_)))
   obtain ⟨x22, q24, h⟩ := bind_some h
   refine .Z8G (ys := [(.agg (vs (Net.cs (Net.mk n.Vars n.Forms x20)))), (vl (cI .i64) x19)]) H rfl (Z1I q24) nofun rfl ?_; rintro _ _ σ ⟨w10, rfl, rfl⟩ H
   refine .move (v := (.tup [w10, (vi x22.2)])) rfl rfl (.extract (v := w10) rfl rfl rfl (.extract (v := (vi x22.2)) rfl rfl rfl (.assign (v := w10) rfl rfl (.assign (v := (vi x22.2)) rfl rfl (.nila H fun H => ?_)))))
   refine .then (.Z0 8 rfl H fun b28 σ H => (.ZX (off := 0) (cs := [(vi n.Vars), (vl Form.cs n.Forms), (vl Con.cs x21)]) H 1 rfl rfl rfl rfl rfl rfl rfl nofun rfl (.move (v := (vl (cI .i64) x19)) rfl rfl ?_)))
   obtain ⟨x23, q25, h⟩ := bind_some h
   refine .Z8G (ys := [(.agg (vs (Net.cs (Net.mk n.Vars n.Forms x21)))), (vl (cI .i64) x19)]) H rfl (Z1I q25) nofun rfl ?_; rintro _ _ σ ⟨w11, rfl, rfl⟩ H
   refine .move (v := (.tup [w11, (vi x23.2)])) rfl rfl (.extract (v := w11) rfl rfl rfl (.extract (v := (vi x23.2)) rfl rfl rfl (.assign (v := w11) rfl rfl (.assign (v := (vi x23.2)) rfl rfl (.nila H fun H => ?_)))))
   refine .then (.Z0 8 rfl H fun b29 σ H => (.ZX (off := 0) (cs := [(vi n.Vars), (vl Form.cs n.Forms), (vl Con.cs n.Cons)]) H 4 rfl rfl rfl rfl rfl rfl rfl nofun rfl (.move (v := (vl (cI .i64) x19)) rfl rfl ?_)))
   obtain ⟨x24, q26, h⟩ := bind_some h
   refine .Z8G (ys := [(.agg (vs (Net.cs n))), (vl (cI .i64) x19)]) H rfl (Z1I q26) nofun rfl ?_; rintro _ _ σ ⟨w12, rfl, rfl⟩ H
   refine .move (v := (.tup [w12, (vi x24.2)])) rfl rfl (.extract (v := w12) rfl rfl rfl (.extract (v := (vi x24.2)) rfl rfl rfl (.assign (v := w12) rfl rfl (.assign (v := (vi x24.2)) rfl rfl (.nila H fun H => ?_)))))
   refine .then (.then (.Z0 8 rfl H fun b30 σ H => (.move (v := (vi x22.2)) rfl rfl (.move (v := (vi x23.2)) rfl rfl (.int (m := x22.2) (m' := x23.2) (r := .bool (x22.2 != x23.2)) rfl rfl rfl rfl rfl ?_)))))
   refine .move (v := (vb (x22.2 != x23.2))) rfl rfl ?_
   refine .mid 4 (K1 := fun e σ => Z4 e [(83, (vb ((x22.2 != x23.2) || (x22.2 != x24.2)))), (1, (vl (cI .i64) x19)), (3, (.ptr (b1 + 0) 3 0)), (7, (vi ((w64 cut).tmod (w64 ((n.Cons.length : Int) + 1))))), (8, (.ptr (b25 + 2) 3 0)), (9, (.ptr (b25 + 3) 3 0)), (10, w10), (11, (vi x22.2)), (12, w11), (14, w12)] ∧ Has σ (b30 + 8) (b30 + 8) [.sl w12 3 1 (x24.1.map (cI .i64)) true, .sl w11 3 1 (x23.1.map (cI .i64)) true, .sl w10 3 1 (x22.1.map (cI .i64)) true, .blk (b25 + 3) 36 [(vi n.Vars), (vl Form.cs n.Forms), (vl Con.cs x21)], .blk (b25 + 2) 36 [(vi n.Vars), (vl Form.cs n.Forms), (vl Con.cs x20)], .blk (b1 + 0) 36 [(vi n.Vars), (vl Form.cs n.Forms), (vl Con.cs n.Cons)]]) rfl ?_ ?_
   ·refine .split rfl rfl ?_ ?_ <;> intro hc12
    ·skip
     refine .pass rfl rfl rfl (.pass rfl rfl rfl (.pass rfl rfl rfl (.Ze (v := (vb true)) rfl rfl rfl (.nil ?_))))
     exact ⟨⟨or_T hc12, rfl, rfl, rfl, rfl, rfl, rfl, rfl, rfl, rfl, trivial⟩, H.weak (by omega) (Nat.le_refl _)⟩
    ·skip
     refine .wanted rfl rfl (.move (v := (vi x22.2)) rfl rfl (.wanted rfl rfl (.move (v := (vi x24.2)) rfl rfl (.wanted rfl rfl (.int (m := x22.2) (m' := x24.2) (r := .bool (x22.2 != x24.2)) rfl rfl rfl rfl rfl ?_)))))
     refine .Zg (v := (vb (x22.2 != x24.2))) rfl rfl rfl (.nil ?_)
     exact ⟨⟨or_F hc12, rfl, rfl, rfl, rfl, rfl, rfl, rfl, rfl, rfl, trivial⟩, H.weak (by omega) (Nat.le_refl _)⟩
   ·rintro e σ ⟨he, H⟩
    obtain ⟨e, rfl⟩ := he.ex
    refine .nila H fun H => ?_
    refine .whether (v := ((x22.2 != x23.2) || (x22.2 != x24.2))) rfl ?_ ?_ <;> intro hc13
    ·replace h := Z6 hc13 h
     refine .then (.Z0 1 rfl H fun b31 σ H => (.assign (v := (vb false)) rfl rfl (.nila H fun H => (.ret ?_))))
     replace h := sj h; subst h
     exact (Ends.H (xs := [(vb false)]) (.inr rfl) H (.tmp (v := (vb false)) rfl .nil) (.one (.c (.v _))))
    ·replace h := Z7 hc13 h
     refine .skip (.then (.then (.Z0 3 rfl H fun b32 σ H => (.move (v := w11) rfl rfl (.Z6Z (c := (cI .i64)) (xs := x23.1) H 1 rfl rfl rfl nofun rfl ?_)))))
     refine .move (v := (vi 0)) rfl rfl (.nila H fun H => (.inBlock ?_))
     obtain ⟨y6, hj6, h⟩ := bind_some h
     obtain ⟨n8, hj6⟩ := Zc.1 hj6
     refine .mono (Runs.ZJ hj6 (fun s3 e σ => ∃ (w15 : PV), Z4 e [(1, (vl (cI .i64) x19)), (3, (.ptr (b1 + 0) 3 0)), (7, (vi ((w64 cut).tmod (w64 ((n.Cons.length : Int) + 1))))), (8, (.ptr (b25 + 2) 3 0)), (9, (.ptr (b25 + 3) 3 0)), (10, w15), (11, (vi x22.2)), (14, w12), (84, w11), (85, (vi (x23.1.length : Int))), (86, (vi s3.1))] ∧ Hs σ [.sl w12 3 1 (x24.1.map (cI .i64)) true, .sl w11 3 1 (x23.1.map (cI .i64)) true, .sl w15 3 1 (s3.2.map (cI .i64)) true, .blk (b25 + 3) 36 [(vi n.Vars), (vl Form.cs n.Forms), (vl Con.cs x21)], .blk (b25 + 2) 36 [(vi n.Vars), (vl Form.cs n.Forms), (vl Con.cs x20)], .blk (b1 + 0) 36 [(vi n.Vars), (vl Form.cs n.Forms), (vl Con.cs n.Cons)]]) (fun y6 x e σ => ∃ (w16 : PV), x = .exit 2 ∧ Z4 e [(1, (vl (cI .i64) x19)), (3, (.ptr (b1 + 0) 3 0)), (8, (.ptr (b25 + 2) 3 0)), (9, (.ptr (b25 + 3) 3 0)), (10, w16), (11, (vi x22.2)), (14, w12)] ∧ Hs σ [.sl w12 3 1 (x24.1.map (cI .i64)) true, .sl w16 3 1 (y6.map (cI .i64)) true, .blk (b25 + 3) 36 [(vi n.Vars), (vl Form.cs n.Forms), (vl Con.cs x21)], .blk (b25 + 2) 36 [(vi n.Vars), (vl Form.cs n.Forms), (vl Con.cs x20)], .blk (b1 + 0) 36 [(vi n.Vars), (vl Form.cs n.Forms), (vl Con.cs n.Cons)]]) ⟨w10, ⟨rfl, rfl, rfl, rfl, rfl, rfl, rfl, rfl, rfl, rfl, rfl, trivial⟩, H⟩ ?_) ?_
     ·intro s3 e σ hI z h
      obtain ⟨w15, he, H⟩ := hI
      obtain ⟨e, rfl⟩ := he.ex
      unfold ZR.s2 at h
      refine .then (.Z0 1 rfl H fun b33 σ H => (.int (m := s3.1) (m' := (x23.1.length : Int)) (r := .bool (decide (s3.1 < (x23.1.length : Int)))) rfl rfl rfl rfl rfl (.nila H fun H => (.then ?_))))
      refine .whether (v := (decide (s3.1 < (x23.1.length : Int)))) rfl ?_ ?_ <;> intro hc14
      ·replace h := Z6 hc14 h
       refine .skip (.then (.inBlock (.then (.Z0 3 rfl H fun b34 σ H => ?_))))
       obtain ⟨x25, q27, h⟩ := bind_some h
       refine .indexS H 1 rfl rfl rfl (at?_map q27) rfl rfl nofun rfl ?_; intro id7 hv2
       refine .loadS (id := id7) (j := 0) (w := (.int .i64 x25)) H 1 rfl hv2 (by simp) (at?_map q27) rfl (by simp) rfl rfl rfl nofun rfl ?_
       refine .assign (v := (vi x25)) rfl rfl (.nila H fun H => (.Z0 7 rfl H fun b35 σ H => (.move (v := w15) rfl rfl (.move (v := (vi x25)) rfl rfl (.move (v := (vi ((w64 cut).tmod (w64 ((n.Cons.length : Int) + 1))))) rfl rfl ?_)))))
       refine .int (m := x25) (m' := ((w64 cut).tmod (w64 ((n.Cons.length : Int) + 1)))) (r := .int .i64 (w64 (x25 + ((w64 cut).tmod (w64 ((n.Cons.length : Int) + 1)))))) rfl rfl rfl rfl rfl (.Z2o (sz := 1) ([(w64 (x25 + ((w64 cut).tmod (w64 ((n.Cons.length : Int) + 1)))))].map (cI .i64)) H (by omega) (by omega) rfl rfl rfl rfl rfl rfl rfl rfl rfl fun σ H => ?_)
       obtain ⟨x26, q28, h⟩ := bind_some h
       refine .Z5u (c := (cI .i64)) (v := w15) (w := (.buf (b35 + 4) 1 1)) (xs := s3.2) (ys := [(w64 (x25 + ((w64 cut).tmod (w64 ((n.Cons.length : Int) + 1)))))]) H (by omega) (by omega) 3 rfl rfl rfl (.s 0 rfl) q28 rfl rfl rfl rfl rfl nofun rfl fun w17 σ H => (.assign (v := w17) rfl rfl (.nila H fun H => (.Z0 2 rfl H fun b36 σ H => (.int (m := s3.1) (m' := 1) (r := .int .i64 (w64 (s3.1 + 1))) rfl rfl rfl rfl rfl (.move (v := (vi (w64 (s3.1 + 1)))) rfl rfl ?_)))))
       refine .nila H fun H => ?_
       replace h := sj h; subst h
       exact ⟨rfl, w17, ⟨rfl, rfl, rfl, rfl, rfl, rfl, rfl, rfl, rfl, rfl, rfl, trivial⟩, (H.erase 0)⟩
      ·replace h := Z7 hc14 h
       refine .exit ?_
       replace h := sj h; subst h
       exact ⟨nofun, ⟨w15, rfl, ⟨rfl, rfl, rfl, rfl, rfl, rfl, rfl, trivial⟩, (H.erase 1)⟩⟩
     ·rintro x e σ ⟨w18, rfl, he, H⟩
      obtain ⟨e, rfl⟩ := he.ex
      refine .then (.Z2X 34 rfl (by kernel_rfl) H fun b37 σ H B37 => (.move (v := w18) rfl rfl (.move (v := w12) rfl rfl ?_)))
      obtain ⟨x27, q29, h⟩ := bind_some h
      refine .Z6W (xs := [w18, w12]) (ys := [(vl (cI .i64) y6), (vl (cI .i64) x24.1)]) H rfl (.cons (.c (.s 1 rfl)) (.cons (.c (.s 0 rfl)) .nil)) (Z1o q29) rfl rfl (fun _ => by kernel_rfl) rfl fun σ H => (.move (v := (vb x27)) rfl rfl ?_)
      obtain ⟨y7, hj7, h⟩ := bind_some h
      refine .mid 12 (K1 := fun e σ => Z4 e [(112, (vb y7)), (1, (vl (cI .i64) x19)), (3, (.ptr (b1 + 0) 3 0)), (8, (.ptr (b25 + 2) 3 0)), (9, (.ptr (b25 + 3) 3 0))] ∧ Has σ (b37 + 16) (b37 + 34) [.blk (b25 + 3) 36 [(vi n.Vars), (vl Form.cs n.Forms), (vl Con.cs x21)], .blk (b25 + 2) 36 [(vi n.Vars), (vl Form.cs n.Forms), (vl Con.cs x20)], .blk (b1 + 0) 36 [(vi n.Vars), (vl Form.cs n.Forms), (vl Con.cs n.Cons)]]) rfl ?_ ?_
      ·refine .split rfl rfl ?_ ?_ <;> intro hc15
       ·replace h := Z6 hc15 hj7
        refine .wanted rfl rfl (.ZX (off := 0) (cs := [(vi n.Vars), (vl Form.cs n.Forms), (vl Con.cs n.Cons)]) H 4 rfl rfl rfl rfl rfl rfl rfl (fun _ => .inl ⟨B37 4 _ rfl _ rfl, nofun, (fun _ => by kernel_rfl)⟩) rfl (.wanted rfl rfl (.move (v := (vl (cI .i64) x19)) rfl rfl (.wanted rfl rfl ?_))))
        obtain ⟨x28, q30, h⟩ := bind_some h
        refine .call (ys := [(.agg [(vi n.Vars), (vl Form.cs n.Forms), (vl Con.cs n.Cons)]), (vl (cI .i64) x19)]) (r := (vb x28)) rfl (Z10 q30) rfl (.wanted rfl rfl (.move (v := (vi x22.2)) rfl rfl (.wanted rfl rfl (.int (m := x22.2) (m' := 0) (r := .bool (x22.2 == 0)) rfl rfl rfl rfl rfl (.wanted rfl rfl ?_)))))
        refine .move (v := (vb (x22.2 == 0))) rfl rfl ?_
        refine .mid 4 (K1 := fun e σ => Z4 e [(110, (vb ((x22.2 == 0) && ((x24.1.length : Int) == 0)))), (1, (vl (cI .i64) x19)), (3, (.ptr (b1 + 0) 3 0)), (8, (.ptr (b25 + 2) 3 0)), (9, (.ptr (b25 + 3) 3 0)), (100, (vb true)), (103, (vb x28))] ∧ Has σ (b37 + 14) (b37 + 34) [.blk (b25 + 3) 36 [(vi n.Vars), (vl Form.cs n.Forms), (vl Con.cs x21)], .blk (b25 + 2) 36 [(vi n.Vars), (vl Form.cs n.Forms), (vl Con.cs x20)], .blk (b1 + 0) 36 [(vi n.Vars), (vl Form.cs n.Forms), (vl Con.cs n.Cons)]]) rfl ?_ ?_
        ·refine .split rfl rfl ?_ ?_ <;> intro hc16
         ·skip
          refine .wanted rfl rfl (.move (v := w12) rfl rfl (.wanted rfl rfl (.Z6Z (c := (cI .i64)) (xs := x24.1) H 0 rfl rfl rfl (fun _ id ho => .inl ⟨B37 0 _ rfl id ho, nofun, (fun _ => by kernel_rfl)⟩) rfl (.wanted rfl rfl (.int (m := (x24.1.length : Int)) (m' := 0) (r := .bool ((x24.1.length : Int) == 0)) rfl rfl rfl rfl rfl ?_)))))
          refine .wanted rfl rfl (.Ze (v := (vb ((x24.1.length : Int) == 0))) rfl rfl rfl (.nil ?_))
          exact ⟨⟨Z1D hc16, rfl, rfl, rfl, rfl, rfl, rfl, trivial⟩, ((H.erase 1).erase 0).weak (by omega) (Nat.le_refl _)⟩
         ·skip
          refine .pass rfl rfl rfl (.pass rfl rfl rfl (.pass rfl rfl rfl (.wanted rfl rfl (.Zg (v := (vb false)) rfl rfl rfl (.nil ?_)))))
          exact ⟨⟨Z1E hc16, rfl, rfl, rfl, rfl, rfl, rfl, trivial⟩, ((H.erase 1).erase 0).weak (by omega) (Nat.le_refl _)⟩
        ·rintro e σ ⟨he, H⟩
         obtain ⟨e, rfl⟩ := he.ex
         refine .wanted rfl rfl (.eqB (b := x28) (b' := ((x22.2 == 0) && ((x24.1.length : Int) == 0))) rfl rfl rfl rfl (.Ze (v := (vb (x28 == ((x22.2 == 0) && ((x24.1.length : Int) == 0))))) rfl rfl rfl (.nil ?_)))
         replace h := sj h; subst h
         exact ⟨⟨rfl, rfl, rfl, rfl, rfl, trivial⟩, H.weak (by omega) (Nat.le_refl _)⟩
       ·replace h := Z7 hc15 hj7
        refine .pass rfl rfl rfl (.pass rfl rfl rfl (.pass rfl rfl rfl (.pass rfl rfl rfl (.pass rfl rfl rfl (.pass rfl rfl rfl ?_)))))
        refine .Z0S rfl rfl rfl (.Z0S rfl rfl rfl (.Z0S rfl rfl rfl (.pass rfl rfl rfl (.pass rfl rfl rfl (.Zg (v := (vb false)) rfl rfl rfl ?_)))))
        refine .nil ?_
        replace h := sj h; subst h
        exact ⟨⟨rfl, rfl, rfl, rfl, rfl, trivial⟩, ((H.erase 1).erase 0).weak (by omega) (Nat.le_refl _)⟩
      ·rintro e σ ⟨he, H⟩
       obtain ⟨e, rfl⟩ := he.ex
       refine .move (v := (vb y7)) rfl rfl ?_
       obtain ⟨y8, hj8, h⟩ := bind_some h
       refine .mid 13 (K1 := fun e σ => Z4 e [(126, (vb y8))] ∧ Has σ (b37 + 30) (b37 + 34) []) rfl ?_ ?_
       ·refine .split rfl rfl ?_ ?_ <;> intro hc17
        ·replace h := Z6 hc17 hj8
         refine .wanted rfl rfl (.ZX (off := 0) (cs := [(vi n.Vars), (vl Form.cs n.Forms), (vl Con.cs n.Cons)]) H 2 rfl rfl rfl rfl rfl rfl rfl (fun _ => .inl ⟨B37 4 _ rfl _ rfl, nofun, (fun _ => by kernel_rfl)⟩) rfl (.wanted rfl rfl (.move (v := (vl (cI .i64) x19)) rfl rfl (.wanted rfl rfl ?_))))
         obtain ⟨x29, q31, h⟩ := bind_some h
         refine .call (ys := [(.agg [(vi n.Vars), (vl Form.cs n.Forms), (vl Con.cs n.Cons)]), (vl (cI .i64) x19)]) (r := (vb x29)) rfl (Z10 q31) rfl (.wanted rfl rfl (.ZX (off := 0) (cs := [(vi n.Vars), (vl Form.cs n.Forms), (vl Con.cs x20)]) H 1 rfl rfl rfl rfl rfl rfl rfl (fun _ => .inl ⟨B37 3 _ rfl _ rfl, nofun, (fun _ => by kernel_rfl)⟩) rfl (.wanted rfl rfl (.move (v := (vl (cI .i64) x19)) rfl rfl (.wanted rfl rfl ?_)))))
         obtain ⟨x30, q32, h⟩ := bind_some h
         refine .call (ys := [(.agg [(vi n.Vars), (vl Form.cs n.Forms), (vl Con.cs x20)]), (vl (cI .i64) x19)]) (r := (vb x30)) rfl (Z10 q32) rfl (.wanted rfl rfl (.move (v := (vb x30)) rfl rfl ?_))
         obtain ⟨y9, hj9, h⟩ := bind_some h
         refine .mid 4 (K1 := fun e σ => Z4 e [(124, (vb y9)), (113, (vb true)), (116, (vb x29))] ∧ Has σ (b37 + 28) (b37 + 34) []) rfl ?_ ?_
         ·refine .split rfl rfl ?_ ?_ <;> intro hc18
          ·replace h := Z6 hc18 hj9
           refine .wanted rfl rfl (.ZX (off := 0) (cs := [(vi n.Vars), (vl Form.cs n.Forms), (vl Con.cs x21)]) H 0 rfl rfl rfl rfl rfl rfl rfl (fun _ => .inl ⟨B37 2 _ rfl _ rfl, nofun, (fun _ => by kernel_rfl)⟩) rfl (.wanted rfl rfl (.move (v := (vl (cI .i64) x19)) rfl rfl (.wanted rfl rfl ?_))))
           obtain ⟨x31, q33, h⟩ := bind_some h
           refine .call (ys := [(.agg [(vi n.Vars), (vl Form.cs n.Forms), (vl Con.cs x21)]), (vl (cI .i64) x19)]) (r := (vb x31)) rfl (Z10 q33) rfl (.wanted rfl rfl (.Ze (v := (vb x31)) rfl rfl rfl (.nil ?_)))
           replace h := sj h; subst h
           exact ⟨⟨rfl, rfl, rfl, trivial⟩, (((H.erase 2).erase 1).erase 0).weak (by omega) (Nat.le_refl _)⟩
          ·replace h := Z7 hc18 hj9
           refine .pass rfl rfl rfl (.pass rfl rfl rfl (.pass rfl rfl rfl (.wanted rfl rfl (.Zg (v := (vb false)) rfl rfl rfl (.nil ?_)))))
           replace h := sj h; subst h
           exact ⟨⟨rfl, rfl, rfl, trivial⟩, (((H.erase 2).erase 1).erase 0).weak (by omega) (Nat.le_refl _)⟩
         ·rintro e σ ⟨he, H⟩
          obtain ⟨e, rfl⟩ := he.ex
          refine .wanted rfl rfl (.eqB (b := x29) (b' := y9) rfl rfl rfl rfl (.Ze (v := (vb (x29 == y9))) rfl rfl rfl (.nil ?_)))
          replace h := sj h; subst h
          exact ⟨⟨rfl, trivial⟩, H.weak (by omega) (Nat.le_refl _)⟩
        ·replace h := Z7 hc17 hj8
         refine .pass rfl rfl rfl (.pass rfl rfl rfl (.pass rfl rfl rfl (.pass rfl rfl rfl (.pass rfl rfl rfl (.pass rfl rfl rfl ?_)))))
         refine .pass rfl rfl rfl (.Z0S rfl rfl rfl (.Z0S rfl rfl rfl (.Z0S rfl rfl rfl (.pass rfl rfl rfl (.pass rfl rfl rfl ?_)))))
         refine .Zg (v := (vb false)) rfl rfl rfl (.nil ?_)
         replace h := sj h; subst h
         exact ⟨⟨rfl, trivial⟩, (((H.erase 2).erase 1).erase 0).weak (by omega) (Nat.le_refl _)⟩
       ·rintro e σ ⟨he, H⟩
        obtain ⟨e, rfl⟩ := he.ex
        refine .move (v := (vb y8)) rfl rfl ?_
        refine .mid 2 (K1 := fun e σ => Z4 e [(129, (vb (y8 && ZV)))] ∧ Has σ (b37 + 33) (b37 + 34) []) rfl ?_ ?_
        ·refine .split rfl rfl ?_ ?_ <;> intro hc19
         ·skip
          refine .wanted rfl rfl (.call (ys := []) (r := (vb ZV)) rfl (Z2Y rfl) rfl (.Ze (v := (vb ZV)) rfl rfl rfl (.nil ?_)))
          exact ⟨⟨Z1D hc19, trivial⟩, H.weak (by omega) (Nat.le_refl _)⟩
         ·skip
          refine .pass rfl rfl rfl (.Zg (v := (vb false)) rfl rfl rfl (.nil ?_))
          exact ⟨⟨Z1E hc19, trivial⟩, H.weak (by omega) (Nat.le_refl _)⟩
        ·rintro e σ ⟨he, H⟩
         obtain ⟨e, rfl⟩ := he.ex
         refine .assign (v := (vb (y8 && ZV))) rfl rfl (.nila H fun H => (.ret ?_))
         replace h := sj h; subst h
         exact (Ends.H (xs := [(vb (y8 && ZV))]) (.inr rfl) H (.tmp (v := (vb (y8 && ZV))) rfl .nil) (.one (.c (.v _))))

end Go.Dn

namespace Go.Dn
open Go

theorem Z0l {S R : Type} {step : S → Option (S ⊕ R)} (I : S → Prop) (m : S → Nat) (post : R → Prop)
  (h : ∀ s, I s → (∃ s', step s = some (.inl s') ∧ I s' ∧ m s' < m s) ∨ (∃ r, step s = some (.inr r) ∧ post r)) : ∀ s, I s → ∃ r, ZJ step s = some r ∧ post r := by
 have key : ∀ n s, m s = n → I s → ∃ r, ZJ step s = some r ∧ post r := by
  intro n
  induction n using Nat.strongRecOn with
  | _ n ih =>
   intro s hm hI
   rcases h s hI with ⟨s', h1, h2, h3⟩ | ⟨r, h1, h2⟩
   ·obtain ⟨r, q1, q2⟩ := ih (m s') (by omega) s' rfl h2
    exact ⟨r, by rw [loopO_eq, h1]; exact q1, q2⟩
   ·exact ⟨r, by rw [loopO_eq, h1], h2⟩
 exact fun s hI => key _ s rfl hI

theorem Z1z {S R : Type} {step : S → Option (S ⊕ R)} (I : S → R → Prop) (m : S → Nat)
  (h : ∀ s r, I s r → (∃ s', step s = some (.inl s') ∧ I s' r ∧ m s' < m s) ∨ step s = some (.inr r)) {s : S} {r : R} (hI : I s r) : ZJ step s = some r := by
 obtain ⟨r', h1, h2⟩ := Z0l (I := fun s => I s r) m (fun r' => r' = r) (fun s hs => by
  rcases h s r hs with ⟨s', h1, h2, h3⟩ | h1
  ·exact .inl ⟨s', h1, h2, h3⟩
  ·exact .inr ⟨r, h1, rfl⟩) s hI
 rw [h1, h2]

theorem Z4G (a : Int) : IntKind.i64.wrap a = (a + 9223372036854775808) % 18446744073709551616 - 9223372036854775808 := by
 simp [IntKind.wrap, IntKind.bits, IntKind.signed]
 split <;> omega
theorem Z59 (a : Int) : IntKind.u64.wrap a = a % 18446744073709551616 := by
 simp [IntKind.wrap, IntKind.bits, IntKind.signed]
theorem okI_u8 {x : Int} : okI .u8 x ↔ 0 ≤ x ∧ x ≤ 255 := Iff.rfl
theorem Zn {x : Int} (h : -9223372036854775808 ≤ x ∧ x ≤ 9223372036854775807) : w64 x = x := by
 unfold w64; rw [Z4G]; omega
theorem Z86 : maxLen = 9223372036854775807 := rfl
theorem Z6M : room = 140737488355328 := rfl

theorem at?_lt {α : Type} {l : List α} {i : Int} (h0 : 0 ≤ i) (h : i < l.length) : at? l i = some (l[i.toNat]'(by omega)) := by
 unfold at?; rw [if_pos h0, List.getElem?_eq_getElem]
theorem at?_nat {α : Type} {l : List α} {k : Nat} (h : k < l.length) : at? l (k : Int) = some l[k] := by
 rw [at?_lt (by omega) (by omega)]; rfl
theorem app?_ok {α : Type} {b : Nat} {l m : List α} (h : (l.length + m.length) * b ≤ room) : app? b l m = some (l ++ m) := if_pos h
theorem nz?_ok {b : Int} (h : b ≠ 0) : nz? b = some () := if_neg h

theorem beq_t {a b : Int} (h : a = b) : (a == b) = true := by simp [h]
theorem beq_f {a b : Int} (h : a ≠ b) : (a == b) = false := by simp [h]
theorem bne_f {a b : Int} (h : a = b) : (a != b) = false := by simp [h]
theorem ibeq (a b : Int) : (a == b) = decide (a = b) := by by_cases h : a = b <;> simp [h]
theorem Zm {p : Prop} [Decidable p] (h : p) : decide p = true := by simp [h]
theorem Z02 {p : Prop} [Decidable p] (h : ¬ p) : decide p = false := by simp [h]

theorem Z6A {α : Type} (c : Bool) (a b : α) : (bif c then a else b) = if c = true then a else b := by cases c <;> rfl

theorem Z81 {α : Type} {l : List α} {good : Nat → α → Prop} (h : ¬ ∀ k x, l[k]? = some x → good k x) : ∃ (k : Nat) (x : α), l[k]? = some x ∧ ¬ good k x ∧ ∀ j y, j < k → l[j]? = some y → good j y := by
 have hex : ∃ k : Nat, ∃ x, l[k]? = some x ∧ ¬ good k x := by
  apply Classical.byContradiction
  intro hn
  exact h fun k x hk => Classical.byContradiction fun hg => hn ⟨k, x, hk, hg⟩
 obtain ⟨k, hk⟩ := hex
 induction k using Nat.strongRecOn with
 | _ k ih =>
  by_cases h : ∃ j, j < k ∧ ∃ x, l[j]? = some x ∧ ¬ good j x
  ·obtain ⟨j, hj, hx⟩ := h
   exact ih j hj hx
  ·obtain ⟨x, hx, hb⟩ := hk
   exact ⟨k, x, hx, hb, fun j y hj hy => Classical.byContradiction fun hg => h ⟨j, hj, y, hy, hg⟩⟩

theorem Z4D {α R : Type} {l : List α} {step : Int → Option (Int ⊕ R)} (good : Nat → α → Prop) {no yes : R}
  (hstep : ∀ (k : Nat) (x : α), l[k]? = some x → (∀ j y, j < k → l[j]? = some y → good j y) → (step (k : Int) = some (.inl ((k : Int) + 1)) ∧ good k x) ∨ (step (k : Int) = some (.inr no) ∧ ¬ good k x))
  (hend : step (l.length : Int) = some (.inr yes)) : (ZJ step 0 = some yes ∧ ∀ k x, l[k]? = some x → good k x) ∨ (ZJ step 0 = some no ∧ ¬ ∀ k x, l[k]? = some x → good k x) := by
 by_cases hall : ∀ k x, l[k]? = some x → good k x
 ·refine .inl ⟨?_, hall⟩
  refine Z1z (I := fun (s : Int) r => r = yes ∧ ∃ k : Nat, s = k ∧ k ≤ l.length) (fun s => (l.length - s.toNat)) ?_ ⟨rfl, 0, rfl, Nat.zero_le _⟩
  rintro s r ⟨rfl, k, rfl, hk⟩
  by_cases hlt : k < l.length
  ·rcases hstep k l[k] (List.getElem?_eq_getElem hlt) (fun j y _ hy => hall j y hy) with ⟨h1, _⟩ | ⟨_, h2⟩
   ·exact .inl ⟨_, h1, ⟨rfl, k + 1, by push_cast; rfl, hlt⟩, by simp; omega⟩
   ·exact absurd (hall k _ (List.getElem?_eq_getElem hlt)) h2
  ·have : k = l.length := by omega
   subst this
   exact .inr hend
 ·refine .inr ⟨?_, hall⟩
  obtain ⟨k0, x0, hx0, hb0, hgood⟩ := Z81 hall
  have hlt0 := (List.getElem?_eq_some_iff.1 hx0).1
  refine Z1z (I := fun (s : Int) r => r = no ∧ ∃ k : Nat, s = k ∧ k ≤ k0) (fun s => (l.length - s.toNat)) ?_ ⟨rfl, 0, rfl, Nat.zero_le _⟩
  rintro s r ⟨rfl, k, rfl, hk⟩
  by_cases hlt : k < k0
  ·have hkl : k < l.length := by omega
   rcases hstep k l[k] (List.getElem?_eq_getElem hkl) (fun j y hj hy => hgood j y (by omega) hy) with ⟨h1, _⟩ | ⟨_, h2⟩
   ·exact .inl ⟨_, h1, ⟨rfl, k + 1, by push_cast; rfl, hlt⟩, by simp; omega⟩
   ·exact absurd (hgood k _ hlt (List.getElem?_eq_getElem hkl)) h2
  ·have : k = k0 := by omega
   subst this
   rcases hstep k x0 hx0 hgood with ⟨_, h2⟩ | ⟨h1, _⟩
   ·exact absurd h2 hb0
   ·exact .inr h1

theorem fold_loop {α A R : Type} {l : List α} {step : A × Int → Option ((A × Int) ⊕ R)} (f : A → Nat → α → A) (fin : A → R) (I : Nat → A → Prop) {a0 : A} (h0 : I 0 a0)
  (hgo : ∀ (k : Nat) (x : α) (a : A), l[k]? = some x → I k a → step (a, (k : Int)) = some (.inl (f a k x, (k : Int) + 1)) ∧ I (k + 1) (f a k x))
  (hend : ∀ a, I l.length a → step (a, (l.length : Int)) = some (.inr (fin a))) : ∃ a, ZJ step (a0, 0) = some (fin a) ∧ I l.length a := by
 obtain ⟨r, h1, a, rfl, h2⟩ := Z0l (step := step) (I := fun s => ∃ (k : Nat) (a : A), s = (a, (k : Int)) ∧ k ≤ l.length ∧ I k a) (fun s => l.length - s.2.toNat) (fun r => ∃ a, r = fin a ∧ I l.length a) (by
  rintro s ⟨k, a, rfl, hk, hI⟩
  by_cases hlt : k < l.length
  ·obtain ⟨q1, q2⟩ := hgo k l[k] a (List.getElem?_eq_getElem hlt) hI
   exact .inl ⟨_, q1, ⟨k + 1, _, by push_cast; rfl, hlt, q2⟩, by simp; omega⟩
  ·have : k = l.length := by omega
   subst this
   exact .inr ⟨_, hend a hI, a, rfl, hI⟩) (a0, 0) ⟨0, a0, rfl, Nat.zero_le _, h0⟩
 exact ⟨a, h1, h2⟩
end Go.Dn

namespace Go.Dn
open Go

def In64 (a : Int) : Prop := -9223372036854775808 ≤ a ∧ a ≤ 9223372036854775807
def Z6T (a : Int) : Prop := 0 ≤ a ∧ a ≤ 18446744073709551615
def fitS (a : Int) : Int × Int := if -9223372036854775808 ≤ a ∧ a ≤ 9223372036854775807 then (a, 0) else (0, 10)
theorem fitS_of {a : Int} (h : In64 a) : fitS a = (a, 0) := if_pos h
theorem fitS_not {a : Int} (h : ¬ In64 a) : fitS a = (0, 10) := if_neg h
theorem fit_or (x : Int) : (In64 x ∧ fitS x = (x, 0)) ∨ (¬ In64 x ∧ fitS x = (0, 10)) := by
 by_cases h : In64 x
 ·exact .inl ⟨h, fitS_of h⟩
 ·exact .inr ⟨h, fitS_not h⟩
theorem and32 (x : Int) (h : Z6T x) : (((BitVec.ofInt 64 x &&& BitVec.ofInt 64 4294967295).toNat : Nat) : Int) = x % 4294967296 := by
 obtain ⟨n, rfl⟩ := Int.eq_ofNat_of_zero_le h.1
 have hn : n < 2 ^ 64 := by have := h.2; omega
 have h1 : (BitVec.ofInt 64 (n : Int)).toNat = n := by simp [BitVec.toNat_ofInt]; omega
 have h2 : (BitVec.ofInt 64 4294967295).toNat = 2 ^ 32 - 1 := by decide
 rw [BitVec.toNat_and, h1, h2, Nat.and_two_pow_sub_one_eq_mod]
 omega

theorem mul64_fact {x y : Int} (hx : Z6T x) (hy : Z6T y) :
  (x / 4294967296 * (y / 4294967296) + (x / 4294967296 * (y % 4294967296) + x % 4294967296 * (y % 4294967296) / 4294967296) / 4294967296 +
   ((x / 4294967296 * (y % 4294967296) + x % 4294967296 * (y % 4294967296) / 4294967296) % 4294967296 + x % 4294967296 * (y / 4294967296)) / 4294967296) = x * y / 18446744073709551616 ∧
  0 ≤ x % 4294967296 * (y % 4294967296) ∧ x % 4294967296 * (y % 4294967296) ≤ 18446744065119617025 ∧
  0 ≤ x / 4294967296 * (y % 4294967296) ∧ x / 4294967296 * (y % 4294967296) ≤ 18446744065119617025 ∧
  0 ≤ x % 4294967296 * (y / 4294967296) ∧ x % 4294967296 * (y / 4294967296) ≤ 18446744065119617025 ∧
  0 ≤ x / 4294967296 * (y / 4294967296) ∧ x / 4294967296 * (y / 4294967296) ≤ 18446744065119617025 := by
 have b : ∀ {u v : Int}, 0 ≤ u → u ≤ 4294967295 → 0 ≤ v → v ≤ 4294967295 → 0 ≤ u * v ∧ u * v ≤ 18446744065119617025 := by
  intro u v h1 h2 h3 h4
  exact ⟨Int.mul_nonneg h1 h3, Int.le_trans (Int.mul_le_mul h2 h4 h3 (by omega)) (by decide)⟩
 obtain ⟨hx1, hx2⟩ := hx
 obtain ⟨hy1, hy2⟩ := hy
 obtain ⟨a1, a2⟩ := b (u := x % 4294967296) (v := y % 4294967296) (by omega) (by omega) (by omega) (by omega)
 obtain ⟨b1, b2⟩ := b (u := x / 4294967296) (v := y % 4294967296) (by omega) (by omega) (by omega) (by omega)
 obtain ⟨c1, c2⟩ := b (u := x % 4294967296) (v := y / 4294967296) (by omega) (by omega) (by omega) (by omega)
 obtain ⟨d1, d2⟩ := b (u := x / 4294967296) (v := y / 4294967296) (by omega) (by omega) (by omega) (by omega)
 refine ⟨?_, a1, a2, b1, b2, c1, c2, d1, d2⟩
 have e : x * y = x / 4294967296 * (y / 4294967296) * 18446744073709551616 + (x / 4294967296 * (y % 4294967296) + x % 4294967296 * (y / 4294967296)) * 4294967296 + x % 4294967296 * (y % 4294967296) := by
  have ex : x = x / 4294967296 * 4294967296 + x % 4294967296 := by omega
  have ey : y = y / 4294967296 * 4294967296 + y % 4294967296 := by omega
  clear a1 a2 b1 b2 c1 c2 d1 d2 b hx1 hx2 hy1 hy2
  generalize x / 4294967296 = x1 at *
  generalize x % 4294967296 = x0 at *
  generalize y / 4294967296 = y1 at *
  generalize y % 4294967296 = y0 at *
  subst ex ey
  simp only [Int.add_mul, Int.mul_add]
  have h1 : x1 * 4294967296 * (y1 * 4294967296) = x1 * y1 * 18446744073709551616 := by
   rw [Int.mul_assoc, Int.mul_comm 4294967296, Int.mul_assoc y1, ← Int.mul_assoc]
   rfl
  have h2 : x1 * 4294967296 * y0 = x1 * y0 * 4294967296 := by rw [Int.mul_assoc, Int.mul_comm 4294967296, ← Int.mul_assoc]
  have h3 : x0 * (y1 * 4294967296) = x0 * y1 * 4294967296 := by rw [← Int.mul_assoc]
  rw [h1, h2, h3]
  omega
 rw [e]
 generalize x / 4294967296 * (y / 4294967296) = d at *
 generalize x / 4294967296 * (y % 4294967296) = b' at *
 generalize x % 4294967296 * (y / 4294967296) = c at *
 generalize x % 4294967296 * (y % 4294967296) = a at *
 omega

theorem Z8J {a b : Int} (ha : In64 a) (hb : In64 b) : ZB a b = fitS (a + b) := by
 unfold In64 at ha hb
 unfold ZB fitS w64
 rw [Z4G]
 cases h : ((decide ((a + b + 9223372036854775808) % 18446744073709551616 - 9223372036854775808 > a) != decide (b > 0)) && b != 0)
 ·rw [cond_false]
  simp only [Bool.and_eq_false_iff, bne_eq_false_iff_eq, decide_eq_decide] at h
  split <;> simp only [Prod.mk.injEq, and_true] <;> omega
 ·rw [cond_true]
  simp only [Bool.and_eq_true, bne_iff_ne, ne_eq, decide_eq_decide] at h
  split <;> simp only [Prod.mk.injEq] <;> omega

theorem Z7a {a : Int} (h : In64 a) : ZD a = a.natAbs := by
 unfold In64 at h
 unfold ZD
 rw [Z6A]
 simp only [decide_eq_true_eq, Z59]
 split <;> omega

theorem inU_abs {a : Int} (h : In64 a) : Z6T a.natAbs := by unfold In64 at h; unfold Z6T; omega
theorem natAbs_prod (a b : Int) : (a.natAbs : Int) * b.natAbs = (a * b).natAbs := by rw [Int.natAbs_mul]; simp

theorem mul64_eq {x y : Int} (hx : Z6T x) (hy : Z6T y) : ZH x y = (x * y / 18446744073709551616, x * y % 18446744073709551616) := by
 unfold ZH
 have hb : ∀ z : Int, z.fdiv (2 ^ 32) = z / 4294967296 := fun z => Int.fdiv_eq_ediv_of_nonneg z (by decide)
 have hm : (IntKind.u64.bits) = 64 := rfl
 obtain ⟨h1, h2, h3, h4, h5, h6, h7, h8, h9⟩ := mul64_fact hx hy
 have hw : ∀ z : Int, 0 ≤ z → z ≤ 18446744073709551615 → IntKind.u64.wrap z = z := fun z q1 q2 => by rw [Z59]; omega
 simp only [hb, iAnd]
 rw [hm, and32 x hx, and32 y hy]
 have x0 : 0 ≤ x % 4294967296 ∧ x % 4294967296 < 4294967296 := by omega
 have y0 : 0 ≤ y % 4294967296 ∧ y % 4294967296 < 4294967296 := by omega
 rw [hw (x % 4294967296) (by omega) (by omega), hw (y % 4294967296) (by omega) (by omega), hw _ h2 (by omega), hw _ h4 (by omega), hw _ h6 (by omega), hw _ h8 (by omega)]
 rw [hw (x / 4294967296 * (y % 4294967296) + x % 4294967296 * (y % 4294967296) / 4294967296) (by omega) (by omega)]
 rw [and32 _ ⟨by omega, by omega⟩]
 have t0 : 0 ≤ (x / 4294967296 * (y % 4294967296) + x % 4294967296 * (y % 4294967296) / 4294967296) % 4294967296 ∧ (x / 4294967296 * (y % 4294967296) + x % 4294967296 * (y % 4294967296) / 4294967296) % 4294967296 < 4294967296 := by omega
 rw [hw ((x / 4294967296 * (y % 4294967296) + x % 4294967296 * (y % 4294967296) / 4294967296) % 4294967296) (by omega) (by omega)]
 rw [hw ((x / 4294967296 * (y % 4294967296) + x % 4294967296 * (y % 4294967296) / 4294967296) % 4294967296 + x % 4294967296 * (y / 4294967296)) (by omega) (by omega)]
 rw [hw (x / 4294967296 * (y / 4294967296) + (x / 4294967296 * (y % 4294967296) + x % 4294967296 * (y % 4294967296) / 4294967296) / 4294967296) (by omega) (by omega)]
 rw [hw _ (by omega) (by omega), h1, Z59]

theorem Z8z {n : Int} (m : Bool) (h : Z6T n) : Z0K n m = fitS (if m then -n else n) := by
 unfold Z6T at h
 unfold Z0K fitS w64
 rw [Z6A, Z6A, Z59, Z4G, Z4G]
 cases m <;> simp only [Bool.true_and, Bool.false_and, Bool.not_true, Bool.not_false, decide_eq_true_eq, Bool.false_eq_true, if_false, if_true]
 ·split
  ·rw [if_pos (by omega)]; simp only [Prod.mk.injEq, and_true]; omega
  ·rw [if_neg (by omega)]
 ·split
  ·rw [if_pos (by omega)]; simp only [Prod.mk.injEq, and_true]; omega
  ·rw [if_neg (by omega)]

theorem safe_Mul_eq {a b : Int} (ha : In64 a) (hb : In64 b) : Z0L a b = fitS (a * b) := by
 unfold Z0L
 rw [Z7a ha, Z7a hb, mul64_eq (inU_abs ha) (inU_abs hb), Z6A]
 simp only [natAbs_prod]
 rw [Z8z _ (by unfold Z6T; omega)]
 by_cases h : ((a * b).natAbs : Int) / 18446744073709551616 = 0
 ·rw [if_neg (by simp [h])]
  have e : ((a * b).natAbs : Int) % 18446744073709551616 = (a * b).natAbs := by omega
  rw [e]
  show fitS _ = _
  refine congrArg fitS ?_
  by_cases h1 : a < 0 <;> by_cases h2 : b < 0 <;> simp only [h1, h2, decide_true, decide_false]
  ·have := Int.mul_nonneg_of_nonpos_of_nonpos (Int.le_of_lt h1) (Int.le_of_lt h2)
   simp; omega
  ·have := Int.mul_nonpos_of_nonpos_of_nonneg (Int.le_of_lt h1) (Int.not_lt.1 h2)
   simp; omega
  ·have := Int.mul_nonpos_of_nonneg_of_nonpos (Int.not_lt.1 h1) (Int.le_of_lt h2)
   simp; omega
  ·have := Int.mul_nonneg (Int.not_lt.1 h1) (Int.not_lt.1 h2)
   simp; omega
 ·rw [if_pos (by simp [h])]
  unfold fitS
  rw [if_neg]
  omega

def Z6n (a b : Int) : Int × Int × Int := if b = 0 then (0, 0, 11) else if b = -1 ∧ a = -9223372036854775808 then (0, 0, 10) else (a.fdiv b, a.fmod b, 0)
theorem floor_up {a b : Int} (hb : b ≠ 0) (h1 : a.tmod b ≠ 0) (h2 : ¬(a.tmod b < 0 ↔ b < 0)) : a.fdiv b = a.tdiv b - 1 ∧ a.fmod b = a.tmod b + b := by
 have q1 := Int.emod_nonneg a hb
 have q2 := Int.emod_lt a hb
 have hd : b ∣ a ↔ a % b = 0 := Int.dvd_iff_emod_eq_zero
 rw [Int.fdiv_eq_ediv, Int.fmod_eq_emod, Int.tdiv_eq_ediv]
 rw [Int.tmod_eq_emod] at h1 h2 ⊢
 simp only [hd] at h1 h2 ⊢
 rcases Int.lt_or_gt_of_ne hb with h | h
 ·rw [Int.sign_eq_neg_one_of_neg h]
  split at h1 <;> split <;> simp_all <;> omega
 ·rw [Int.sign_eq_one_of_pos h]
  split at h1 <;> split <;> simp_all <;> omega

theorem floor_same {a b : Int} (hb : b ≠ 0) (h : a.tmod b = 0 ∨ (a.tmod b < 0 ↔ b < 0)) : a.fdiv b = a.tdiv b ∧ a.fmod b = a.tmod b := by
 have q1 := Int.emod_nonneg a hb
 have q2 := Int.emod_lt a hb
 have hd : b ∣ a ↔ a % b = 0 := Int.dvd_iff_emod_eq_zero
 rw [Int.fdiv_eq_ediv, Int.fmod_eq_emod, Int.tdiv_eq_ediv]
 rw [Int.tmod_eq_emod] at h ⊢
 simp only [hd] at h ⊢
 rcases Int.lt_or_gt_of_ne hb with hh | hh
 ·rw [Int.sign_eq_neg_one_of_neg hh]
  split at h <;> split <;> simp_all <;> omega
 ·rw [Int.sign_eq_one_of_pos hh]
  split at h <;> split <;> simp_all <;> omega

theorem tdiv_in {a b : Int} (ha : In64 a) (hb : b ≠ 0) (hn : ¬(b = -1 ∧ a = -9223372036854775808)) : In64 (a.tdiv b) := by
 have h : (a.tdiv b).natAbs = a.natAbs / b.natAbs := Int.natAbs_tdiv a b
 obtain ⟨h1, h2⟩ := ha
 by_cases hb1 : b = 1
 ·subst hb1; rw [Int.tdiv_one]; exact ⟨h1, h2⟩
 ·by_cases hb2 : b = -1
  ·have ha' : a ≠ -9223372036854775808 := fun e => hn ⟨hb2, e⟩
   have : a.natAbs / b.natAbs ≤ a.natAbs := Nat.div_le_self _ _
   unfold In64; omega
  ·have h3 : a.natAbs / b.natAbs ≤ a.natAbs / 2 := Nat.div_le_div_left (by omega) (by omega)
   unfold In64; omega

theorem tdiv_in1 {a b : Int} (ha : In64 a) (hb : b ≠ 0) (h1 : a.tmod b ≠ 0) : In64 (a.tdiv b - 1) := by
 have h : (a.tdiv b).natAbs = a.natAbs / b.natAbs := Int.natAbs_tdiv a b
 obtain ⟨h2, h3⟩ := ha
 by_cases hb1 : b = 1
 ·subst hb1; simp at h1
 ·by_cases hb2 : b = -1
  ·subst hb2; simp at h1
  ·have h3 : a.natAbs / b.natAbs ≤ a.natAbs / 2 := Nat.div_le_div_left (by omega) (by omega)
   unfold In64; omega

theorem wrap_in {a : Int} (h : In64 a) : IntKind.i64.wrap a = a := by rw [Z4G]; unfold In64 at h; omega

theorem fmod_in {a b : Int} (hb : In64 b) (hb0 : b ≠ 0) : In64 (a.fmod b) := by
 have q1 := Int.emod_nonneg a hb0
 have q2 := Int.emod_lt a hb0
 rw [Int.fmod_eq_emod]
 unfold In64 at *
 split <;> omega

theorem floor_leaf1 {a b : Int} (ha : In64 a) (hb : In64 b) (h0 : b ≠ 0) (hn : ¬(b = -1 ∧ a = -9223372036854775808)) (h1 : a.tmod b ≠ 0) (h2 : ¬(a.tmod b < 0 ↔ b < 0)) :
  (IntKind.i64.wrap (IntKind.i64.wrap (a.tdiv b) - 1), IntKind.i64.wrap (a.tmod b + b), (0 : Int)) = Z6n a b := by
 obtain ⟨e1, e2⟩ := floor_up h0 h1 h2
 rw [Z6n, if_neg h0, if_neg hn, e1, e2, wrap_in (tdiv_in ha h0 hn), wrap_in (tdiv_in1 ha h0 h1), wrap_in (by rw [← e2]; exact fmod_in hb h0)]

theorem floor_leaf2 {a b : Int} (ha : In64 a) (hb : In64 b) (h0 : b ≠ 0) (hn : ¬(b = -1 ∧ a = -9223372036854775808)) (h : a.tmod b = 0 ∨ (a.tmod b < 0 ↔ b < 0)) :
  (IntKind.i64.wrap (a.tdiv b), a.tmod b, (0 : Int)) = Z6n a b := by
 obtain ⟨e1, e2⟩ := floor_same h0 h
 rw [Z6n, if_neg h0, if_neg hn, e1, e2, wrap_in (tdiv_in ha h0 hn)]


theorem Z6l {a b : Int} (ha : In64 a) (hb : In64 b) : Z15 a b = some (Z6n a b) := by
 unfold Z15
 by_cases h0 : b = 0
 ·subst h0; rfl
 rw [beq_f h0, cond_false]
 by_cases hn : b = -1 ∧ a = -9223372036854775808
 ·obtain ⟨rfl, rfl⟩ := hn
  rfl
 have : (b == -1 && a == -9223372036854775808) = false := by
  simp only [Bool.and_eq_false_iff, beq_eq_false_iff_ne]
  by_cases h : b = -1
  ·exact .inr fun e => hn ⟨h, e⟩
  ·exact .inl h
 rw [this, cond_false, nz?_ok h0]
 simp only [Option.bind_some, Z6A, Bool.and_eq_true, bne_iff_ne, ne_eq, decide_eq_decide]
 split
 ·rename_i h
  simp only [Option.bind_some]
  exact congrArg some (floor_leaf1 ha hb h0 hn h.1 h.2)
 ·rename_i h
  simp only [Option.bind_some]
  refine congrArg some (floor_leaf2 ha hb h0 hn ?_)
  by_cases h1 : a.tmod b = 0
  ·exact .inl h1
  ·exact .inr (Classical.byContradiction fun h2 => h ⟨h1, h2⟩)

theorem Z66 {a b : Int} (hb : 0 < b) : a.fdiv b = a / b ∧ a.fmod b = a % b := ⟨Int.fdiv_eq_ediv_of_nonneg a (Int.le_of_lt hb), Int.fmod_eq_emod_of_nonneg a (Int.le_of_lt hb)⟩
theorem floorS_pos {a b : Int} (hb : 0 < b) : Z6n a b = (a / b, a % b, 0) := by
 unfold Z6n
 rw [if_neg (by omega), if_neg (by omega), (Z66 hb).1, (Z66 hb).2]

end Go.Dn

namespace Go.Dn
open Go

theorem Z17 : reachBytes = 140737488351232 := rfl

def ZP (t : Int) : Prop := -1099511627776 ≤ t ∧ t ≤ 1099511627776
instance (t : Int) : Decidable (ZP t) := by unfold ZP; infer_instance
theorem Z4o (t : Int) : Za t = decide (ZP t) := by
 rw [Bool.eq_iff_iff, decide_eq_true_iff]; simp [Za, ZP]
theorem Z5K (t : Int) : Zp t = decide (ZP t) := by
 rw [Bool.eq_iff_iff, decide_eq_true_iff]; simp [Zp, ZP]
theorem Z23 {t : Int} (h : ZP t) : In64 t := by unfold ZP at h; unfold In64; omega

structure RightL (l : List Span) : Prop where
 ok : ∀ (k : Nat) (s : Span), l[k]? = some s → ZP s.From ∧ ZP s.To ∧ s.From ≤ s.To
 gap : ∀ (k : Nat) (s t : Span), l[k]? = some s → l[k + 1]? = some t → s.To + 2 ≤ t.From

abbrev Len (l : List Span) : Prop := l.length * 16 ≤ reachBytes
abbrev Sp64 (l : List Span) : Prop := ∀ s ∈ l, In64 s.From ∧ In64 s.To

theorem Span.ok64 {s : Span} (h : s.ok) : In64 s.From ∧ In64 s.To := h
theorem okSpans {l : List Span} (h : okL 16 Span.ok l) : Len l ∧ Sp64 l := ⟨h.1, fun s hs => Span.ok64 (h.2 s hs)⟩
theorem RightL.sp64 {l : List Span} (h : RightL l) : Sp64 l := fun s hs => by
 obtain ⟨k, hk⟩ := List.getElem?_of_mem hs
 have := h.ok k s hk
 exact ⟨Z23 this.1, Z23 this.2.1⟩

def Z4I (l : List Span) (k : Nat) (s : Span) : Prop := ZP s.From ∧ ZP s.To ∧ s.From ≤ s.To ∧ ∀ p, k ≠ 0 → l[k - 1]? = some p → p.To + 2 ≤ s.From

theorem Z8q {l : List Span} : RightL l ↔ ∀ k s, l[k]? = some s → Z4I l k s := by
 constructor
 ·intro h k s hk
  obtain ⟨h1, h2, h3⟩ := h.ok k s hk
  refine ⟨h1, h2, h3, fun p h0 hp => ?_⟩
  have : k - 1 + 1 = k := by omega
  exact h.gap (k - 1) p s hp (by rw [this]; exact hk)
 ·intro h
  refine ⟨fun k s hk => ⟨(h k s hk).1, (h k s hk).2.1, (h k s hk).2.2.1⟩, fun k s t hs ht => (h (k + 1) t ht).2.2.2 s (by omega) (by simpa using hs)⟩

theorem Z62 {l : List Span} (hl : Len l) (h64 : Sp64 l) : ∃ b, Z07 l = some b ∧ (b = true ↔ RightL l) := by
 have hlen : l.length ≤ maxLen := by rw [Z86]; have := Z17; unfold Len at hl; omega
 have step : ∀ (k : Nat) (s : Span), l[k]? = some s → (∀ j y, j < k → l[j]? = some y → Z4I l j y) → ∃ b, Z07.s0 l (k : Int) = (if b = true then some (.inl ((k : Int) + 1)) else some (.inr (.ret false))) ∧ (b = true ↔ Z4I l k s) := by
  intro k s hk hprev
  have hlt := (List.getElem?_eq_some_iff.1 hk).1
  have hat : at? l (k : Int) = some s := by rw [at?_nat hlt]; rw [List.getElem?_eq_getElem hlt] at hk; exact hk
  unfold Z07.s0
  rw [Zm (show (k : Int) < l.length by omega), cond_true, hat]
  simp only [Option.bind_some, Z4o]
  have hk1 : w64 ((k : Int) + 1) = k + 1 := Zn (by rw [Z86] at hlen; omega)
  by_cases h1 : ZP s.From ∧ ZP s.To ∧ s.From ≤ s.To
  ·have : (!decide (ZP s.From) || !decide (ZP s.To) || decide (s.From > s.To)) = false := by
    rw [Zm h1.1, Zm h1.2.1, Z02 (by omega)]; rfl
   rw [this, cond_false]
   by_cases h0 : k = 0
   ·subst h0
    refine ⟨true, by simp [w64]; rw [Z4G]; rfl, by simp [Z4I, h1]⟩
   ·have hk0 : (k : Int) > 0 := by omega
    have hpl : k - 1 < l.length := by omega
    have hp : at? l (w64 ((k : Int) - 1)) = some l[k - 1] := by
     rw [Zn (by rw [Z86] at hlen; omega), show ((k : Int) - 1) = ((k - 1 : Nat) : Int) by omega, at?_nat hpl]
    have hpg := hprev (k - 1) _ (by omega) (List.getElem?_eq_getElem hpl)
    have hpt : w64 (l[k - 1].To + 2) = l[k - 1].To + 2 := by
     have := hpg.2.1; unfold ZP at this; exact Zn (by omega)
    rw [Zm hk0, cond_true, hp]
    simp only [Option.bind_some, hpt]
    refine ⟨!decide (s.From < l[k - 1].To + 2), ?_, ?_⟩
    ·cases hd : decide (s.From < l[k - 1].To + 2) <;> simp [hk1]
    ·simp only [Bool.not_eq_true', decide_eq_false_iff_not, Z4I]
     constructor
     ·intro h; refine ⟨h1.1, h1.2.1, h1.2.2, fun p _ hp' => ?_⟩
      rw [List.getElem?_eq_getElem hpl] at hp'; cases hp'; omega
     ·intro h; have := h.2.2.2 _ h0 (List.getElem?_eq_getElem hpl); omega
  ·refine ⟨false, ?_, by simp only [Bool.false_eq_true, Z4I, false_iff]; intro h; exact h1 ⟨h.1, h.2.1, h.2.2.1⟩⟩
   have : (!decide (ZP s.From) || !decide (ZP s.To) || decide (s.From > s.To)) = true := by
    by_cases a1 : ZP s.From
    ·by_cases a2 : ZP s.To
     ·have a3 : s.From > s.To := by
       apply Classical.byContradiction
       intro h
       exact h1 ⟨a1, a2, by omega⟩
      rw [Zm a3]; simp
     ·rw [Z02 a2]; simp
    ·rw [Z02 a1]; simp
   rw [this]; rfl
 unfold Z07
 rcases Z4D (l := l) (step := Z07.s0 l) (Z4I l) (no := .ret false) (yes := .go ()) (fun k x hk hp => by
   obtain ⟨b, h1, h2⟩ := step k x hk hp
   cases b
   ·exact .inr ⟨h1, fun h => by have := h2.2 h; cases this⟩
   ·exact .inl ⟨h1, h2.1 rfl⟩) (by
   unfold Z07.s0; rw [Z02 (by omega)]; rfl) with ⟨h1, h2⟩ | ⟨h1, h2⟩
 ·rw [h1]; exact ⟨true, rfl, by simp [Z8q.2 h2]⟩
 ·rw [h1]; exact ⟨false, rfl, by simp only [Bool.false_eq_true, false_iff]; exact fun h => h2 (Z8q.1 h)⟩


def Z0V (by_ : Int) (s : Span) : Span := ⟨s.From + by_, s.To + by_⟩

theorem Z6e {l : List Span} {b : Int} (hl : Len l) (h64 : Sp64 l) (hb : In64 b) :
  ((∀ s ∈ l, ZP (s.From + b) ∧ ZP (s.To + b)) ∧ Z0F l b = some (l.map (Z0V b), 0)) ∨ ((¬ ∀ s ∈ l, ZP (s.From + b) ∧ ZP (s.To + b)) ∧ Z0F l b = some ([], 20)) := by
 have hlen : (l.length : Int) < 9223372036854775807 := by have := Z17; unfold Len at hl; omega
 have step : ∀ (k : Nat) (s : Span) (acc : List Span), l[k]? = some s → acc.length = k → Z0F.s0 l b ((k : Int), acc) = if ZP (s.From + b) ∧ ZP (s.To + b) then some (.inl ((k : Int) + 1, acc ++ [Z0V b s])) else some (.inr (.ret ([], 20))) := by
  intro k s acc hk hacc
  have hlt := (List.getElem?_eq_some_iff.1 hk).1
  have hat : at? l (k : Int) = some s := by rw [at?_nat hlt]; rw [List.getElem?_eq_getElem hlt] at hk; exact hk
  obtain ⟨f64, t64⟩ := h64 s (List.mem_of_getElem? hk)
  unfold Z0F.s0
  rw [Zm (show (k : Int) < l.length by omega), cond_true, hat]
  simp only [Option.bind_some]
  rw [Z8J f64 hb, Z8J t64 hb, Z4o, Z4o]
  have hk1 : w64 ((k : Int) + 1) = k + 1 := Zn (by omega)
  have happ : ∀ x : Span, app? 16 acc [x] = some (acc ++ [x]) := fun x => app?_ok (by
   have := Z17; have := Z6M; unfold Len at hl; simp; omega)
  rcases fit_or (s.From + b) with ⟨q1, q2⟩ | ⟨q1, q2⟩ <;> rcases fit_or (s.To + b) with ⟨q3, q4⟩ | ⟨q3, q4⟩ <;> rw [q2, q4]
  ·by_cases h : ZP (s.From + b) ∧ ZP (s.To + b)
   ·rw [if_pos h, Zm h.1, Zm h.2]
    simp [happ, hk1, Z0V]
   ·rw [if_neg h]
    have : (!decide (ZP (s.From + b)) || !decide (ZP (s.To + b))) = true := by
     by_cases h1 : ZP (s.From + b)
     ·rw [Z02 (fun h2 => h ⟨h1, h2⟩)]; simp
     ·rw [Z02 h1]; simp
    simp only [bne_self_eq_false, Bool.false_or, Bool.or_assoc] at this ⊢
    rw [this]; rfl
  ·rw [if_neg (fun h => q3 (Z23 h.2))]; rfl
  ·rw [if_neg (fun h => q1 (Z23 h.1))]; rfl
  ·rw [if_neg (fun h => q1 (Z23 h.1))]; rfl
 have hend : ∀ acc, Z0F.s0 l b ((l.length : Int), acc) = some (.inr (.go acc)) := fun acc => by unfold Z0F.s0; rw [Z02 (by omega)]; rfl
 unfold Z0F
 by_cases hall : ∀ s ∈ l, ZP (s.From + b) ∧ ZP (s.To + b)
 ·refine .inl ⟨hall, ?_⟩
  have : ZJ (Z0F.s0 l b) (0, []) = some (.go (l.map (Z0V b))) := by
   refine Z1z (I := fun (s : Int × List Span) r => r = .go (l.map (Z0V b)) ∧ ∃ k : Nat, k ≤ l.length ∧ s = ((k : Int), (l.take k).map (Z0V b))) (fun s => l.length - s.1.toNat) ?_ ⟨rfl, 0, Nat.zero_le _, by simp⟩
   rintro s r ⟨rfl, k, hk, rfl⟩
   by_cases hlt : k < l.length
   ·refine .inl ⟨_, by rw [step k l[k] _ (List.getElem?_eq_getElem hlt) (by simp; omega), if_pos (hall _ (List.getElem_mem hlt))], ⟨rfl, k + 1, hlt, ?_⟩, by simp; omega⟩
    rw [List.take_succ_eq_append_getElem hlt, List.map_append]; push_cast; rfl
   ·have : k = l.length := by omega
    subst this
    rw [List.take_length]
    exact .inr (hend _)
  rw [this]; rfl
 ·refine .inr ⟨hall, ?_⟩
  obtain ⟨k0, s0, hk0, hb0, hg⟩ := Z81 (l := l) (good := fun _ s => ZP (s.From + b) ∧ ZP (s.To + b)) (fun h => hall fun s hs => by
   obtain ⟨k, hk⟩ := List.getElem?_of_mem hs; exact h k s hk)
  have hlt0 := (List.getElem?_eq_some_iff.1 hk0).1
  have : ZJ (Z0F.s0 l b) (0, []) = some (.ret ([], 20)) := by
   refine Z1z (I := fun (s : Int × List Span) r => r = .ret ([], 20) ∧ ∃ k : Nat, k ≤ k0 ∧ s.1 = (k : Int) ∧ s.2.length = k) (fun s => l.length - s.1.toNat) ?_ ⟨rfl, 0, Nat.zero_le _, rfl, rfl⟩
   rintro ⟨i, acc⟩ r ⟨rfl, k, hk, h1, h2⟩
   simp only at h1 h2
   subst h1
   by_cases hlt : k < k0
   ·have hkl : k < l.length := by omega
    exact .inl ⟨_, by rw [step k l[k] _ (List.getElem?_eq_getElem hkl) h2, if_pos (hg k _ hlt (List.getElem?_eq_getElem hkl))], ⟨rfl, k + 1, hlt, by push_cast; rfl, by simp; omega⟩, by simp; omega⟩
   ·have : k = k0 := by omega
    subst this
    exact .inr (by rw [step k s0 _ hk0 h2, if_neg hb0])
  rw [this]; rfl

theorem RightL.shift {l : List Span} {b : Int} (h : RightL l) (ht : ∀ s ∈ l, ZP (s.From + b) ∧ ZP (s.To + b)) : RightL (l.map (Z0V b)) := by
 constructor
 ·intro k s hk
  rw [List.getElem?_map, Option.map_eq_some_iff] at hk
  obtain ⟨s, hk, rfl⟩ := hk
  have h1 := h.ok k s hk
  have h2 := ht s (List.mem_of_getElem? hk)
  exact ⟨h2.1, h2.2, by simp only [Z0V]; omega⟩
 ·intro k s t hk hk1
  rw [List.getElem?_map, Option.map_eq_some_iff] at hk hk1
  obtain ⟨s, hk, rfl⟩ := hk
  obtain ⟨t, hk1, rfl⟩ := hk1
  have := h.gap k s t hk hk1
  simp only [Z0V]; omega

def Z2k (a b : List Span) : Prop := ∀ x, a.getLast? = some x → ∀ y, b.head? = some y → x.To < y.From

theorem Z4H {a b : List Span} (ha : Len a) : ∃ r, Z0W a b = some r ∧ (r = true ↔ Z2k a b) := by
 unfold Z0W
 cases a with
 | nil => exact ⟨true, by simp, by simp [Z2k]⟩
 | cons x a =>
  cases b with
  | nil => exact ⟨true, by simp, by simp [Z2k]⟩
  | cons y b =>
   have hl : ((x :: a).length : Int) < 9223372036854775807 := by have := Z17; unfold Len at ha; omega
   have e1 : (((x :: a).length : Int) == 0 || ((y :: b).length : Int) == 0) = false := by simp; omega
   have hlt : (x :: a).length - 1 < (x :: a).length := by simp
   have e2 : at? (x :: a) (w64 (((x :: a).length : Int) - 1)) = some (x :: a)[(x :: a).length - 1] := by
    rw [Zn (by simp at hl ⊢; omega), show (((x :: a).length : Int) - 1) = (((x :: a).length - 1 : Nat) : Int) by simp, at?_nat hlt]
   have e3 : at? (y :: b) 0 = some y := rfl
   rw [e1, cond_false, e2, e3]
   refine ⟨decide ((x :: a)[(x :: a).length - 1].To < y.From), rfl, ?_⟩
   have hlast : (x :: a).getLast? = some (x :: a)[(x :: a).length - 1] := by rw [List.getLast?_eq_getElem?, List.getElem?_eq_getElem hlt]
   simp only [decide_eq_true_eq, Z2k, hlast, List.head?_cons, Option.some.injEq]
   exact ⟨fun h x' hx y' hy => by rw [← hx, ← hy]; exact h, fun h => h _ rfl _ rfl⟩

end Go.Dn

namespace Go.Dn
open Go

theorem Z98 (x y : Int) : Z0P x y = if x < y then -1 else if y < x then 1 else 0 := by
 unfold Z0P Z01
 simp only [bne_self_eq_false, cond_false, Z6A, decide_eq_true_eq, gt_iff_lt, Bool.false_eq_true, if_false]

def Inc (l : List Granule) : Prop := ∀ (j k : Nat) (a b : Granule), j < k → l[j]? = some a → l[k]? = some b → a.Index < b.Index

theorem bsearch_eq {l : List Granule} {t : Int} (hl : l.length * 32 ≤ reachBytes) (hs : Inc l) : ∃ p : Nat, p ≤ l.length ∧ (∀ (k : Nat) (g : Granule), l[k]? = some g → (k < p ↔ g.Index < t)) ∧
  Z5 l t (fun z0 z1 => some (Z2m z0 z1)) = some ((p : Int), decide (∃ g, l[p]? = some g ∧ g.Index = t)) := by
 have hlen : (l.length : Int) < 4398046511104 * 4 := by have := Z17; omega
 have hcmp : ∀ g i, Z2m g i = if g.Index < i then -1 else if i < g.Index then 1 else 0 := fun g i => Z98 _ _
 obtain ⟨r, h1, p, rfl, hp, hlow, hhigh⟩ := Z0l (step := Z5.s0 l t (fun z0 z1 => some (Z2m z0 z1)))
  (I := fun s => ∃ i j : Nat, s = ((i : Int), (j : Int)) ∧ i ≤ j ∧ j ≤ l.length ∧ (∀ k g, l[k]? = some g → k < i → g.Index < t) ∧ (∀ k g, l[k]? = some g → j ≤ k → t ≤ g.Index))
  (fun s => (s.2 - s.1).toNat)
  (fun r => ∃ p : Nat, r = (p : Int) ∧ p ≤ l.length ∧ (∀ k g, l[k]? = some g → k < p → g.Index < t) ∧ (∀ k g, l[k]? = some g → p ≤ k → t ≤ g.Index)) (by
  rintro s ⟨i, j, rfl, hij, hj, hlow, hhigh⟩
  unfold Z5.s0
  by_cases hlt : i < j
  ·have hm : w64 ((IntKind.u64.wrap (w64 ((i : Int) + j))).fdiv (2 ^ 1)) = ((i + j) / 2 : Nat) := by
    rw [Zn (x := (i : Int) + j) (by omega), Z59, Int.fdiv_eq_ediv_of_nonneg _ (by decide), Zn (by omega)]
    omega
   have hml : (i + j) / 2 < l.length := by omega
   simp only [hm]
   rw [Zm (show (i : Int) < j by omega), cond_true, at?_nat hml]
   simp only [Option.bind_some, hcmp]
   refine .inl ?_
   have hget := List.getElem?_eq_getElem hml
   by_cases hc : l[(i + j) / 2].Index < t
   ·rw [if_pos hc]
    refine ⟨((((i + j) / 2 + 1 : Nat) : Int), (j : Int)), ?_, ⟨(i + j) / 2 + 1, j, rfl, by omega, hj, fun k g hk hki => ?_, hhigh⟩, by simp; omega⟩
    ·rw [Zn (by omega)]; simp
    ·rcases Nat.lt_or_ge k ((i + j) / 2) with h | h
     ·have := hs k _ g _ h hk hget; omega
     ·have : k = (i + j) / 2 := by omega
      subst this; rw [hget] at hk; cases hk; exact hc
   ·rw [if_neg hc]
    refine ⟨((i : Int), (((i + j) / 2 : Nat) : Int)), ?_, ⟨i, (i + j) / 2, rfl, by omega, by omega, hlow, fun k g hk hki => ?_⟩, by simp; omega⟩
    ·split <;> simp
    ·rcases Nat.lt_or_ge ((i + j) / 2) k with h | h
     ·have := hs _ k _ g h hget hk; omega
     ·have : k = (i + j) / 2 := by omega
      subst this; rw [hget] at hk; cases hk; omega
  ·refine .inr ⟨(i : Int), by rw [Z02 (show ¬ (i : Int) < j by omega)]; rfl, i, rfl, by omega, hlow, fun k g hk hki => hhigh k g hk (by omega)⟩) (0, (l.length : Int)) ⟨0, l.length, rfl, Nat.zero_le _, Nat.le_refl _, fun k g _ h => by omega, fun k g hk h => by
    rw [List.getElem?_eq_none h] at hk; cases hk⟩
 refine ⟨p, hp, fun k g hk => ⟨fun h => hlow k g hk h, fun h => ?_⟩, ?_⟩
 ·rcases Nat.lt_or_ge k p with h2 | h2
  ·exact h2
  ·have := hhigh k g hk h2; omega
 ·unfold Z5
  rw [h1]
  simp only [Option.bind_some]
  by_cases hlt : p < l.length
  ·rw [Zm (show (p : Int) < l.length by omega), cond_true, at?_nat hlt]
   simp only [Option.bind_some, hcmp, Option.some.injEq, Prod.mk.injEq, true_and]
   have := hhigh p _ (List.getElem?_eq_getElem hlt) (Nat.le_refl _)
   rw [List.getElem?_eq_getElem hlt]
   by_cases he : l[p].Index = t
   ·rw [if_neg (by omega), if_neg (by omega)]; simp [he]
   ·rw [if_neg (by omega), if_pos (by omega)]; simp [he]
  ·rw [Z02 (show ¬ (p : Int) < l.length by omega), cond_false]
   simp only [Option.bind_some, Option.some.injEq, Prod.mk.injEq, true_and]
   rw [List.getElem?_eq_none (by omega)]
   simp

structure Shape (f : Form) : Prop where
 count : f.Count = f.Core.length
 zero : f.Count = 0 ↔ f.Period = 0
 per : 0 ≤ f.Period ∧ f.Period ≤ 1099511627776
 core : ∀ l ∈ f.Core, RightL l
 odd : ∀ g ∈ f.Odd, RightL g.Ticks ∧ ZP g.Index
 inc : Inc f.Odd

structure Lim (f : Form) : Prop where
 core : f.Core.length * 24 ≤ reachBytes
 sets : ∀ l ∈ f.Core, Len l ∧ Sp64 l
 odd : f.Odd.length * 32 ≤ reachBytes
 ticks : ∀ g ∈ f.Odd, In64 g.Index ∧ Len g.Ticks ∧ Sp64 g.Ticks
 count : In64 f.Count
 period : In64 f.Period

theorem Form.lim {f : Form} (h : f.ok) : Lim f := by
 obtain ⟨h1, h2, h3, h4⟩ := h
 exact ⟨h3.1, fun l hl => okSpans (h3.2 l hl), h4.1, fun g hg => ⟨(h4.2 g hg).1, okSpans (h4.2 g hg).2⟩, h2, h1⟩

theorem Z4U {f : Form} (hl : Lim f) (hs : Inc f.Odd) (i : Int) : ∃ p : Nat, p ≤ f.Odd.length ∧ (∀ (k : Nat) (g : Granule), f.Odd[k]? = some g → (k < p ↔ g.Index < i)) ∧ Z3i f i = some ((p : Int), decide (∃ g, f.Odd[p]? = some g ∧ g.Index = i)) := by
 obtain ⟨p, h1, h2, h3⟩ := bsearch_eq (t := i) hl.odd hs
 exact ⟨p, h1, h2, by unfold Z3i; rw [h3]; rfl⟩

def Z19 (f : Form) (i : Int) : Prop := ∃ g ∈ f.Odd, g.Index = i
def Z1F (f : Form) (i : Int) : List Span := f.Core.getD (i % f.Count).toNat []
def Z3m (f : Form) (i : Int) : Int := i / f.Count * f.Period
open Classical in
noncomputable def ZS (f : Form) (i : Int) : List Span := if h : Z19 f i then h.choose.Ticks else if f.Count = 0 then [] else (Z1F f i).map (Z0V (Z3m f i))

theorem Inc.uniq {l : List Granule} (h : Inc l) {a b : Granule} (ha : a ∈ l) (hb : b ∈ l) (he : a.Index = b.Index) : a = b := by
 obtain ⟨j, hj⟩ := List.getElem?_of_mem ha
 obtain ⟨k, hk⟩ := List.getElem?_of_mem hb
 rcases Nat.lt_trichotomy j k with hjk | rfl | hjk
 ·have := h j k a b hjk hj hk; omega
 ·rw [hj] at hk; cases hk; rfl
 ·have := h k j b a hjk hk hj; omega

theorem Z1e {f : Form} (hs : Inc f.Odd) {g : Granule} (hg : g ∈ f.Odd) : ZS f g.Index = g.Ticks := by
 have h : Z19 f g.Index := ⟨g, hg, rfl⟩
 unfold ZS
 rw [dif_pos h]
 rw [hs.uniq h.choose_spec.1 hg h.choose_spec.2]
theorem Z1P {f : Form} {i : Int} (h : ¬ Z19 f i) (h0 : f.Count = 0) : ZS f i = [] := by unfold ZS; rw [dif_neg h, if_pos h0]
theorem Z2B {f : Form} {i : Int} (h : ¬ Z19 f i) (h0 : f.Count ≠ 0) : ZS f i = (Z1F f i).map (Z0V (Z3m f i)) := by unfold ZS; rw [dif_neg h, if_neg h0]

theorem Z7C {f : Form} (hs : Shape f) (h0 : f.Count ≠ 0) : 0 < f.Count := by have := hs.count; omega
theorem Z1r {f : Form} (hs : Shape f) (h0 : f.Count ≠ 0) (i : Int) : at? f.Core (i % f.Count) = some (Z1F f i) ∧ Z1F f i ∈ f.Core := by
 have hp := Z7C hs h0
 have h1 := Int.emod_nonneg i h0
 have h2 := Int.emod_lt_of_pos i hp
 have h3 : (i % f.Count).toNat < f.Core.length := by have := hs.count; omega
 unfold Z1F
 rw [at?_lt h1 (by have := hs.count; omega), List.getD_eq_getElem?_getD, List.getElem?_eq_getElem h3]
 exact ⟨rfl, List.getElem_mem h3⟩

theorem Z6f {f : Form} (hl : Lim f) (hs : Shape f) {g : Granule} (hg : g ∈ f.Odd) : Z20 f g.Index = some (g.Ticks, 0, 0) := by
 obtain ⟨p, h1, h2, h3⟩ := Z4U hl hs.inc g.Index
 obtain ⟨k, hk⟩ := List.getElem?_of_mem hg
 have hkl := (List.getElem?_eq_some_iff.1 hk).1
 have hpk : p ≤ k := by
  rcases Nat.lt_or_ge k p with h | h
  ·have := (h2 k g hk).1 h; omega
  ·exact h
 have hpl : p < f.Odd.length := by omega
 have hpg := h2 p _ (List.getElem?_eq_getElem hpl)
 have : p = k := by
  rcases Nat.lt_or_ge p k with h | h
  ·have := hs.inc p k _ g h (List.getElem?_eq_getElem hpl) hk
   exact absurd (hpg.2 this) (Nat.lt_irrefl _)
  ·omega
 subst this
 unfold Z20
 rw [h3]
 simp only [Option.bind_some]
 rw [Zm ⟨g, hk, rfl⟩, cond_true, at?_nat hpl]
 rw [List.getElem?_eq_getElem hpl] at hk
 cases hk; rfl

theorem Z5x {f : Form} (hl : Lim f) (hs : Shape f) {i : Int} (hi : In64 i) (ho : ¬ Z19 f i) : Z20 f i = if f.Count = 0 then some ([], 0, 0) else some (Z1F f i, (fitS (Z3m f i)).1, (fitS (Z3m f i)).2) := by
 obtain ⟨p, h1, h2, h3⟩ := Z4U hl hs.inc i
 unfold Z20
 rw [h3]
 simp only [Option.bind_some]
 rw [Z02 (by rintro ⟨g, hg, he⟩; exact ho ⟨g, List.mem_of_getElem? hg, he⟩), cond_false]
 by_cases h0 : f.Count = 0
 ·rw [beq_t h0, cond_true, if_pos h0]
 ·rw [beq_f h0, cond_false, if_neg h0, Z6l hi hl.count, floorS_pos (Z7C hs h0)]
  simp only [Option.bind_some]
  rw [(Z1r hs h0 i).1]
  simp only [Option.bind_some]
  have hq : In64 (i / f.Count) := by
   have hp := Z7C hs h0
   unfold In64 at hi ⊢
   constructor
   ·have : -9223372036854775808 ≤ i / f.Count := by
     rw [Int.le_ediv_iff_mul_le hp]
     have : (-9223372036854775808) * f.Count ≤ -9223372036854775808 := by
      have : (-9223372036854775808) * f.Count ≤ (-9223372036854775808) * 1 := Int.mul_le_mul_of_nonpos_left (by omega) (by omega)
      omega
     omega
    exact this
   ·have : i / f.Count ≤ 9223372036854775807 := by
     rcases Int.lt_or_le i 0 with h | h
     ·have : i / f.Count < 0 := Int.ediv_neg_of_neg_of_pos h hp
      omega
     ·have := Int.ediv_le_self f.Count h
      omega
    exact this
  rw [safe_Mul_eq hq hl.period]
  rfl

def fits (f : Form) (i : Int) : Prop := ∀ s ∈ ZS f i, ZP s.From ∧ ZP s.To

theorem shift0 (l : List Span) : l.map (Z0V 0) = l := by
 have : Z0V 0 = id := by funext s; simp [Z0V]
 rw [this, List.map_id]

theorem Z1d {f : Form} {i : Int} (ho : ¬ Z19 f i) (h0 : f.Count ≠ 0) : ZS f i = [] ↔ Z1F f i = [] := by rw [Z2B ho h0, List.map_eq_nil_iff]

open Classical in
theorem Z4T {f : Form} (hl : Lim f) (hs : Shape f) {i : Int} (hi : In64 i) : Z0H f i = some (if ZP i ∧ fits f i then (ZS f i, 0) else ([], 20)) := by
 unfold Z0H
 rw [Z5K]
 by_cases ht : ZP i
 ·rw [Zm ht, Bool.not_true, cond_false]
  by_cases ho : Z19 f i
  ·obtain ⟨g, hg, rfl⟩ := ho
   have hset := Z1e hs.inc hg
   have hr := (hs.odd g hg).1
   have hf : fits f g.Index := by
    intro s hsm
    rw [hset] at hsm
    obtain ⟨k, hk⟩ := List.getElem?_of_mem hsm
    exact ⟨(hr.ok k s hk).1, (hr.ok k s hk).2.1⟩
   rw [Z6f hl hs hg, if_pos ⟨ht, hf⟩, hset]
   simp only [Option.bind_some]
   by_cases hn : g.Ticks = []
   ·rw [hn]; rfl
   ·have : ((g.Ticks.length : Int) == 0) = false := beq_f (by have := List.length_pos_iff.2 hn; omega)
    rw [this, cond_false]
    simp only [bne_self_eq_false, cond_false]
    rcases Z6e (b := 0) (hl.ticks g hg).2.1 hr.sp64 ⟨by decide, by decide⟩ with ⟨_, h2⟩ | ⟨h1, _⟩
    ·rw [h2, shift0]; rfl
    ·refine absurd (fun s hsm => ?_) h1
     rw [← hset] at hsm
     simpa using hf s hsm
  ·rw [Z5x hl hs hi ho]
   by_cases h0 : f.Count = 0
   ·rw [if_pos h0, if_pos ⟨ht, by intro s hsm; rw [Z1P ho h0] at hsm; cases hsm⟩, Z1P ho h0]; rfl
   ·rw [if_neg h0]
    simp only [Option.bind_some]
    by_cases hn : Z1F f i = []
    ·rw [if_pos ⟨ht, by intro s hsm; rw [(Z1d ho h0).2 hn] at hsm; cases hsm⟩, (Z1d ho h0).2 hn, hn]; rfl
    ·have : (((Z1F f i).length : Int) == 0) = false := beq_f (by have := List.length_pos_iff.2 hn; omega)
     rw [this, cond_false]
     have hmem := (Z1r hs h0 i).2
     have hr := hs.core _ hmem
     have hfe : fits f i ↔ ∀ s ∈ Z1F f i, ZP (s.From + Z3m f i) ∧ ZP (s.To + Z3m f i) := by
      unfold fits; rw [Z2B ho h0]
      constructor
      ·intro h s hsm; exact h (Z0V (Z3m f i) s) (List.mem_map.2 ⟨s, hsm, rfl⟩)
      ·intro h s hsm
       obtain ⟨s, hsm', rfl⟩ := List.mem_map.1 hsm
       exact h s hsm'
     rcases fit_or (Z3m f i) with ⟨q1, q2⟩ | ⟨q1, q2⟩ <;> rw [q2]
     ·simp only [bne_self_eq_false, cond_false]
      rcases Z6e (b := Z3m f i) (hl.sets _ hmem).1 hr.sp64 q1 with ⟨h1, h2⟩ | ⟨h1, h2⟩
      ·rw [h2, if_pos ⟨ht, hfe.2 h1⟩, Z2B ho h0]; rfl
      ·rw [h2, if_neg (fun h => h1 (hfe.1 h.2))]; rfl
     ·rw [if_neg]
      ·rfl
      ·rintro ⟨_, h⟩
       have h := hfe.1 h
       obtain ⟨s, hsm⟩ := List.exists_mem_of_ne_nil _ hn
       have h1 := (h s hsm).1
       obtain ⟨k, hk⟩ := List.getElem?_of_mem hsm
       have h2 := (hr.ok k s hk).1
       unfold ZP at h1 h2
       exact q1 (by unfold In64; omega)
 ·rw [Z02 ht, if_neg (fun h => ht h.1)]; rfl

open Classical in
theorem Z7W {f : Form} (hl : Lim f) (hs : Shape f) {i : Int} (hi : In64 i) : Z3G f i = some (decide (ZS f i ≠ [])) := by
 unfold Z3G
 by_cases ho : Z19 f i
 ·obtain ⟨g, hg, rfl⟩ := ho
  rw [Z6f hl hs hg, Z1e hs.inc hg]
  simp only [Option.bind_some]
  cases g.Ticks <;> simp
 ·rw [Z5x hl hs hi ho]
  by_cases h0 : f.Count = 0
  ·rw [if_pos h0, Z1P ho h0]; rfl
  ·rw [if_neg h0]
   simp only [Option.bind_some, Ne, Z1d ho h0]
   cases Z1F f i <;> simp

end Go.Dn

namespace Go.Dn
open Go

theorem Z3H {α : Type} {l : List α} {b : Nat} (h : l.length * (b + 1) ≤ reachBytes) : (l.length : Int) < 4611686018427387904 := by
 have := Z17
 have : l.length ≤ l.length * (b + 1) := Nat.le_mul_of_pos_right _ (by omega)
 omega

theorem Z63 {α : Type} {l : List α} {k : Nat} {x : α} (h : l[k]? = some x) : at? l (k : Int) = some x ∧ (k : Int) < l.length := by
 have hlt := (List.getElem?_eq_some_iff.1 h).1
 rw [List.getElem?_eq_getElem hlt] at h
 exact ⟨by rw [at?_nat hlt]; exact h, by omega⟩

theorem shape_core {f : Form} (hl : Lim f) : (ZJ (Zj.s0 f) 0 = some (.go ()) ∧ ∀ l ∈ f.Core, RightL l) ∨ (ZJ (Zj.s0 f) 0 = some (.ret false) ∧ ¬ ∀ l ∈ f.Core, RightL l) := by
 have hlen := Z3H (b := 23) hl.core
 rcases Z4D (l := f.Core) (step := Zj.s0 f) (fun _ x => RightL x) (no := .ret false) (yes := .go ()) (fun k x hk _ => by
   obtain ⟨h1, h2⟩ := Z63 hk
   obtain ⟨b, hb, hr⟩ := Z62 (hl.sets x (List.mem_of_getElem? hk)).1 (hl.sets x (List.mem_of_getElem? hk)).2
   unfold Zj.s0
   rw [Zm h2, cond_true, h1]
   simp only [Option.bind_some, hb, Zn (show -9223372036854775808 ≤ (k : Int) + 1 ∧ (k : Int) + 1 ≤ 9223372036854775807 by omega)]
   cases b
   ·exact .inr ⟨rfl, fun h => by have := hr.2 h; cases this⟩
   ·exact .inl ⟨rfl, hr.1 rfl⟩) (by unfold Zj.s0; rw [Z02 (by omega)]; rfl) with ⟨h1, h2⟩ | ⟨h1, h2⟩
 ·exact .inl ⟨h1, fun l hm => by obtain ⟨k, hk⟩ := List.getElem?_of_mem hm; exact h2 k l hk⟩
 ·exact .inr ⟨h1, fun h => h2 fun k x hk => h x (List.mem_of_getElem? hk)⟩

def goodOdd (f : Form) (k : Nat) (g : Granule) : Prop := RightL g.Ticks ∧ ZP g.Index ∧ ∀ p, k ≠ 0 → f.Odd[k - 1]? = some p → p.Index < g.Index

theorem shape_odd {f : Form} (hl : Lim f) : (ZJ (Zj.s1 f) 0 = some (.go ()) ∧ ∀ k g, f.Odd[k]? = some g → goodOdd f k g) ∨ (ZJ (Zj.s1 f) 0 = some (.ret false) ∧ ¬ ∀ k g, f.Odd[k]? = some g → goodOdd f k g) := by
 have hlen := Z3H (b := 31) hl.odd
 refine Z4D (l := f.Odd) (step := Zj.s1 f) (goodOdd f) (no := .ret false) (yes := .go ()) (fun k x hk _ => ?_) (by unfold Zj.s1; rw [Z02 (by omega)]; rfl)
 obtain ⟨h1, h2⟩ := Z63 hk
 have hx := hl.ticks x (List.mem_of_getElem? hk)
 obtain ⟨b, hb, hr⟩ := Z62 hx.2.1 hx.2.2
 unfold Zj.s1
 rw [Zm h2, cond_true, h1]
 simp only [Option.bind_some, hb, Z5K, Zn (show -9223372036854775808 ≤ (k : Int) + 1 ∧ (k : Int) + 1 ≤ 9223372036854775807 by omega)]
 by_cases hbt : b = true ∧ ZP x.Index
 ·rw [hbt.1, Zm hbt.2]
  simp only [Bool.not_true, Bool.or_self, cond_false]
  by_cases h0 : k = 0
  ·subst h0
   exact .inl ⟨by simp, hr.1 hbt.1, hbt.2, fun p h => absurd rfl h⟩
  ·have hpl : k - 1 < f.Odd.length := by omega
   rw [Zm (show (k : Int) > 0 by omega), cond_true, Zn (by omega), show (k : Int) - 1 = ((k - 1 : Nat) : Int) by omega, at?_nat hpl]
   simp only [Option.bind_some]
   by_cases hc : x.Index ≤ f.Odd[k - 1].Index
   ·rw [Zm hc]
    refine .inr ⟨rfl, fun h => ?_⟩
    have := h.2.2 _ h0 (List.getElem?_eq_getElem hpl); omega
   ·rw [Z02 hc]
    refine .inl ⟨rfl, hr.1 hbt.1, hbt.2, fun p _ hp => ?_⟩
    rw [List.getElem?_eq_getElem hpl] at hp; cases hp; omega
 ·have : (!b || !decide (ZP x.Index)) = true := by
   cases b
   ·rfl
   ·rw [Z02 (fun h => hbt ⟨rfl, h⟩)]; rfl
  rw [this, cond_true]
  exact .inr ⟨rfl, fun h => hbt ⟨hr.2 h.1, h.2.1⟩⟩

theorem inc_of {f : Form} (h : ∀ k g, f.Odd[k]? = some g → goodOdd f k g) : Inc f.Odd := by
 intro j k a b hjk ha hb
 induction k generalizing b with
 | zero => omega
 | succ k ih =>
  have hkl := (List.getElem?_eq_some_iff.1 hb).1
  have h1 := (h (k + 1) b hb).2.2 f.Odd[k] (by omega) (by simp [List.getElem?_eq_getElem (show k < f.Odd.length by omega)])
  rcases Nat.lt_or_ge j k with h2 | h2
  ·have := ih _ h2 (List.getElem?_eq_getElem (show k < f.Odd.length by omega)); omega
  ·have : j = k := by omega
   subst this
   rw [List.getElem?_eq_getElem (show j < f.Odd.length by omega)] at ha; cases ha; exact h1

theorem gran_shape_eq {f : Form} (hl : Lim f) : ∃ b, Zj f = some b ∧ (b = true ↔ Shape f) := by
 unfold Zj
 by_cases h1 : f.Count = f.Core.length ∧ (f.Count = 0 ↔ f.Period = 0) ∧ 0 ≤ f.Period ∧ f.Period ≤ 1099511627776
 ·have e : (f.Count != (f.Core.length : Int) || (f.Count == 0) != (f.Period == 0) || decide (f.Period < 0) || decide (f.Period > 1099511627776)) = false := by
   rw [bne_f h1.1, Z02 (show ¬ f.Period < 0 by omega), Z02 (show ¬ f.Period > 1099511627776 by omega)]
   simp only [Bool.false_or, Bool.or_false, bne_eq_false_iff_eq, ibeq, decide_eq_decide]
   exact h1.2.1
  rw [e, cond_false]
  rcases shape_core hl with ⟨h2, h3⟩ | ⟨h2, h3⟩
  ·rw [h2]
   simp only [Option.bind_some, Jx.elim]
   rcases shape_odd hl with ⟨h4, h5⟩ | ⟨h4, h5⟩
   ·rw [h4]
    exact ⟨true, rfl, fun _ => ⟨h1.1, h1.2.1, h1.2.2, h3, fun g hg => by obtain ⟨k, hk⟩ := List.getElem?_of_mem hg; exact ⟨(h5 k g hk).1, (h5 k g hk).2.1⟩, inc_of h5⟩, fun _ => rfl⟩
   ·rw [h4]
    refine ⟨false, rfl, fun h => (by cases h), fun h => absurd (fun k g hk => ⟨(h.odd g (List.mem_of_getElem? hk)).1, (h.odd g (List.mem_of_getElem? hk)).2, fun p h0 hp => h.inc (k - 1) k p g (by omega) hp hk⟩) h5⟩
  ·rw [h2]
   exact ⟨false, rfl, fun h => (by cases h), fun h => absurd h.core h3⟩
 ·have e : (f.Count != (f.Core.length : Int) || (f.Count == 0) != (f.Period == 0) || decide (f.Period < 0) || decide (f.Period > 1099511627776)) = true := by
   apply Classical.byContradiction
   intro hn
   simp only [Bool.not_eq_true, Bool.or_eq_false_iff, bne_eq_false_iff_eq, decide_eq_false_iff_not, ibeq, decide_eq_decide] at hn
   exact h1 ⟨hn.1.1.1, hn.1.1.2, by omega, by omega⟩
  rw [e, cond_true]
  exact ⟨false, rfl, fun h => (by cases h), fun h => absurd ⟨h.count, h.zero, h.per⟩ h1⟩

def fstT (l : List Span) : Int := (l.head?.map Span.From).getD 0
def lstT (l : List Span) : Int := (l.getLast?.map Span.To).getD 0

theorem Z8x {a b : List Span} (ha : a ≠ []) (hb : b ≠ []) : Z2k a b ↔ lstT a < fstT b := by
 unfold Z2k lstT fstT
 rw [List.getLast?_eq_some_getLast ha, List.head?_eq_some_head hb]
 simp

theorem RightL.tail {s : Span} {l : List Span} (h : RightL (s :: l)) : RightL l :=
 ⟨fun k x hk => h.ok (k + 1) x hk, fun k x y hx hy => h.gap (k + 1) x y hx hy⟩

theorem Z3T {l : List Span} (h : RightL l) (hn : l ≠ []) : fstT l ≤ lstT l := by
 induction l with
 | nil => exact absurd rfl hn
 | cons s l ih =>
  have h0 := h.ok 0 s rfl
  cases l with
  | nil => simp [fstT, lstT]; exact h0.2.2
  | cons t l =>
   have h1 := h.gap 0 s t rfl rfl
   have h2 := ih h.tail (by simp)
   have e1 : lstT (s :: t :: l) = lstT (t :: l) := by simp [lstT]
   have e2 : fstT (t :: l) = t.From := rfl
   have e3 : fstT (s :: t :: l) = s.From := rfl
   rw [e1, e3]; rw [e2] at h2; omega

theorem lst_tick {l : List Span} (h : RightL l) (hn : l ≠ []) : ZP (lstT l) ∧ ZP (fstT l) := by
 have h1 : l.getLast? = some (l.getLast hn) := List.getLast?_eq_some_getLast hn
 have h2 : l.head? = some (l.head hn) := List.head?_eq_some_head hn
 obtain ⟨j, hj⟩ := List.getElem?_of_mem (List.getLast_mem hn)
 obtain ⟨k, hk⟩ := List.getElem?_of_mem (List.head_mem hn)
 unfold lstT fstT
 rw [h1, h2]
 exact ⟨(h.ok j _ hj).2.1, (h.ok k _ hk).1⟩

def full (f : Form) : List (List Span) := f.Core.filter (fun l => decide (l.length > 0))
def Turns (f : Form) : Prop := (∀ (k : Nat) (a b : List Span), (full f)[k]? = some a → (full f)[k + 1]? = some b → lstT a < fstT b) ∧ ∀ a b, (full f).getLast? = some a → (full f).head? = some b → lstT a < fstT b + f.Period

theorem full_loop {f : Form} (hl : Lim f) : ZJ (Z0A.s0 f) (0, []) = some (full f) := by
 have hlen := Z3H (b := 23) hl.core
 refine Z1z (I := fun s r => r = full f ∧ ∃ k : Nat, k ≤ f.Core.length ∧ s = ((k : Int), (f.Core.take k).filter (fun l => decide (l.length > 0)))) (fun s => f.Core.length - s.1.toNat) ?_ ⟨rfl, 0, Nat.zero_le _, by simp⟩
 rintro s r ⟨rfl, k, hk, rfl⟩
 unfold Z0A.s0
 by_cases hlt : k < f.Core.length
 ·have htake : f.Core.take (k + 1) = f.Core.take k ++ [f.Core[k]] := List.take_succ_eq_append_getElem hlt
  simp only
  rw [Zm (show (k : Int) < f.Core.length by omega), cond_true, at?_nat hlt, Zn (by omega)]
  simp only [Option.bind_some]
  refine .inl ?_
  have hfl : ((f.Core.take k).filter (fun l => decide (l.length > 0))).length ≤ k := Nat.le_trans (List.length_filter_le _ _) (by rw [List.length_take]; exact Nat.min_le_left _ _)
  by_cases hc : f.Core[k].length > 0
  ·rw [Zm (show ((f.Core[k].length : Int) > 0) by omega), cond_true, app?_ok (by have h1 := hl.core; rw [Z17] at h1; rw [Z6M]; simp only [List.length_singleton]; omega)]
   exact ⟨_, rfl, ⟨trivial, k + 1, hlt, by rw [htake, List.filter_append]; simp [hc]⟩, by simp; omega⟩
  ·rw [Z02 (show ¬ ((f.Core[k].length : Int) > 0) by omega), cond_false]
   exact ⟨_, rfl, ⟨trivial, k + 1, hlt, by rw [htake, List.filter_append]; simp [hc]⟩, by simp; omega⟩
 ·have : k = f.Core.length := by omega
  subst this
  simp only
  rw [Z02 (show ¬ ((f.Core.length : Int) < f.Core.length) by omega), cond_false, List.take_length]
  exact .inr rfl

theorem gran_turns_eq {f : Form} (hl : Lim f) (hs : Shape f) : ∃ b, Z0A f = some b ∧ (b = true ↔ Turns f) := by
 have hlen := Z3H (b := 23) hl.core
 have hfl : (full f).length ≤ f.Core.length := List.length_filter_le _ _
 have hmem : ∀ x ∈ full f, x ∈ f.Core ∧ x ≠ [] := fun x hx => by
  have := List.mem_filter.1 hx
  exact ⟨this.1, by rintro rfl; simp at this⟩
 unfold Z0A
 rw [full_loop hl]
 simp only [Option.bind_some]
 rcases Z4D (l := full f) (step := Z0A.s1 f (full f)) (fun k a => ∀ b, (full f)[(k + 1) % (full f).length]? = some b → lstT a < fstT b + (if k + 1 = (full f).length then f.Period else 0)) (no := .ret false) (yes := .go ()) (fun k a hk _ => by
   obtain ⟨h1, h2⟩ := Z63 hk
   have hkl : k < (full f).length := by omega
   have hmod : (k + 1) % (full f).length < (full f).length := Nat.mod_lt _ (by omega)
   have hnext : at? (full f) ((((k + 1) % (full f).length : Nat) : Int)) = some (full f)[(k + 1) % (full f).length] := at?_nat hmod
   obtain ⟨ha1, ha2⟩ := hmem a (List.mem_of_getElem? hk)
   obtain ⟨hb1, hb2⟩ := hmem _ (List.getElem_mem hmod)
   have hra := hs.core a ha1
   have hrb := hs.core _ hb1
   have hal : a.length - 1 < a.length := by have := List.length_pos_iff.2 ha2; omega
   have hlast : at? a (w64 ((a.length : Int) - 1)) = some a[a.length - 1] := by
    have := Z3H (b := 15) (hl.sets a ha1).1
    rw [Zn (by omega), show (a.length : Int) - 1 = ((a.length - 1 : Nat) : Int) by omega, at?_nat hal]
   have hlt : lstT a = a[a.length - 1].To := by unfold lstT; rw [List.getLast?_eq_getElem?, List.getElem?_eq_getElem hal]; rfl
   unfold Z0A.s1
   rw [Zm h2, cond_true, h1, nz?_ok (by omega), Zn (x := (k : Int) + 1) (by omega)]
   have htm : ((k : Int) + 1).tmod ((full f).length : Int) = (((k + 1) % (full f).length : Nat) : Int) := by
    rw [Int.tmod_eq_emod_of_nonneg (by omega)]; push_cast; rfl
   simp only [Option.bind_some, htm, hnext, hlast]
   rw [List.getElem?_eq_getElem hmod]
   generalize (full f)[(k + 1) % (full f).length] = b at *
   have hb0 : at? b 0 = some (b.head hb2) := by
    cases b with
    | nil => exact absurd rfl hb2
    | cons y b => rfl
   have hbf : fstT b = (b.head hb2).From := by unfold fstT; rw [List.head?_eq_some_head hb2]; rfl
   have htick := (lst_tick hrb hb2).2
   unfold ZP at htick
   have hper := hs.per
   by_cases hl1 : k + 1 = (full f).length
   ·have e : ((k : Int) + 1 == ((full f).length : Int)) = true := beq_t (by omega)
    rw [e, cond_true]
    simp only [Option.bind_some, hb0, ← hbf, Zn (show -9223372036854775808 ≤ fstT b + f.Period ∧ fstT b + f.Period ≤ 9223372036854775807 by omega), ← hlt, if_pos hl1]
    by_cases hc : lstT a ≥ fstT b + f.Period
    ·rw [Zm hc]; exact .inr ⟨rfl, fun h => by have := h b rfl; omega⟩
    ·rw [Z02 hc]; exact .inl ⟨rfl, fun b' hb' => by cases hb'; omega⟩
   ·have e : ((k : Int) + 1 == ((full f).length : Int)) = false := beq_f (by omega)
    rw [e, cond_false]
    simp only [Option.bind_some, hb0, ← hbf, Zn (show -9223372036854775808 ≤ fstT b + 0 ∧ fstT b + 0 ≤ 9223372036854775807 by omega), ← hlt, if_neg hl1]
    by_cases hc : lstT a ≥ fstT b + 0
    ·rw [Zm hc]; exact .inr ⟨rfl, fun h => by have := h b rfl; omega⟩
    ·rw [Z02 hc]; exact .inl ⟨rfl, fun b' hb' => by cases hb'; omega⟩) (by unfold Z0A.s1; rw [Z02 (by omega)]; rfl) with ⟨h1, h2⟩ | ⟨h1, h2⟩
 ·rw [h1]
  refine ⟨true, rfl, fun _ => ⟨fun k a b ha hb => ?_, fun a b ha hb => ?_⟩, fun _ => rfl⟩
  ·have hkl := (List.getElem?_eq_some_iff.1 hb).1
   have := h2 k a ha b (by rw [Nat.mod_eq_of_lt hkl]; exact hb)
   rw [if_neg (by omega)] at this; omega
  ·have hn : full f ≠ [] := by rintro e; rw [e] at ha; simp at ha
   have hpos := List.length_pos_iff.2 hn
   rw [List.getLast?_eq_getElem?] at ha
   have e1 : (full f).length - 1 + 1 = (full f).length := by omega
   have := h2 _ a ha b (by rw [e1, Nat.mod_self, ← List.head?_eq_getElem?]; exact hb)
   rw [if_pos e1] at this; exact this
 ·rw [h1]
  refine ⟨false, rfl, fun h => (by cases h), fun h => absurd (fun k a hk b hb => ?_) h2⟩
  have hkl := (List.getElem?_eq_some_iff.1 hk).1
  by_cases hl1 : k + 1 = (full f).length
  ·rw [if_pos hl1]
   rw [hl1, Nat.mod_self, ← List.head?_eq_getElem?] at hb
   exact h.2 a b (by rw [List.getLast?_eq_getElem?, ← hl1]; exact hk) hb
  ·rw [if_neg hl1]
   rw [Nat.mod_eq_of_lt (by omega)] at hb
   have := h.1 k a b hk hb; omega

end Go.Dn

namespace Go.Dn
open Go

theorem Z8f {l : List (List Span)} {p : List Span → Bool} (hl : l.length * 24 ≤ reachBytes) : Zb l (fun z => some (p z)) = some (decide (∃ x ∈ l, p x = true)) := by
 have hlen := Z3H (b := 23) hl
 unfold Zb ZF
 by_cases hall : ∀ (k : Nat) (x : List Span), l[k]? = some x → ¬ p x = true
 ·have : ZJ (ZF.s0 l (fun z => some (p z))) 0 = some (.go ()) := by
   refine Z1z (I := fun (s : Int) r => r = .go () ∧ ∃ k : Nat, s = k ∧ k ≤ l.length) (fun s => l.length - s.toNat) ?_ ⟨rfl, 0, rfl, Nat.zero_le _⟩
   rintro s r ⟨rfl, k, rfl, hk⟩
   unfold ZF.s0
   by_cases hlt : k < l.length
   ·rw [Zm (show (k : Int) < l.length by omega), cond_true, at?_nat hlt, Zn (by omega)]
    have := hall k _ (List.getElem?_eq_getElem hlt)
    simp only [Option.bind_some, Bool.not_eq_true] at this ⊢
    rw [this]
    exact .inl ⟨_, rfl, ⟨trivial, k + 1, by push_cast; rfl, hlt⟩, by simp; omega⟩
   ·rw [Z02 (show ¬ (k : Int) < l.length by omega)]; exact .inr rfl
  rw [this, Z02 (by rintro ⟨x, hx, hp⟩; obtain ⟨k, hk⟩ := List.getElem?_of_mem hx; exact hall k x hk hp)]
  rfl
 ·obtain ⟨k0, x0, hx0, hb0, hg⟩ := Z81 (good := fun _ x => ¬ p x = true) hall
  have hb0 : p x0 = true := Classical.byContradiction hb0
  have hlt0 := (List.getElem?_eq_some_iff.1 hx0).1
  have : ZJ (ZF.s0 l (fun z => some (p z))) 0 = some (.ret (k0 : Int)) := by
   refine Z1z (I := fun (s : Int) r => r = .ret (k0 : Int) ∧ ∃ k : Nat, s = k ∧ k ≤ k0) (fun s => l.length - s.toNat) ?_ ⟨rfl, 0, rfl, Nat.zero_le _⟩
   rintro s r ⟨rfl, k, rfl, hk⟩
   unfold ZF.s0
   have hkl : k < l.length := by omega
   rw [Zm (show (k : Int) < l.length by omega), cond_true, at?_nat hkl, Zn (by omega)]
   by_cases hlt : k < k0
   ·have := hg k _ hlt (List.getElem?_eq_getElem hkl)
    simp only [Option.bind_some, Bool.not_eq_true] at this ⊢
    rw [this]
    exact .inl ⟨_, rfl, ⟨trivial, k + 1, by push_cast; rfl, hlt⟩, by simp; omega⟩
   ·have : k = k0 := by omega
    subst this
    rw [List.getElem?_eq_getElem hkl] at hx0
    cases hx0
    simp only [Option.bind_some, hb0]
    exact .inr rfl
  rw [this, Zm ⟨x0, List.mem_of_getElem? hx0, hb0⟩]
  simp only [Option.bind_some, Jx.elim]
  rw [Zm (by omega)]

def Bare (f : Form) : Prop := ∀ l ∈ f.Core, l = []
theorem Z7i {f : Form} (hl : Lim f) : ∃ b, Z3V f = some b ∧ (b = true ↔ Bare f) := by
 unfold Z3V
 rw [Z8f hl.core]
 refine ⟨_, rfl, ?_⟩
 simp only [Z3o, Bool.not_eq_true', decide_eq_false_iff_not, decide_eq_true_eq]
 constructor
 ·intro h l hm
  apply Classical.byContradiction
  intro hn
  exact h ⟨l, hm, by have := List.length_pos_iff.2 hn; omega⟩
 ·rintro h ⟨l, hm, hp⟩
  rw [h l hm] at hp; simp at hp

theorem Z5G {f : Form} (hs : Shape f) (hb : Bare f) {i : Int} (ho : ¬ Z19 f i) : ZS f i = [] := by
 by_cases h0 : f.Count = 0
 ·exact Z1P ho h0
 ·exact (Z1d ho h0).2 (hb _ (Z1r hs h0 i).2)

def UpTo (f : Form) (i : Int) (r : Int × Bool) : Prop := (r.2 = true ∧ i ≤ r.1 ∧ ZP r.1 ∧ ZS f r.1 ≠ [] ∧ ∀ k, i ≤ k → k < r.1 → ZS f k = []) ∨ (r.2 = false ∧ r.1 = 0 ∧ ∀ k, i ≤ k → ZP k → ZS f k = [])
def DownTo (f : Form) (i : Int) (r : Int × Bool) : Prop := (r.2 = true ∧ r.1 ≤ i ∧ ZP r.1 ∧ ZS f r.1 ≠ [] ∧ ∀ k, k ≤ i → r.1 < k → ZS f k = []) ∨ (r.2 = false ∧ r.1 = 0 ∧ ∀ k, k ≤ i → ZP k → ZS f k = [])

theorem odd_split {f : Form} (hs : Shape f) {p : Nat} {i : Int} (hp : ∀ (k : Nat) (g : Granule), f.Odd[k]? = some g → (k < p ↔ g.Index < i)) {j : Int} (hj : Z19 f j) : ∃ (k : Nat) (g : Granule), f.Odd[k]? = some g ∧ g.Index = j ∧ (k < p ↔ j < i) := by
 obtain ⟨g, hg, rfl⟩ := hj
 obtain ⟨k, hk⟩ := List.getElem?_of_mem hg
 exact ⟨k, g, hk, rfl, hp k g hk⟩

theorem gran_step_up {f : Form} (hl : Lim f) (hs : Shape f) {i : Int} (hi : -1099511627776 ≤ i ∧ i ≤ 1099511627776) : ∃ r, Zz f i 1 = some r ∧ UpTo f i r := by
 have hi64 : In64 i := by unfold In64; omega
 obtain ⟨b, hb, hbb⟩ := Z7i hl
 have holen := Z3H (b := 31) hl.odd
 unfold Zz
 rw [hb]
 simp only [Option.bind_some]
 cases b with
 | true =>
  have hbare := hbb.1 rfl
  rw [cond_true]
  obtain ⟨p, h1, h2, h3⟩ := Z4U hl hs.inc i
  rw [h3]
  simp only [Option.bind_some, Z02 (show ¬ (1 : Int) < 0 by omega), Bool.false_and, cond_false]
  obtain ⟨r, hr, hpost⟩ := Z0l (step := Zz.s0 f 1) (I := fun (s : Int) => ∃ k : Nat, s = k ∧ p ≤ k ∧ k ≤ f.Odd.length ∧ ∀ (j : Nat) (g : Granule), f.Odd[j]? = some g → p ≤ j → j < k → g.Ticks = []) (fun s => f.Odd.length - s.toNat)
   (fun r => (∃ (k : Nat) (g : Granule), r = .ret (g.Index, true) ∧ f.Odd[k]? = some g ∧ p ≤ k ∧ g.Ticks ≠ [] ∧ ∀ (j : Nat) (g' : Granule), f.Odd[j]? = some g' → p ≤ j → j < k → g'.Ticks = []) ∨ (r = .go () ∧ ∀ (j : Nat) (g' : Granule), f.Odd[j]? = some g' → p ≤ j → g'.Ticks = [])) (by
   rintro s ⟨k, rfl, hpk, hk, hn⟩
   unfold Zz.s0
   by_cases hlt : k < f.Odd.length
   ·rw [Zm (show (k : Int) ≥ 0 by omega), Zm (show (k : Int) < f.Odd.length by omega), Bool.and_self, cond_true, at?_nat hlt, Zn (by omega)]
    simp only [Option.bind_some]
    have hget := List.getElem?_eq_getElem hlt
    by_cases hc : f.Odd[k].Ticks = []
    ·rw [hc]
     refine .inl ⟨(k : Int) + 1, rfl, ⟨k + 1, by push_cast; rfl, by omega, hlt, fun j g hj hpj hjk => ?_⟩, by simp; omega⟩
     rcases Nat.lt_or_ge j k with h | h
     ·exact hn j g hj hpj h
     ·have : j = k := by omega
      subst this; rw [hget] at hj; cases hj; exact hc
    ·rw [Zm (show ((f.Odd[k].Ticks.length : Int) > 0) by have := List.length_pos_iff.2 hc; omega), cond_true]
     exact .inr ⟨_, rfl, .inl ⟨k, _, rfl, hget, hpk, hc, hn⟩⟩
   ·rw [Z02 (show ¬ (k : Int) < f.Odd.length by omega), Bool.and_false, cond_false]
    refine .inr ⟨_, rfl, .inr ⟨rfl, fun j g hj hpj => hn j g hj hpj ?_⟩⟩
    have := (List.getElem?_eq_some_iff.1 hj).1; omega) (p : Int) ⟨p, rfl, Nat.le_refl _, h1, fun j g _ h h' => by omega⟩
  rw [hr]
  simp only [Option.bind_some]
  rcases hpost with ⟨k, g, rfl, hk, hpk, hne, hn⟩ | ⟨rfl, hn⟩
  ·have hset := Z1e hs.inc (List.mem_of_getElem? hk)
   have hgi : ¬ g.Index < i := fun h => by have := (h2 k g hk).2 h; omega
   refine ⟨_, rfl, .inl ⟨rfl, by simp only; omega, (hs.odd g (List.mem_of_getElem? hk)).2, by simp only; rw [hset]; exact hne, fun j hij hjg => ?_⟩⟩
   simp only at hjg
   by_cases ho : Z19 f j
   ·obtain ⟨k', g', hk', rfl, hiff⟩ := odd_split hs h2 ho
    rw [Z1e hs.inc (List.mem_of_getElem? hk')]
    refine hn k' g' hk' ?_ ?_
    ·rcases Nat.lt_or_ge k' p with h | h
     ·have := hiff.1 h; omega
     ·exact h
    ·rcases Nat.lt_or_ge k' k with h | h
     ·exact h
     ·rcases Nat.lt_or_ge k k' with h' | h'
      ·have := hs.inc k k' g g' h' hk hk'; omega
      ·have : k = k' := by omega
       subst this; rw [hk] at hk'; cases hk'; omega
   ·exact Z5G hs hbare ho
  ·refine ⟨_, rfl, .inr ⟨rfl, rfl, fun j hij _ => ?_⟩⟩
   by_cases ho : Z19 f j
   ·obtain ⟨k', g', hk', rfl, hiff⟩ := odd_split hs h2 ho
    rw [Z1e hs.inc (List.mem_of_getElem? hk')]
    refine hn k' g' hk' ?_
    rcases Nat.lt_or_ge k' p with h | h
    ·have := hiff.1 h; omega
    ·exact h
   ·exact Z5G hs hbare ho
 | false =>
  rw [cond_false]
  obtain ⟨r, hr, hpost⟩ := Z0l (step := Zz.s1 f 1) (I := fun (s : Int) => i ≤ s ∧ s ≤ 1099511627777 ∧ ∀ k, i ≤ k → k < s → ZS f k = []) (fun s => (1099511627777 - s).toNat)
   (fun r => (∃ j, r = .ret (j, true) ∧ i ≤ j ∧ ZP j ∧ ZS f j ≠ [] ∧ ∀ k, i ≤ k → k < j → ZS f k = []) ∨ (r = .go () ∧ ∀ k, i ≤ k → ZP k → ZS f k = [])) (by
   rintro s ⟨hs1, hs2, hn⟩
   unfold Zz.s1
   rw [Z5K]
   by_cases ht : ZP s
   ·rw [Zm ht, cond_true, Z7W hl hs (Z23 ht), Zn (by unfold ZP at ht; omega)]
    simp only [Option.bind_some]
    by_cases hc : ZS f s = []
    ·rw [hc]
     refine .inl ⟨s + 1, by simp, ⟨by omega, by unfold ZP at ht; omega, fun k hk hks => ?_⟩, by unfold ZP at ht; omega⟩
     by_cases h : k = s
     ·rw [h]; exact hc
     ·exact hn k hk (by omega)
    ·rw [Zm hc, cond_true]
     exact .inr ⟨_, rfl, .inl ⟨s, rfl, hs1, ht, hc, hn⟩⟩
   ·rw [Z02 ht, cond_false]
    exact .inr ⟨_, rfl, .inr ⟨rfl, fun k hk htk => hn k hk (by unfold ZP at ht htk; omega)⟩⟩) i ⟨Int.le_refl _, by omega, fun k h h' => by omega⟩
  rw [hr]
  simp only [Option.bind_some]
  rcases hpost with ⟨j, rfl, h1, h2, h3, h4⟩ | ⟨rfl, hn⟩
  ·exact ⟨_, rfl, .inl ⟨rfl, h1, h2, h3, h4⟩⟩
  ·exact ⟨_, rfl, .inr ⟨rfl, rfl, hn⟩⟩

theorem Z99 {f : Form} (hl : Lim f) (hs : Shape f) {i : Int} (hi : -1099511627776 ≤ i ∧ i ≤ 1099511627776) : ∃ r, Zz f i (-1) = some r ∧ DownTo f i r := by
 have hi64 : In64 i := by unfold In64; omega
 obtain ⟨b, hb, hbb⟩ := Z7i hl
 have holen := Z3H (b := 31) hl.odd
 unfold Zz
 rw [hb]
 simp only [Option.bind_some]
 cases b with
 | true =>
  have hbare := hbb.1 rfl
  rw [cond_true]
  obtain ⟨p, h1, h2, h3⟩ := Z4U hl hs.inc i
  rw [h3]
  -- the number of exceptions up to the index
  obtain ⟨q, hq1, hq2, hq3⟩ : ∃ q : Nat, q ≤ f.Odd.length ∧ (∀ (k : Nat) (g : Granule), f.Odd[k]? = some g → (k < q ↔ g.Index ≤ i)) ∧ ((bif (decide ((-1 : Int) < 0) && !decide (∃ g, f.Odd[p]? = some g ∧ g.Index = i)) then some (w64 ((p : Int) - 1)) else some (p : Int)) : Option Int) = some ((q : Int) - 1) := by
   by_cases he : ∃ g, f.Odd[p]? = some g ∧ g.Index = i
   ·obtain ⟨g, hg, hgi⟩ := he
    have hpl := (List.getElem?_eq_some_iff.1 hg).1
    refine ⟨p + 1, by omega, fun k g' hk => ?_, by rw [Zm (p := ∃ g, f.Odd[p]? = some g ∧ g.Index = i) ⟨g, hg, hgi⟩]; simp⟩
    have := h2 k g' hk
    constructor
    ·intro h
     rcases Nat.lt_or_ge k p with h' | h'
     ·have := this.1 h'; omega
     ·have : k = p := by omega
      subst this; rw [hg] at hk; cases hk; omega
    ·intro h
     rcases Nat.lt_or_ge p k with h' | h'
     ·have := hs.inc p k g g' h' hg hk; omega
     ·omega
   ·refine ⟨p, h1, fun k g' hk => ?_, by rw [Z02 (p := ∃ g, f.Odd[p]? = some g ∧ g.Index = i) he, Zn (by omega)]; simp⟩
    have := h2 k g' hk
    constructor
    ·intro h; have := this.1 h; omega
    ·intro h
     by_cases hgi : g'.Index = i
     ·exfalso
      have hkp : ¬ k < p := fun h' => by have := this.1 h'; omega
      rcases Nat.lt_or_ge p k with h' | h'
      ·have hpl : p < f.Odd.length := by have := (List.getElem?_eq_some_iff.1 hk).1; omega
       have h5 := hs.inc p k _ g' h' (List.getElem?_eq_getElem hpl) hk
       have h6 := (h2 p _ (List.getElem?_eq_getElem hpl)).2 (by omega)
       omega
      ·have : k = p := by omega
       subst this
       exact he ⟨g', hk, hgi⟩
     ·exact this.2 (by omega)
  simp only [Option.bind_some]
  rw [hq3]
  simp only [Option.bind_some]
  obtain ⟨r, hr, hpost⟩ := Z0l (step := Zz.s0 f (-1)) (I := fun (s : Int) => ∃ k : Nat, s = (k : Int) - 1 ∧ k ≤ q ∧ ∀ (j : Nat) (g : Granule), f.Odd[j]? = some g → k ≤ j → j < q → g.Ticks = []) (fun s => (s + 1).toNat)
   (fun r => (∃ (k : Nat) (g : Granule), r = .ret (g.Index, true) ∧ f.Odd[k]? = some g ∧ k < q ∧ g.Ticks ≠ [] ∧ ∀ (j : Nat) (g' : Granule), f.Odd[j]? = some g' → k < j → j < q → g'.Ticks = []) ∨ (r = .go () ∧ ∀ (j : Nat) (g' : Granule), f.Odd[j]? = some g' → j < q → g'.Ticks = [])) (by
   rintro s ⟨k, rfl, hk, hn⟩
   unfold Zz.s0
   by_cases h0 : 0 < k
   ·have hlt : k - 1 < f.Odd.length := by omega
    rw [Zm (show (k : Int) - 1 ≥ 0 by omega), Zm (show (k : Int) - 1 < f.Odd.length by omega), Bool.and_self, cond_true, show (k : Int) - 1 = ((k - 1 : Nat) : Int) by omega, at?_nat hlt, Zn (by omega)]
    simp only [Option.bind_some]
    have hget := List.getElem?_eq_getElem hlt
    by_cases hc : f.Odd[k - 1].Ticks = []
    ·rw [hc]
     refine .inl ⟨((k - 1 : Nat) : Int) + -1, rfl, ⟨k - 1, by omega, by omega, fun j g hj hpj hjk => ?_⟩, by simp; omega⟩
     rcases Nat.lt_or_ge j k with h | h
     ·have : j = k - 1 := by omega
      subst this; rw [hget] at hj; cases hj; exact hc
     ·exact hn j g hj h hjk
    ·rw [Zm (show ((f.Odd[k - 1].Ticks.length : Int) > 0) by have := List.length_pos_iff.2 hc; omega), cond_true]
     exact .inr ⟨_, rfl, .inl ⟨k - 1, _, rfl, hget, by omega, hc, fun j g hj h1 h2 => hn j g hj (by omega) h2⟩⟩
   ·rw [Z02 (show ¬ (k : Int) - 1 ≥ 0 by omega), Bool.false_and, cond_false]
    exact .inr ⟨_, rfl, .inr ⟨rfl, fun j g hj hjq => hn j g hj (by omega) hjq⟩⟩) ((q : Int) - 1) ⟨q, rfl, Nat.le_refl _, fun j g _ h h' => by omega⟩
  rw [hr]
  simp only [Option.bind_some]
  rcases hpost with ⟨k, g, rfl, hk, hkq, hne, hn⟩ | ⟨rfl, hn⟩
  ·have hset := Z1e hs.inc (List.mem_of_getElem? hk)
   have hgi := (hq2 k g hk).1 hkq
   refine ⟨_, rfl, .inl ⟨rfl, hgi, (hs.odd g (List.mem_of_getElem? hk)).2, by simp only; rw [hset]; exact hne, fun j hij hjg => ?_⟩⟩
   simp only at hjg
   by_cases ho : Z19 f j
   ·obtain ⟨g', hg', rfl⟩ := ho
    obtain ⟨k', hk'⟩ := List.getElem?_of_mem hg'
    rw [Z1e hs.inc hg']
    refine hn k' g' hk' ?_ ((hq2 k' g' hk').2 hij)
    rcases Nat.lt_or_ge k k' with h | h
    ·exact h
    ·rcases Nat.lt_or_ge k' k with h' | h'
     ·have := hs.inc k' k g' g h' hk' hk; omega
     ·have : k = k' := by omega
      subst this; rw [hk] at hk'; cases hk'; omega
   ·exact Z5G hs hbare ho
  ·refine ⟨_, rfl, .inr ⟨rfl, rfl, fun j hij _ => ?_⟩⟩
   by_cases ho : Z19 f j
   ·obtain ⟨g', hg', rfl⟩ := ho
    obtain ⟨k', hk'⟩ := List.getElem?_of_mem hg'
    rw [Z1e hs.inc hg']
    exact hn k' g' hk' ((hq2 k' g' hk').2 hij)
   ·exact Z5G hs hbare ho
 | false =>
  rw [cond_false]
  obtain ⟨r, hr, hpost⟩ := Z0l (step := Zz.s1 f (-1)) (I := fun (s : Int) => s ≤ i ∧ -1099511627777 ≤ s ∧ ∀ k, k ≤ i → s < k → ZS f k = []) (fun s => (s + 1099511627777).toNat)
   (fun r => (∃ j, r = .ret (j, true) ∧ j ≤ i ∧ ZP j ∧ ZS f j ≠ [] ∧ ∀ k, k ≤ i → j < k → ZS f k = []) ∨ (r = .go () ∧ ∀ k, k ≤ i → ZP k → ZS f k = [])) (by
   rintro s ⟨hs1, hs2, hn⟩
   unfold Zz.s1
   rw [Z5K]
   by_cases ht : ZP s
   ·rw [Zm ht, cond_true, Z7W hl hs (Z23 ht), Zn (by unfold ZP at ht; omega)]
    simp only [Option.bind_some]
    by_cases hc : ZS f s = []
    ·rw [hc]
     refine .inl ⟨s + -1, by simp, ⟨by omega, by unfold ZP at ht; omega, fun k hk hks => ?_⟩, by unfold ZP at ht; omega⟩
     by_cases h : k = s
     ·rw [h]; exact hc
     ·exact hn k hk (by omega)
    ·rw [Zm hc, cond_true]
     exact .inr ⟨_, rfl, .inl ⟨s, rfl, hs1, ht, hc, hn⟩⟩
   ·rw [Z02 ht, cond_false]
    exact .inr ⟨_, rfl, .inr ⟨rfl, fun k hk htk => hn k hk (by unfold ZP at ht htk; omega)⟩⟩) i ⟨Int.le_refl _, by omega, fun k h h' => by omega⟩
  rw [hr]
  simp only [Option.bind_some]
  rcases hpost with ⟨j, rfl, h1, h2, h3, h4⟩ | ⟨rfl, hn⟩
  ·exact ⟨_, rfl, .inl ⟨rfl, h1, h2, h3, h4⟩⟩
  ·exact ⟨_, rfl, .inr ⟨rfl, rfl, hn⟩⟩

def Above (f : Form) (i : Int) (r : Int × Bool) : Prop := (r.2 = true ∧ i < r.1 ∧ ZP r.1 ∧ ZS f r.1 ≠ [] ∧ ∀ k, i < k → k < r.1 → ZP k → ZS f k = []) ∨ (r.2 = false ∧ r.1 = 0 ∧ ∀ k, i < k → ZP k → ZS f k = [])
def Under (f : Form) (i : Int) (r : Int × Bool) : Prop := (r.2 = true ∧ r.1 < i ∧ ZP r.1 ∧ ZS f r.1 ≠ [] ∧ ∀ k, k < i → r.1 < k → ZP k → ZS f k = []) ∨ (r.2 = false ∧ r.1 = 0 ∧ ∀ k, k < i → ZP k → ZS f k = [])

theorem Z2C {f : Form} (hl : Lim f) (hs : Shape f) {i : Int} (hi : In64 i) : ∃ r, Z0v f i = some r ∧ Above f i r := by
 unfold Z0v
 by_cases h : i ≥ 1099511627776
 ·rw [Zm h, cond_true]
  exact ⟨_, rfl, .inr ⟨rfl, rfl, fun k hk ht => by unfold ZP at ht; omega⟩⟩
 ·rw [Z02 h, cond_false, Zn (by unfold In64 at hi; omega)]
  have hm : iMax (i + 1) (-1099511627776) = max (i + 1) (-1099511627776) := by unfold iMax; omega
  rw [hm]
  obtain ⟨r, h1, h2⟩ := gran_step_up hl hs (i := max (i + 1) (-1099511627776)) (by omega)
  rw [h1]
  refine ⟨r, rfl, ?_⟩
  rcases h2 with ⟨a, b, c, d, e⟩ | ⟨a, b, e⟩
  ·exact .inl ⟨a, by omega, c, d, fun k hk hkr ht => e k (by unfold ZP at ht; omega) hkr⟩
  ·exact .inr ⟨a, b, fun k hk ht => e k (by have := ht; unfold ZP at this; omega) ht⟩

theorem Z4B {f : Form} (hl : Lim f) (hs : Shape f) {i : Int} (hi : In64 i) : ∃ r, Z13 f i = some r ∧ Under f i r := by
 unfold Z13
 by_cases h : i ≤ -1099511627776
 ·rw [Zm h, cond_true]
  exact ⟨_, rfl, .inr ⟨rfl, rfl, fun k hk ht => by unfold ZP at ht; omega⟩⟩
 ·rw [Z02 h, cond_false, Zn (by unfold In64 at hi; omega)]
  have hm : iMin (i - 1) 1099511627776 = min (i - 1) 1099511627776 := by unfold iMin; omega
  rw [hm]
  obtain ⟨r, h1, h2⟩ := Z99 hl hs (i := min (i - 1) 1099511627776) (by omega)
  rw [h1]
  refine ⟨r, rfl, ?_⟩
  rcases h2 with ⟨a, b, c, d, e⟩ | ⟨a, b, e⟩
  ·exact .inl ⟨a, by omega, c, d, fun k hk hkr ht => e k (by unfold ZP at ht; omega) hkr⟩
  ·exact .inr ⟨a, b, fun k hk ht => e k (by have := ht; unfold ZP at this; omega) ht⟩

end Go.Dn

namespace Go.Dn
open Go

def BesideR (f : Form) (i : Int) (lo hi : Int × Bool) : Prop :=
 fits f i ∧ (lo.2 = true → fits f lo.1 ∧ Z2k (ZS f lo.1) (ZS f i)) ∧ (hi.2 = true → fits f hi.1 ∧ Z2k (ZS f i) (ZS f hi.1)) ∧ (lo.2 = true → hi.2 = true → Z2k (ZS f lo.1) (ZS f hi.1))

theorem aheadL_nil_l (b : List Span) : Z2k [] b := by intro x hx; cases hx
theorem aheadL_nil_r (a : List Span) : Z2k a [] := by intro x _ y hy; cases hy

theorem Z8C {f : Form} (hl : Lim f) (hs : Shape f) (i : Int) : Len (ZS f i) := by
 by_cases ho : Z19 f i
 ·obtain ⟨g, hg, rfl⟩ := ho
  rw [Z1e hs.inc hg]; exact (hl.ticks g hg).2.1
 ·by_cases h0 : f.Count = 0
  ·rw [Z1P ho h0]; unfold Len; simp
  ·rw [Z2B ho h0]; unfold Len; rw [List.length_map]; exact (hl.sets _ (Z1r hs h0 i).2).1

theorem Z4d {f : Form} (hs : Shape f) {i : Int} (hf : fits f i) : RightL (ZS f i) := by
 by_cases ho : Z19 f i
 ·obtain ⟨g, hg, rfl⟩ := ho
  rw [Z1e hs.inc hg]; exact (hs.odd g hg).1
 ·by_cases h0 : f.Count = 0
  ·rw [Z1P ho h0]; exact ⟨by simp, by simp⟩
  ·unfold fits at hf
   rw [Z2B ho h0] at hf ⊢
   exact (hs.core _ (Z1r hs h0 i).2).shift fun s hs' => hf (Z0V (Z3m f i) s) (List.mem_map.2 ⟨s, hs', rfl⟩)

theorem near_l {c : Bool} {X S : List Span} : Z2k (if c = true then X else []) S ↔ (c = true → Z2k X S) := by
 cases c
 ·simp [aheadL_nil_l]
 ·simp
theorem near_r {c : Bool} {X S : List Span} : Z2k S (if c = true then X else []) ↔ (c = true → Z2k S X) := by
 cases c
 ·simp [aheadL_nil_r]
 ·simp

noncomputable def sideG (f : Form) (r : Int × Bool) : Option (Jx (List Span) Bool) :=
 (bif r.2 then (Z0H f r.1).bind fun x => (bif (x.2 != 0) then some (.ret false) else some (.go x.1)) else some (.go []))

open Classical in
theorem sideG_eq {f : Form} (hl : Lim f) (hs : Shape f) {r : Int × Bool} (ht : r.2 = true → ZP r.1) : (r.2 = true ∧ ¬ fits f r.1 ∧ sideG f r = some (.ret false)) ∨ ((r.2 = true → fits f r.1) ∧ sideG f r = some (.go (if r.2 = true then ZS f r.1 else []))) := by
 obtain ⟨j, c⟩ := r
 unfold sideG
 cases c with
 | false => exact .inr ⟨by simp, by simp⟩
 | true =>
  simp only [cond_true]
  rw [Z4T hl hs (Z23 (ht rfl))]
  by_cases hfl : fits f j
  ·rw [if_pos ⟨ht rfl, hfl⟩]; exact .inr ⟨fun _ => hfl, by simp⟩
  ·rw [if_neg (fun h => hfl h.2)]; exact .inl ⟨trivial, hfl, rfl⟩

open Classical in
theorem Z9D {f : Form} (hl : Lim f) (hs : Shape f) {i : Int} (hi : ZP i) {lo hi' : Int × Bool} (hlo : Z13 f i = some lo) (hhi : Z0v f i = some hi') (tlo : lo.2 = true → ZP lo.1) (thi : hi'.2 = true → ZP hi'.1) :
  ∃ b, Z1N f i = some b ∧ (b = true ↔ BesideR f i lo hi') := by
 have e : Z1N f i = (Z0H f i).bind fun x1 => (bif (x1.2 != 0) then some false else (sideG f lo).bind fun y1 => y1.elim (fun r' => some r') fun a2 => (sideG f hi').bind fun y2 => y2.elim (fun r' => some r') fun a4 =>
   (Z0W a2 x1.1).bind fun x6 => ((bif x6 then (Z0W x1.1 a4).bind fun x7 => some x7 else some false)).bind fun y3 => ((bif y3 then (Z0W a2 a4).bind fun x8 => some x8 else some false)).bind fun y4 => some y4) := by
  unfold Z1N sideG
  rw [hlo, hhi]
  simp only [Option.bind_some]
 rw [e, Z4T hl hs (Z23 hi)]
 clear e
 by_cases hf : fits f i
 ·rw [if_pos ⟨hi, hf⟩]
  simp only [Option.bind_some, bne_self_eq_false, cond_false]
  rcases sideG_eq hl hs tlo with ⟨h1, h2, h0⟩ | ⟨h1, h0⟩
  ·rw [h0]
   exact ⟨false, rfl, fun h => (by cases h), fun h => absurd (h.2.1 h1).1 h2⟩
  ·rw [h0]
   simp only [Option.bind_some, Jx.elim]
   rcases sideG_eq hl hs thi with ⟨h3, h4, h0'⟩ | ⟨h3, h0'⟩
   ·rw [h0']
    exact ⟨false, rfl, fun h => (by cases h), fun h => absurd (h.2.2.1 h3).1 h4⟩
   ·rw [h0']
    simp only [Option.bind_some]
    have lenA : Len (if lo.2 = true then ZS f lo.1 else []) := by
     by_cases hc : lo.2 = true
     ·rw [if_pos hc]; exact Z8C hl hs _
     ·rw [if_neg hc]; unfold Len; simp
    generalize hA : (if lo.2 = true then ZS f lo.1 else []) = A at lenA
    generalize hB : (if hi'.2 = true then ZS f hi'.1 else []) = B
    obtain ⟨r1, q1, p1⟩ := Z4H (b := ZS f i) lenA
    obtain ⟨r2, q2, p2⟩ := Z4H (a := ZS f i) (b := B) (Z8C hl hs i)
    obtain ⟨r3, q3, p3⟩ := Z4H (b := B) lenA
    rw [q1, q2, q3]
    subst hA hB
    rw [near_l] at p1
    rw [near_r] at p2
    rw [near_l, near_r] at p3
    refine ⟨r1 && r2 && r3, by cases r1 <;> cases r2 <;> rfl, ?_⟩
    rw [Bool.and_eq_true, Bool.and_eq_true, p1, p2, p3]
    constructor
    ·rintro ⟨⟨a, b⟩, c⟩
     exact ⟨hf, fun h => ⟨h1 h, a h⟩, fun h => ⟨h3 h, b h⟩, c⟩
    ·rintro ⟨_, a, b, c⟩
     exact ⟨⟨fun h => (a h).2, fun h => (b h).2⟩, c⟩
 ·rw [if_neg (fun h => hf h.2)]
  exact ⟨false, rfl, fun h => (by cases h), fun h => absurd h.1 hf⟩

def Beside (f : Form) (i : Int) : Prop := ∀ lo hi, Under f i lo → Above f i hi → BesideR f i lo hi

theorem Under.uniq {f : Form} {i : Int} {r r' : Int × Bool} (h : Under f i r) (h' : Under f i r') : r = r' := by
 obtain ⟨a, b⟩ := r
 obtain ⟨a', b'⟩ := r'
 rcases h with ⟨rfl, h1, h2, h3, h4⟩ | ⟨rfl, rfl, h4⟩ <;> rcases h' with ⟨rfl, k1, k2, k3, k4⟩ | ⟨rfl, rfl, k4⟩
 ·simp only at *
  rcases Int.lt_trichotomy a a' with h | h | h
  ·exact absurd (h4 a' k1 h k2) k3
  ·rw [h]
  ·exact absurd (k4 a h1 h h2) h3
 ·exact absurd (k4 a h1 h2) h3
 ·exact absurd (h4 a' k1 k2) k3
 ·rfl
theorem Above.uniq {f : Form} {i : Int} {r r' : Int × Bool} (h : Above f i r) (h' : Above f i r') : r = r' := by
 obtain ⟨a, b⟩ := r
 obtain ⟨a', b'⟩ := r'
 rcases h with ⟨rfl, h1, h2, h3, h4⟩ | ⟨rfl, rfl, h4⟩ <;> rcases h' with ⟨rfl, k1, k2, k3, k4⟩ | ⟨rfl, rfl, k4⟩
 ·simp only at *
  rcases Int.lt_trichotomy a a' with h | h | h
  ·exact absurd (k4 a h1 h h2) h3
  ·rw [h]
  ·exact absurd (h4 a' k1 h k2) k3
 ·exact absurd (k4 a h1 h2) h3
 ·exact absurd (h4 a' k1 k2) k3
 ·rfl

theorem Z8n {f : Form} (hl : Lim f) (hs : Shape f) {i : Int} (hi : ZP i) : ∃ b, Z1N f i = some b ∧ (b = true ↔ Beside f i) := by
 obtain ⟨lo, h1, h2⟩ := Z4B hl hs (Z23 hi)
 obtain ⟨hi', h3, h4⟩ := Z2C hl hs (Z23 hi)
 obtain ⟨b, h5, h6⟩ := Z9D hl hs hi h1 h3 (fun h => by rcases h2 with ⟨_, _, h, _⟩ | ⟨h', _⟩ <;> simp_all) (fun h => by rcases h4 with ⟨_, _, h, _⟩ | ⟨h', _⟩ <;> simp_all)
 refine ⟨b, h5, h6.trans ⟨fun h lo' hi'' q1 q2 => ?_, fun h => h lo hi' h2 h4⟩⟩
 rw [q1.uniq h2, q2.uniq h4]; exact h

def sizeF (f : Form) : Nat := (f.Core.map List.length).sum + (f.Odd.map (·.Ticks.length)).sum

theorem sum_take {α : Type} (g : α → Nat) {l : List α} {k : Nat} (h : k < l.length) : ((l.take (k + 1)).map g).sum = ((l.take k).map g).sum + g l[k] := by
 rw [List.take_succ_eq_append_getElem h, List.map_append, List.sum_append]; simp

theorem Z7H {f : Form} (hl : Lim f) (hc : f.Core.length ≤ 6000) (ho : f.Odd.length ≤ 6000) : Z05 f = some (sizeF f : Int) := by
 have hr := Z17
 have lenC : ∀ l ∈ f.Core, l.length ≤ 8796093022207 := fun l hm => by have := (hl.sets l hm).1; unfold Len at this; omega
 have lenO : ∀ g ∈ f.Odd, g.Ticks.length ≤ 8796093022207 := fun l hm => by have := (hl.ticks l hm).2.1; unfold Len at this; omega
 obtain ⟨a, h1, h2, h3⟩ := fold_loop (l := f.Core) (step := Z05.s0 f) (f := fun a _ x => a + (x.length : Int)) (fin := id) (a0 := (0 : Int)) (fun k a => a = ((((f.Core.take k).map List.length).sum : Nat) : Int) ∧ a ≤ k * 8796093022207) ⟨by simp, by simp⟩ (fun k x a hk ⟨ha, hb⟩ => by
   obtain ⟨q1, q2⟩ := Z63 hk
   have hx := lenC x (List.mem_of_getElem? hk)
   have hkl : k < f.Core.length := by omega
   have h0 : 0 ≤ a := by rw [ha]; omega
   unfold Z05.s0
   simp only
   rw [Zm q2, cond_true, q1, Zn (x := (k : Int) + 1) (by omega)]
   simp only [Option.bind_some]
   rw [Zn (x := a + (x.length : Int)) (by omega)]
   refine ⟨rfl, ?_, by push_cast; omega⟩
   rw [sum_take _ hkl]
   rw [List.getElem?_eq_getElem hkl] at hk
   cases hk; rw [ha]; push_cast; rfl) (fun a _ => by unfold Z05.s0; simp only; rw [Z02 (by omega)]; rfl)
 rw [List.take_length] at h2
 obtain ⟨b, h4, h5, h6⟩ := fold_loop (l := f.Odd) (step := Z05.s1 f) (f := fun a _ x => a + (x.Ticks.length : Int)) (fin := id) (a0 := a) (fun k b => b = a + ((((f.Odd.take k).map (·.Ticks.length)).sum : Nat) : Int) ∧ b ≤ a + k * 8796093022207) ⟨by simp, by simp⟩ (fun k x b hk ⟨ha, hb⟩ => by
   obtain ⟨q1, q2⟩ := Z63 hk
   have hx := lenO x (List.mem_of_getElem? hk)
   have hkl : k < f.Odd.length := by omega
   have h0 : 0 ≤ b := by rw [ha, h2]; omega
   unfold Z05.s1
   simp only
   rw [Zm q2, cond_true, q1, Zn (x := (k : Int) + 1) (by omega)]
   simp only [Option.bind_some]
   rw [Zn (x := b + (x.Ticks.length : Int)) (by omega)]
   refine ⟨rfl, ?_, by push_cast; omega⟩
   rw [sum_take _ hkl]
   rw [List.getElem?_eq_getElem hkl] at hk
   cases hk; rw [ha]; push_cast; omega) (fun a _ => by unfold Z05.s1; simp only; rw [Z02 (by omega)]; rfl)
 rw [List.take_length] at h5
 unfold Z05
 rw [h1]
 simp only [Option.bind_some, id]
 rw [h4]
 simp only [Option.bind_some, id, h5, h2, sizeF]
 push_cast; rfl

structure RightF (f : Form) : Prop where
 shape : Shape f
 turns : Turns f
 beside : ∀ g ∈ f.Odd, Beside f g.Index
def LongF (f : Form) : Prop := 6000 < f.Core.length ∨ 6000 < f.Odd.length ∨ 60000 < sizeF f

theorem Z4u {f : Form} (hl : Lim f) : (LongF f ∧ Zx f = some 3) ∨ (¬ LongF f ∧ RightF f ∧ Zx f = some 0) ∨ (¬ LongF f ∧ ¬ RightF f ∧ Zx f = some 50) := by
 have holen := Z3H (b := 31) hl.odd
 unfold Zx
 by_cases h1 : 6000 < f.Core.length ∨ 6000 < f.Odd.length
 ·have e : (decide ((f.Core.length : Int) > 6000) || decide ((f.Odd.length : Int) > 6000)) = true := by
   rcases h1 with h | h
   ·rw [Zm (show (f.Core.length : Int) > 6000 by omega)]; rfl
   ·rw [Zm (show (f.Odd.length : Int) > 6000 by omega)]; simp
  rw [e]
  exact .inl ⟨h1.elim .inl (fun h => .inr (.inl h)), rfl⟩
 ·have e : (decide ((f.Core.length : Int) > 6000) || decide ((f.Odd.length : Int) > 6000)) = false := by
   rw [Z02 (show ¬ (f.Core.length : Int) > 6000 by omega), Z02 (show ¬ (f.Odd.length : Int) > 6000 by omega)]; rfl
  rw [e, cond_false, Z7H hl (by omega) (by omega)]
  simp only [Option.bind_some]
  by_cases h2 : 60000 < sizeF f
  ·rw [Zm (show (sizeF f : Int) > 60000 by omega)]
   exact .inl ⟨.inr (.inr h2), rfl⟩
  ·have hnl : ¬ LongF f := by unfold LongF; omega
   rw [Z02 (show ¬ (sizeF f : Int) > 60000 by omega), cond_false]
   obtain ⟨b, hb, hbs⟩ := gran_shape_eq hl
   rw [hb]
   simp only [Option.bind_some]
   refine .inr ?_
   cases b with
   | false => exact .inr ⟨hnl, fun h => (by have := hbs.2 h.shape; cases this), rfl⟩
   | true =>
    have hs := hbs.1 rfl
    obtain ⟨c, hc, hct⟩ := gran_turns_eq hl hs
    rw [hc]
    simp only [Option.bind_some, Bool.not_true, cond_false]
    cases c with
    | false => exact .inr ⟨hnl, fun h => (by have := hct.2 h.turns; cases this), rfl⟩
    | true =>
     simp only [Bool.not_true, cond_false]
     rcases Z4D (l := f.Odd) (step := Zx.s0 f) (fun _ g => Beside f g.Index) (no := .ret 50) (yes := .go ()) (fun k g hk _ => by
       obtain ⟨q1, q2⟩ := Z63 hk
       obtain ⟨b, hb, hbb⟩ := Z8n hl hs (hs.odd g (List.mem_of_getElem? hk)).2
       unfold Zx.s0
       rw [Zm q2, cond_true, q1, Zn (by omega)]
       simp only [Option.bind_some, hb]
       cases b
       ·exact .inr ⟨rfl, fun h => by have := hbb.2 h; cases this⟩
       ·exact .inl ⟨rfl, hbb.1 rfl⟩) (by unfold Zx.s0; rw [Z02 (by omega)]; rfl) with ⟨q1, q2⟩ | ⟨q1, q2⟩
     ·rw [q1]
      exact .inl ⟨hnl, ⟨hs, hct.1 rfl, fun g hg => by obtain ⟨k, hk⟩ := List.getElem?_of_mem hg; exact q2 k g hk⟩, rfl⟩
     ·rw [q1]
      exact .inr ⟨hnl, fun h => q2 fun k g hk => h.beside g (List.mem_of_getElem? hk), rfl⟩

def SmallF (f : Form) : Prop := f.Core.length ≤ 12 ∧ f.Odd.length ≤ 8 ∧ sizeF f ≤ 60
theorem Z6P {f : Form} (hl : Lim f) : ∃ b, Z0e f = some b ∧ (b = true ↔ SmallF f) := by
 unfold Z0e
 by_cases h : f.Core.length ≤ 12 ∧ f.Odd.length ≤ 8
 ·rw [Zm (show (f.Core.length : Int) ≤ 12 by omega), Zm (show (f.Odd.length : Int) ≤ 8 by omega), Z7H hl (by omega) (by omega)]
  refine ⟨decide ((sizeF f : Int) ≤ 60), rfl, ?_⟩
  rw [decide_eq_true_iff]
  exact ⟨fun h' => ⟨h.1, h.2, by omega⟩, fun h' => by have := h'.2.2; omega⟩
 ·have e : (decide ((f.Core.length : Int) ≤ 12) && decide ((f.Odd.length : Int) ≤ 8)) = false := by
   by_cases h1 : f.Core.length ≤ 12
   ·rw [Z02 (show ¬ (f.Odd.length : Int) ≤ 8 by omega)]; simp
   ·rw [Z02 (show ¬ (f.Core.length : Int) ≤ 12 by omega)]; rfl
  rw [e]
  exact ⟨false, rfl, fun h => (by cases h), fun h' => absurd ⟨h'.1, h'.2.1⟩ h⟩

end Go.Dn

namespace Go.Dn
open Go

theorem Z55 {f : Form} {l : List Span} : l ∈ full f ↔ l ∈ f.Core ∧ l ≠ [] := by
 unfold full
 rw [List.mem_filter, decide_eq_true_iff, gt_iff_lt, List.length_pos_iff]

theorem full_pair {f : Form} (hs : Shape f) (ht : Turns f) : (full f).Pairwise (fun a b => lstT a < fstT b) := by
 have hm : ∀ x ∈ full f, fstT x ≤ lstT x := fun x hx => Z3T (hs.core x (Z55.1 hx).1) (Z55.1 hx).2
 have h1 := ht.1
 generalize full f = l at hm h1
 induction l with
 | nil => exact .nil
 | cons x l ih =>
  have ih := ih (fun y hy => hm y (List.mem_cons_of_mem _ hy)) (fun k a b ha hb => h1 (k + 1) a b ha hb)
  refine List.pairwise_cons.2 ⟨fun y hy => ?_, ih⟩
  cases l with
  | nil => cases hy
  | cons z l =>
   have hxz := h1 0 x z rfl rfl
   rcases List.mem_cons.1 hy with rfl | hy
   ·exact hxz
   ·have := (List.pairwise_cons.1 ih).1 y hy
    have := hm z (by simp)
    omega

theorem core_pair {f : Form} (hs : Shape f) (ht : Turns f) {j k : Nat} {a b : List Span} (hjk : j < k) (ha : f.Core[j]? = some a) (hb : f.Core[k]? = some b) (na : a ≠ []) (nb : b ≠ []) : lstT a < fstT b := by
 have h := full_pair hs ht
 unfold full at h
 rw [List.pairwise_filter] at h
 have hj := (List.getElem?_eq_some_iff.1 ha)
 have hk := (List.getElem?_eq_some_iff.1 hb)
 obtain ⟨hj, rfl⟩ := hj
 obtain ⟨hk, rfl⟩ := hk
 exact List.pairwise_iff_getElem.1 h j k hj hk hjk (by rw [decide_eq_true_iff]; exact List.length_pos_iff.2 na) (by rw [decide_eq_true_iff]; exact List.length_pos_iff.2 nb)

theorem core_turn {f : Form} (hs : Shape f) (ht : Turns f) {a b : List Span} (ha : a ∈ f.Core) (hb : b ∈ f.Core) (na : a ≠ []) (nb : b ≠ []) : lstT a < fstT b + f.Period := by
 have hA := Z55.2 ⟨ha, na⟩
 have hB := Z55.2 ⟨hb, nb⟩
 have hm : ∀ x ∈ full f, fstT x ≤ lstT x := fun x hx => Z3T (hs.core x (Z55.1 hx).1) (Z55.1 hx).2
 have hn : full f ≠ [] := List.ne_nil_of_mem hA
 have hlast := List.getLast?_eq_some_getLast hn
 have hhead := List.head?_eq_some_head hn
 have h2 := ht.2 _ _ hlast hhead
 have hp := full_pair hs ht
 have e1 : lstT a ≤ lstT ((full f).getLast hn) := by
  obtain ⟨j, hj⟩ := List.getElem?_of_mem hA
  obtain ⟨hjl, hj⟩ := List.getElem?_eq_some_iff.1 hj
  by_cases hc : j = (full f).length - 1
  ·subst hc
   rw [List.getLast_eq_getElem, hj]
   exact Int.le_refl _
  ·have := List.pairwise_iff_getElem.1 hp j ((full f).length - 1) hjl (by omega) (by omega)
   rw [hj] at this
   have h5 := hm _ (List.getLast_mem hn)
   rw [List.getLast_eq_getElem] at h5 ⊢
   omega
 have e2 : fstT ((full f).head hn) ≤ fstT b := by
  obtain ⟨j, hj⟩ := List.getElem?_of_mem hB
  obtain ⟨hjl, hj⟩ := List.getElem?_eq_some_iff.1 hj
  have hh : (full f).head hn = (full f)[0]'(by omega) := List.head_eq_getElem hn
  by_cases hc : j = 0
  ·subst hc
   rw [hh, hj]
   exact Int.le_refl _
  ·have := List.pairwise_iff_getElem.1 hp 0 j (by omega) hjl (by omega)
   rw [hj, ← hh] at this
   have h5 := hm _ (List.head_mem hn)
   omega
 omega

theorem Z97 {f : Form} (hs : Shape f) (h0 : f.Count ≠ 0) (i : Int) : f.Core[(i % f.Count).toNat]? = some (Z1F f i) := by
 have := (Z1r hs h0 i).1
 unfold at? at this
 rwa [if_pos (Int.emod_nonneg i h0)] at this

theorem Z9G {f : Form} (hs : Shape f) (ht : Turns f) (h0 : f.Count ≠ 0) {i k : Int} (hik : i < k) (ni : Z1F f i ≠ []) (nk : Z1F f k ≠ []) : lstT (Z1F f i) + Z3m f i < fstT (Z1F f k) + Z3m f k := by
 have hp := Z7C hs h0
 have di := Int.emod_add_mul_ediv i f.Count
 have dk := Int.emod_add_mul_ediv k f.Count
 have mi := Int.emod_nonneg i h0
 have mk := Int.emod_nonneg k h0
 have li := Int.emod_lt_of_pos i hp
 have lk := Int.emod_lt_of_pos k hp
 have hq : i / f.Count ≤ k / f.Count := Int.ediv_le_ediv hp (by omega)
 unfold Z3m
 rcases Int.lt_or_eq_of_le hq with h | h
 ·have h1 := core_turn hs ht (Z1r hs h0 i).2 (Z1r hs h0 k).2 ni nk
  have h2 : (i / f.Count + 1) * f.Period ≤ k / f.Count * f.Period := Int.mul_le_mul_of_nonneg_right (by omega) hs.per.1
  rw [Int.add_mul, Int.one_mul] at h2
  omega
 ·rw [h] at di ⊢
  have : i % f.Count < k % f.Count := by omega
  have h1 := core_pair hs ht (j := (i % f.Count).toNat) (k := (k % f.Count).toNat) (by omega) (Z97 hs h0 i) (Z97 hs h0 k) ni nk
  omega

theorem Z47 {l : List Span} (d : Int) (hn : l ≠ []) : lstT (l.map (Z0V d)) = lstT l + d ∧ fstT (l.map (Z0V d)) = fstT l + d := by
 unfold lstT fstT
 rw [List.getLast?_map, List.head?_map, List.getLast?_eq_some_getLast hn, List.head?_eq_some_head hn]
 exact ⟨rfl, rfl⟩

theorem under_some {f : Form} (hl : Lim f) (hs : Shape f) {i k : Int} (hk : In64 k) (hik : i < k) (ti : ZP i) (ni : ZS f i ≠ []) : ∃ j, Under f k (j, true) ∧ i ≤ j := by
 obtain ⟨r, _, h⟩ := Z4B hl hs hk
 obtain ⟨j, b⟩ := r
 have h' := h
 rcases h with ⟨rfl, h1, h2, h3, h4⟩ | ⟨rfl, _, h4⟩
 ·refine ⟨j, h', ?_⟩
  apply Classical.byContradiction
  intro hc
  exact ni (h4 i hik (by simp only; omega) ti)
 ·exact absurd (h4 i hik ti) ni
theorem above_some {f : Form} (hl : Lim f) (hs : Shape f) {i k : Int} (hk : In64 k) (hik : k < i) (ti : ZP i) (ni : ZS f i ≠ []) : ∃ j, Above f k (j, true) ∧ j ≤ i := by
 obtain ⟨r, _, h⟩ := Z2C hl hs hk
 obtain ⟨j, b⟩ := r
 have h' := h
 rcases h with ⟨rfl, h1, h2, h3, h4⟩ | ⟨rfl, _, h4⟩
 ·refine ⟨j, h', ?_⟩
  apply Classical.byContradiction
  intro hc
  exact ni (h4 i hik (by simp only; omega) ti)
 ·exact absurd (h4 i hik ti) ni

theorem RightF.order {f : Form} (hl : Lim f) (hr : RightF f) : ∀ (n : Nat) (i k : Int), (k - i).toNat = n → i < k → ZP i → ZP k → fits f i → fits f k → ZS f i ≠ [] → ZS f k ≠ [] → lstT (ZS f i) < fstT (ZS f k) := by
 have hs := hr.shape
 intro n
 induction n using Nat.strongRecOn with
 | _ n ih =>
  intro i k hn hik ti tk fi fk ni nk
  by_cases ok : Z19 f k
  ·obtain ⟨g, hg, rfl⟩ := ok
   obtain ⟨j, hj, hij⟩ := under_some hl hs (Z23 tk) hik ti ni
   obtain ⟨hi', _, hab⟩ := Z2C hl hs (Z23 tk)
   obtain ⟨_, hlo, _, _⟩ := hr.beside g hg _ _ hj hab
   obtain ⟨fj, aj⟩ := hlo rfl
   have hj2 := hj
   rcases hj2 with ⟨_, j1, j2, j3, j4⟩ | ⟨h, _⟩
   ·simp only at fj aj j1 j2 j3
    have hjk := (Z8x j3 nk).1 aj
    by_cases hji : i = j
    ·rw [hji]; exact hjk
    ·have h1 := ih (j - i).toNat (by omega) i j rfl (by omega) ti j2 fi fj ni j3
     have h2 := Z3T (Z4d hs fj) j3
     omega
   ·cases h
  ·by_cases oi : Z19 f i
   ·obtain ⟨g, hg, rfl⟩ := oi
    obtain ⟨j, hj, hij⟩ := above_some hl hs (Z23 ti) hik tk nk
    obtain ⟨lo', _, hun⟩ := Z4B hl hs (Z23 ti)
    obtain ⟨_, _, hhi, _⟩ := hr.beside g hg _ _ hun hj
    obtain ⟨fj, aj⟩ := hhi rfl
    have hj2 := hj
    rcases hj2 with ⟨_, j1, j2, j3, j4⟩ | ⟨h, _⟩
    ·simp only at fj aj j1 j2 j3
     have hjk := (Z8x ni j3).1 aj
     by_cases hji : j = k
     ·rw [← hji]; exact hjk
     ·have h1 := ih (k - j).toNat (by omega) j k rfl (by omega) j2 tk fj fk j3 nk
      have h2 := Z3T (Z4d hs fj) j3
      omega
    ·cases h
   ·have h0 : f.Count ≠ 0 := fun h => ni (Z1P oi h)
    have ni' := fun h => ni ((Z1d oi h0).2 h)
    have nk' := fun h => nk ((Z1d ok h0).2 h)
    rw [Z2B oi h0, Z2B ok h0, (Z47 _ ni').1, (Z47 _ nk').2]
    exact Z9G hs hr.turns h0 hik ni' nk'

end Go.Dn

namespace Go.Dn
open Go

theorem Above.tick {f : Form} {i : Int} {r : Int × Bool} (h : Above f i r) (hr : r.2 = true) : i < r.1 ∧ ZP r.1 ∧ ZS f r.1 ≠ [] ∧ ∀ k, i < k → k < r.1 → ZP k → ZS f k = [] := by
 rcases h with ⟨_, h1, h2, h3, h4⟩ | ⟨h, _⟩
 ·exact ⟨h1, h2, h3, h4⟩
 ·rw [hr] at h; cases h
theorem Under.tick {f : Form} {i : Int} {r : Int × Bool} (h : Under f i r) (hr : r.2 = true) : r.1 < i ∧ ZP r.1 ∧ ZS f r.1 ≠ [] ∧ ∀ k, k < i → r.1 < k → ZP k → ZS f k = [] := by
 rcases h with ⟨_, h1, h2, h3, h4⟩ | ⟨h, _⟩
 ·exact ⟨h1, h2, h3, h4⟩
 ·rw [hr] at h; cases h

end Go.Dn

namespace Go.Dn
open Go

end Go.Dn

namespace Go.Dn
open Go

noncomputable def cs (f : Form) (i : Int) : List Span := (Z1F f i).map (Z0V (Z3m f i))

theorem Z4W (l : List Span) (a b : Int) : (l.map (Z0V a)).map (Z0V b) = l.map (Z0V (a + b)) := by
 rw [List.map_map]
 congr 1
 funext s
 simp only [Function.comp, Z0V, Span.mk.injEq]
 omega

theorem cs_period {f : Form} (h0 : f.Count ≠ 0) (i : Int) : cs f (i + f.Count) = (cs f i).map (Z0V f.Period) := by
 unfold cs Z1F Z3m
 rw [Z4W, Int.add_emod_right, Int.add_ediv_of_dvd_right (Int.dvd_refl _), Int.ediv_self h0, Int.add_mul, Int.one_mul]

theorem cs_periods {f : Form} (h0 : f.Count ≠ 0) (i k : Int) : cs f (i + f.Count * k) = (cs f i).map (Z0V (k * f.Period)) := by
 unfold cs Z1F Z3m
 rw [Z4W, Int.add_mul_emod_self_left, Int.add_mul_ediv_left _ _ h0, Int.add_mul]

theorem Z7E {f : Form} {i : Int} (h0 : 0 ≤ i) (h1 : i < f.Count) : cs f i = f.Core.getD i.toNat [] := by
 unfold cs Z1F Z3m
 rw [Int.emod_eq_of_lt h0 h1, Int.ediv_eq_zero_of_lt h0 h1, Int.zero_mul, shift0]

def TurnZ (f : Form) (d q : Int) : Prop := ∀ i, cs f (i + d) = (cs f i).map (Z0V q)

def wrapI (f : Form) (d k : Int) : Int := if k + d ≥ f.Count then k + d - f.Count else k + d
def wrapP (f : Form) (d k : Int) : Int := if k + d ≥ f.Count then f.Period else 0

end Go.Dn

namespace Go.Dn
open Go

structure Good (f : Form) (d : Int) : Prop where
 pos : 1 ≤ d
 dvd : d ∣ f.Count
 rest : f.Period % (f.Count / d) = 0
 turn : TurnZ f d (f.Period / (f.Count / d))

end Go.Dn

namespace Go.Dn
open Go

def Turn (h : Int → List Span) (d q : Int) : Prop := ∀ i, h (i + d) = (h i).map (Z0V q)

theorem Turn.neg {h : Int → List Span} {d q : Int} (t : Turn h d q) : Turn h (-d) (-q) := fun i => by
 have := t (i + -d)
 rw [show i + -d + d = i by omega] at this
 rw [this, Z4W, Int.add_right_neg, shift0]

theorem Turn.add {h : Int → List Span} {d q d' q' : Int} (t : Turn h d q) (t' : Turn h d' q') : Turn h (d + d') (q + q') := fun i => by
 rw [show i + (d + d') = (i + d) + d' by omega, t', t, Z4W]

theorem Turn.zero (h : Int → List Span) : Turn h 0 0 := fun i => by rw [Int.add_zero, shift0]

theorem Turn.nat {h : Int → List Span} {d q : Int} (t : Turn h d q) : ∀ k : Nat, Turn h (k * d) (k * q)
 | 0 => by simpa using Turn.zero h
 | k + 1 => by
  have := (Turn.nat t k).add t
  push_cast
  rw [Int.add_mul, Int.one_mul, Int.add_mul, Int.one_mul]
  exact this

theorem Turn.mul {h : Int → List Span} {d q : Int} (t : Turn h d q) (k : Int) : Turn h (k * d) (k * q) := by
 rcases Int.natAbs_eq k with e | e
 ·rw [e]; exact t.nat _
 ·rw [e, Int.neg_mul, Int.neg_mul]; exact (t.nat _).neg

theorem Turn.agree {h h' : Int → List Span} {d q a : Int} (t : Turn h d q) (t' : Turn h' d q) (hd : 0 < d) (he : ∀ i, a ≤ i → i < a + d → h i = h' i) : h = h' := by
 funext i
 have e : i = ((i - a) % d + a) + (i - a) / d * d := by
  have := Int.emod_add_mul_ediv (i - a) d
  rw [Int.mul_comm] at this
  omega
 have h1 := Int.emod_nonneg (i - a) (show d ≠ 0 by omega)
 have h2 := Int.emod_lt_of_pos (i - a) hd
 rw [e, t.mul, t'.mul, he _ (by omega) (by omega)]

noncomputable def csz (f : Form) (i : Int) : List Span := if f.Count = 0 then [] else cs f i

theorem Z6K {f : Form} (h0 : 0 < f.Count) : csz f = cs f := by funext i; exact if_neg (by omega)
theorem setAt_csz {f : Form} {i : Int} (h : ¬ Z19 f i) : ZS f i = csz f i := by
 unfold csz
 by_cases h0 : f.Count = 0
 ·rw [if_pos h0, Z1P h h0]
 ·rw [if_neg h0, Z2B h h0]; rfl
theorem csz_bare {f : Form} (hs : Shape f) (hb : Bare f) (i : Int) : csz f i = [] := by
 unfold csz
 by_cases h0 : f.Count = 0
 ·rw [if_pos h0]
 ·rw [if_neg h0]; unfold cs; rw [hb _ (Z1r hs h0 i).2]; rfl

def Z4l (f c : Form) : Prop := (Bare f ∧ c = Form.mk 0 0 [] []) ∨ (¬ Bare f ∧ 0 < f.Count ∧ ∃ d, Good f d ∧ (∀ d', Good f d' → d ≤ d') ∧ c = Form.mk (f.Period / (f.Count / d)) d (f.Core.take d.toNat) [])

theorem Z4l.odd {f c : Form} (h : Z4l f c) : c.Odd = [] := by
 rcases h with ⟨_, rfl⟩ | ⟨_, _, d, _, _, rfl⟩ <;> rfl

theorem Z4l.csz {f c : Form} (hs : Shape f) (h : Z4l f c) : csz c = csz f := by
 rcases h with ⟨hb, rfl⟩ | ⟨hb, h0, d, hg, _, rfl⟩
 ·funext i; rw [csz_bare hs hb]; rfl
 ·have hd := hg.pos
  have hdn : d ≤ f.Count := Int.le_of_dvd h0 hg.dvd
  have hcnt := hs.count
  rw [Z6K h0, Z6K (show 0 < (Form.mk (f.Period / (f.Count / d)) d (f.Core.take d.toNat) []).Count by show 0 < d; omega)]
  refine Turn.agree (a := 0) (d := d) (q := f.Period / (f.Count / d)) (cs_period (f := Form.mk (f.Period / (f.Count / d)) d (f.Core.take d.toNat) []) (show d ≠ 0 by omega)) hg.turn (by omega) (fun i i0 i1 => ?_)
  rw [Z7E i0 (show i < d by omega), Z7E i0 (by omega)]
  show (f.Core.take d.toNat).getD i.toNat [] = _
  rw [List.getD_eq_getElem?_getD, List.getD_eq_getElem?_getD, List.getElem?_take_of_lt (by omega)]

theorem Z4l.shape {f c : Form} (hs : Shape f) (h : Z4l f c) : Shape c := by
 rcases h with ⟨hb, rfl⟩ | ⟨hb, h0, d, hg, _, rfl⟩
 ·exact ⟨rfl, by simp, by simp, by simp, by simp, fun j k a b _ h => by simp at h⟩
 ·have hd := hg.pos
  have hdn : d ≤ f.Count := Int.le_of_dvd h0 hg.dvd
  have hcnt := hs.count
  have hm : 0 < f.Count / d := Int.ediv_pos_of_pos_of_dvd h0 (by omega) hg.dvd
  have hp : 0 < f.Period := by
   have := hs.per; have := hs.zero
   rcases Int.lt_or_le 0 f.Period with h | h
   ·exact h
   ·have : f.Period = 0 := by omega
    have := hs.zero.2 this
    omega
  have hq : 0 < f.Period / (f.Count / d) := Int.ediv_pos_of_pos_of_dvd hp (by omega) (Int.dvd_of_emod_eq_zero hg.rest)
  have hq2 : f.Period / (f.Count / d) ≤ f.Period := Int.ediv_le_self _ (by omega)
  refine ⟨?_, ?_, ?_, ?_, by simp, fun j k a b _ h => by simp at h⟩
  ·simp only [List.length_take]; omega
  ·simp only; omega
  ·simp only; have := hs.per; omega
  ·intro l hl'; exact hs.core l (List.mem_of_mem_take hl')

theorem Z4l.lim {f c : Form} (hl : Lim f) (hs : Shape f) (h : Z4l f c) : Lim c := by
 have hsc := h.shape hs
 have hn : c.Core.length ≤ f.Core.length ∧ ∀ l ∈ c.Core, l ∈ f.Core := by
  rcases h with ⟨hb, rfl⟩ | ⟨hb, h0, d, hg, _, rfl⟩
  ·exact ⟨Nat.zero_le _, fun l hl' => by cases hl'⟩
  ·exact ⟨by simp only [List.length_take]; omega, fun l hl' => List.mem_of_mem_take hl'⟩
 have hc := hl.core
 have h24 := Nat.mul_le_mul_right 24 hn.1
 have hp := hsc.per
 have hcnt := hsc.count
 have hcl : (f.Core.length : Int) < 4611686018427387904 := Z3H (b := 23) hl.core
 exact ⟨by omega, fun l hl' => hl.sets l (hn.2 l hl'), by rw [h.odd]; simp [Z17], by rw [h.odd]; simp, by unfold In64; omega, by unfold In64; omega⟩

theorem Z4l.ZS {f c : Form} (hs : Shape f) (h : Z4l f c) (i : Int) : ZS c i = Go.Dn.csz f i := by
 rw [setAt_csz (by rintro ⟨g, hg, _⟩; rw [h.odd] at hg; cases hg), h.csz hs]

open Classical in
noncomputable def oddly (f : Form) (g : Granule) : Bool := decide (¬ csz f g.Index = g.Ticks)

noncomputable def canonF (f c : Form) : Form := Form.mk c.Period c.Count c.Core (f.Odd.filter (oddly f))

end Go.Dn

namespace Go.Dn
open Go

end Go.Dn

namespace Go.Dn
open Go

theorem Z7j {l : List Granule} : Inc l ↔ l.Pairwise (fun a b => a.Index < b.Index) := by
 rw [List.pairwise_iff_getElem]
 constructor
 ·intro h i j hi hj hij
  exact h i j _ _ hij (List.getElem?_eq_getElem hi) (List.getElem?_eq_getElem hj)
 ·intro h j k a b hjk ha hb
  obtain ⟨h1, rfl⟩ := List.getElem?_eq_some_iff.1 ha
  obtain ⟨h2, rfl⟩ := List.getElem?_eq_some_iff.1 hb
  exact h j k h1 h2 hjk

theorem Inc.filter {l : List Granule} (h : Inc l) (p : Granule → Bool) : Inc (l.filter p) := Z7j.2 ((Z7j.1 h).filter p)

theorem csz_order {f : Form} (hs : Shape f) (ht : Turns f) {i k : Int} (hik : i < k) (ni : csz f i ≠ []) (nk : csz f k ≠ []) : lstT (csz f i) < fstT (csz f k) := by
 have h0 : f.Count ≠ 0 := fun h => ni (by unfold csz; rw [if_pos h])
 unfold csz at ni nk ⊢
 rw [if_neg h0] at ni nk ⊢
 rw [if_neg h0]
 have n1 : Z1F f i ≠ [] := fun h => ni (by unfold cs; rw [h]; rfl)
 have n2 : Z1F f k ≠ [] := fun h => nk (by unfold cs; rw [h]; rfl)
 have := Z9G hs ht h0 hik n1 n2
 unfold cs
 rw [(Z47 _ n1).1, (Z47 _ n2).2]
 exact this

end Go.Dn

namespace Go.Dn
open Go

end Go.Dn

namespace Go.Dn
open Go

theorem shift_ne {l : List Span} (hn : l ≠ []) {a b : Int} (h : l.map (Z0V a) = l.map (Z0V b)) : a = b := by
 cases l with
 | nil => exact absurd rfl hn
 | cons s l =>
  simp only [List.map_cons, List.cons.injEq, Z0V, Span.mk.injEq] at h
  omega

theorem Turn.uniq {h : Int → List Span} {d q q' : Int} (t : Turn h d q) (t' : Turn h d q') {i : Int} (hn : h i ≠ []) : q = q' := shift_ne hn ((t i).symm.trans (t' i))

def NearF (f : Form) (m : Int) : Prop := ∀ g ∈ f.Odd, -m ≤ g.Index ∧ g.Index ≤ m

end Go.Dn

namespace Go.Dn
open Go

end Go.Dn

namespace Go.Dn
open Go

end Go.Dn

namespace Go.Dn
open Go

def Mid (x : Int) : Prop := -1000000000000000000 ≤ x ∧ x ≤ 1000000000000000000

end Go.Dn

namespace Go.Dn
open Go

end Go.Dn

namespace Go.Dn
open Go

theorem hull_eq {l : List Span} (hl : Len l) : Z16 l = some (if l = [] then (⟨0, 0⟩, false) else (⟨fstT l, lstT l⟩, true)) := by
 have hlen := Z3H (b := 15) hl
 unfold Z16
 by_cases h : l = []
 ·subst h; rfl
 ·have hp : 0 < l.length := List.length_pos_iff.2 h
  rw [if_neg h, beq_f (by omega), cond_false, Zn (by omega)]
  have e1 : at? l 0 = some (l.head h) := by
   have := at?_nat (l := l) (k := 0) hp
   rw [show ((0 : Nat) : Int) = 0 from rfl] at this
   rw [this, List.head_eq_getElem]
  have e2 : at? l ((l.length : Int) - 1) = some (l.getLast h) := by
   have := at?_nat (l := l) (k := l.length - 1) (by omega)
   rw [show ((l.length - 1 : Nat) : Int) = (l.length : Int) - 1 by omega] at this
   rw [this, List.getLast_eq_getElem]
  rw [e1, e2]
  simp only [Option.bind_some]
  unfold fstT lstT
  rw [List.head?_eq_some_head h, List.getLast?_eq_some_getLast h]
  rfl

def spotOf (g : Form) (j : Nat) : Option size_spot := if g.Core.getD j [] = [] then none else some ⟨(j : Int), ⟨fstT (g.Core.getD j []), lstT (g.Core.getD j [])⟩⟩
def spotsUp (g : Form) (k : Nat) : List size_spot := (List.range k).filterMap (spotOf g)
abbrev spotsOf (g : Form) : List size_spot := spotsUp g g.Core.length

structure Spots (g : Form) (l : List size_spot) : Prop where
 mem : ∀ s ∈ l, 0 ≤ s.index ∧ s.index < g.Count ∧ cs g s.index ≠ [] ∧ s.place.first = fstT (cs g s.index) ∧ s.place.last = lstT (cs g s.index)
 all : ∀ j, 0 ≤ j → j < g.Count → cs g j ≠ [] → ∃ s ∈ l, s.index = j
 inc : l.Pairwise (fun a b => a.index < b.index)

theorem cs_order {g : Form} (hs : Shape g) (ht : Turns g) (h0 : 0 < g.Count) {i k : Int} (hik : i < k) (ni : cs g i ≠ []) (nk : cs g k ≠ []) : lstT (cs g i) < fstT (cs g k) := by
 have := csz_order hs ht hik (by rw [Z6K h0]; exact ni) (by rw [Z6K h0]; exact nk)
 rwa [Z6K h0] at this
theorem cs_right {g : Form} (hs : Shape g) (h0 : 0 < g.Count) {j : Int} (j0 : 0 ≤ j) (j1 : j < g.Count) : RightL (cs g j) := by
 rw [Z7E j0 j1]
 have := hs.count
 have hj : j.toNat < g.Core.length := by omega
 rw [List.getD_eq_getElem?_getD, List.getElem?_eq_getElem hj]
 exact hs.core _ (List.getElem_mem hj)
theorem cs_turn {g : Form} (h0 : 0 < g.Count) (i q : Int) : cs g (i + g.Count * q) = (cs g i).map (Z0V (q * g.Period)) := cs_periods (by omega) i q

def LastC (g : Form) (t i : Int) : Prop := cs g i ≠ [] ∧ fstT (cs g i) ≤ t ∧ ∀ k, i < k → cs g k ≠ [] → t < fstT (cs g k)
def FirstC (g : Form) (t i : Int) : Prop := cs g i ≠ [] ∧ t ≤ lstT (cs g i) ∧ ∀ k, k < i → cs g k ≠ [] → lstT (cs g k) < t

structure Fit (g : Form) : Prop where
 lim : Lim g
 shape : Shape g
 turns : Turns g
 few : g.Core.length ≤ 12
 odds : g.Odd.length ≤ 8

theorem Fit.per {g : Form} (h : Fit g) (h0 : 0 < g.Count) : 0 < g.Period := by
 have h1 := h.shape.per
 have h2 := h.shape.zero
 omega

def BigT (t : Int) : Prop := -4398046511104 ≤ t ∧ t ≤ 4398046511104

theorem turn_split {g : Form} (h0 : 0 < g.Count) (k : Int) : ∃ j q, 0 ≤ j ∧ j < g.Count ∧ k = j + g.Count * q ∧ cs g k = (cs g j).map (Z0V (q * g.Period)) := by
 have e : k = k % g.Count + g.Count * (k / g.Count) := (Int.emod_add_mul_ediv k g.Count).symm
 refine ⟨k % g.Count, k / g.Count, Int.emod_nonneg k (by omega), Int.emod_lt_of_pos k h0, e, ?_⟩
 conv => lhs; rw [e]
 exact cs_turn h0 _ _

end Go.Dn

namespace Go.Dn
open Go

def putB (b : Int × Bool) (n : Int) : Int × Bool := if b.2 = false ∨ n > b.1 then (n, true) else b
structure Best (S : Int → Prop) (b : Int × Bool) : Prop where
 yes : b.2 = true → S b.1 ∧ ∀ n, S n → n ≤ b.1
 no : b.2 = false → b.1 = 0 ∧ ∀ n, ¬ S n
theorem Best.put {S S' : Int → Prop} {b : Int × Bool} {n : Int} (h : Best S b) (hS : ∀ m, S' m ↔ S m ∨ m = n) : Best S' (putB b n) := by
 unfold putB
 split
 ·rename_i hc
  refine ⟨fun _ => ⟨(hS n).2 (.inr rfl), fun m hm => ?_⟩, fun h => by cases h⟩
  rcases (hS m).1 hm with h1 | h1
  ·cases hb : b.2 with
   | false => exact absurd h1 ((h.no hb).2 m)
   | true =>
    have := (h.yes hb).2 m h1
    rcases hc with h2 | h2
    ·rw [hb] at h2; cases h2
    ·simp only; omega
  ·subst h1; exact Int.le_refl _
 ·rename_i hc
  have hb : b.2 = true := by cases hb : b.2 <;> simp_all
  refine ⟨fun _ => ⟨(hS b.1).2 (.inl (h.yes hb).1), fun m hm => ?_⟩, fun h => by rw [hb] at h; cases h⟩
  rcases (hS m).1 hm with h1 | h1
  ·exact (h.yes hb).2 m h1
  ·subst h1
   have : ¬ (m > b.1) := fun h => hc (.inr h)
   omega
theorem Best.congr {S S' : Int → Prop} {b : Int × Bool} (h : Best S b) (hS : ∀ m, S' m ↔ S m) : Best S' b :=
 ⟨fun hb => ⟨(hS _).2 (h.yes hb).1, fun n hn => (h.yes hb).2 n ((hS n).1 hn)⟩, fun hb => ⟨(h.no hb).1, fun n hn => (h.no hb).2 n ((hS n).1 hn)⟩⟩
theorem Best.none {S : Int → Prop} (h : ∀ n, ¬ S n) : Best S (0, false) := ⟨fun h => by (cases h), fun _ => ⟨rfl, h⟩⟩
end Go.Dn

namespace Go.Dn
open Go

theorem Z5t {g : Form} (h0 : 0 < g.Count) {i : Int} (h : ¬ Z19 g i) : ZS g i = cs g i := by rw [setAt_csz h, Z6K h0]

def byU (up : Bool) : Int := if up then 1 else -1
def sgU (up : Bool) : Int := if up then -1 else 1

def AtP (g : Form) (up : Bool) (t i : Int) : Prop := ZS g i ≠ [] ∧ (if up then t ≤ lstT (ZS g i) else fstT (ZS g i) ≤ t)

end Go.Dn

namespace Go.Dn
open Go

def CoreP (g : Form) (up : Bool) (d i j : Int) : Prop := cs g i ≠ [] ∧ cs g j ≠ [] ∧ (if up then d ≤ lstT (cs g j) - fstT (cs g i) else fstT (cs g j) - lstT (cs g i) ≤ d)
def Z5e (g : Form) (up : Bool) (d i j : Int) : Prop := ZS g i ≠ [] ∧ ZS g j ≠ [] ∧ (if up then d ≤ lstT (ZS g j) - fstT (ZS g i) else fstT (ZS g j) - lstT (ZS g i) ≤ d)

def BigI (n : Int) : Prop := -600000000000000 ≤ n ∧ n ≤ 600000000000000
end Go.Dn

namespace Go.Dn
open Go

structure DownS (f : Form) (d : Int) (r : Int × Bool) : Prop where
 yes : r.2 = true → (∃ i j, Z5e f false d i j ∧ r.1 = j - i) ∧ ∀ i j, Z5e f false d i j → j - i ≤ r.1
 no : r.2 = false → ∀ i j, ¬ Z5e f false d i j
structure UpS (f : Form) (d : Int) (r : Int × Bool) : Prop where
 yes : r.2 = true → (∃ i j, Z5e f true d i j ∧ r.1 = j - i) ∧ ∀ i j, Z5e f true d i j → r.1 ≤ j - i
 no : r.2 = false → ∀ i j, ¬ Z5e f true d i j

theorem down_mono {f : Form} {d d' i j : Int} (h : Z5e f false d i j) (hd : d ≤ d') : Z5e f false d' i j := by
 unfold Z5e at *
 simp only [Bool.false_eq_true, if_false] at *
 exact ⟨h.1, h.2.1, by omega⟩
noncomputable def bad (low high : Bound) : Bool := (((!(Z18 low)) || (!(Z18 high))) || (low.Inf == 1)) || (high.Inf == (-1))
structure RangeS (f : Form) (low high : Bound) (r : Range) (ok : Bool) : Prop where
 none : ok = false → r = Range.mk 0 0 false false
 hi : ok = true → (r.HasHigh = true ↔ high.Inf = 0 ∧ high.N ≤ 1099511627776)
 lo : ok = true → (r.HasLow = true ↔ low.Inf = 0 ∧ -1099511627776 ≤ low.N)
 atH : ok = true → r.HasHigh = true → DownS f (max high.N (-1099511627776)) (r.High, true)
 atL : ok = true → r.HasLow = true → UpS f (min low.N 1099511627776) (r.Low, true)
 nhi : ok = true → r.HasHigh = false → r.High = 0
 nlo : ok = true → r.HasLow = false → r.Low = 0
 not : ok = false → (high.Inf = 0 ∧ high.N ≤ 1099511627776 ∧ ∀ i j, ¬ Z5e f false (max high.N (-1099511627776)) i j) ∨ (low.Inf = 0 ∧ -1099511627776 ≤ low.N ∧ ∀ i j, ¬ Z5e f true (min low.N 1099511627776) i j)

def Near (f : Form) (m d : Int) : Prop := ∃ i j, Z5e f false d i j ∧ m ≤ j - i
theorem Near.mono {f : Form} {m m' d d' : Int} (h : Near f m d) (hm : m' ≤ m) (hd : d ≤ d') : Near f m' d' := by
 obtain ⟨i, j, h1, h2⟩ := h
 exact ⟨i, j, down_mono h1 hd, by omega⟩
def farI (m : Int) : Int := min (max m (-4611686018427387904)) 4611686018427387904
def LowD (f : Form) (m d : Int) : Prop := -1099511627776 ≤ d ∧ d ≤ 1099511627776 ∧ (∀ z, -1099511627776 ≤ z → z < d → ¬ Near f m z) ∧ (d < 1099511627776 → Near f m d)
def boundD (d : Int) : Bound := if d = -1099511627776 then ⟨-1, 0⟩ else ⟨0, d⟩

theorem LowD.mono {f : Form} {m m' d d' : Int} (h : LowD f m d) (h' : LowD f m' d') (hm : m ≤ m') : d ≤ d' := by
 obtain ⟨a1, a2, a3, a4⟩ := h
 obtain ⟨b1, b2, b3, b4⟩ := h'
 by_cases hd : d ≤ d'
 ·exact hd
 ·exact absurd ((b4 (by omega)).mono hm (Int.le_refl _)) (a3 d' b1 (by omega))
def boundH (d : Int) : Bound := if d = -1099511627776 then ⟨1, 0⟩ else ⟨0, -d⟩
def goodB (x : Bound) : Prop := Z18 x = true ∧ x.N ≤ 1099511627776 ∧ -1099511627776 ≤ x.N
end Go.Dn

namespace Go.Dn
open Go

structure NearF0 (f : Form) : Prop where
 lim : Lim f
 right : RightF f
 small : SmallF f
 per : f.Period ≤ 200
 hull : ∀ l ∈ f.Core, l ≠ [] → -100 ≤ fstT l ∧ lstT l ≤ 100
 odd : ∀ g ∈ f.Odd, -100 ≤ g.Index ∧ g.Index ≤ 100

theorem span_within {l : List Span} (h : RightL l) : ∀ s ∈ l, fstT l ≤ s.From ∧ s.From ≤ s.To ∧ s.To ≤ lstT l := by
 induction l with
 | nil => intro s hs; cases hs
 | cons x l ih =>
  intro s hs
  have h0 := h.ok 0 x rfl
  cases l with
  | nil =>
   rw [List.mem_singleton] at hs; subst hs
   exact ⟨Int.le_refl _, h0.2.2, Int.le_refl _⟩
  | cons y l =>
   have h1 := h.gap 0 x y rfl rfl
   have e1 : lstT (x :: y :: l) = lstT (y :: l) := by simp [lstT]
   have e2 : fstT (y :: l) = y.From := rfl
   have e3 : fstT (x :: y :: l) = x.From := rfl
   have hf := Z3T h.tail (by simp)
   rw [e1, e3]
   rcases List.mem_cons.1 hs with rfl | hs
   ·exact ⟨Int.le_refl _, h0.2.2, by omega⟩
   ·have := ih h.tail s hs
    exact ⟨by omega, this.2.1, this.2.2⟩

theorem NearF0.core {f : Form} (h : NearF0 f) (h0 : 0 < f.Count) {i : Int} (hi : -2000 ≤ i ∧ i ≤ 2000) : ∀ s ∈ cs f i, -500000 ≤ s.From ∧ s.To ≤ 500000 ∧ s.From ≤ s.To := by
 intro s hs
 obtain ⟨j, q, j0, j1, rfl, e⟩ := turn_split h0 i
 rw [e] at hs
 obtain ⟨s0, hs0, rfl⟩ := List.mem_map.1 hs
 have hr := cs_right h.right.shape h0 j0 j1
 have hne : cs f j ≠ [] := List.ne_nil_of_mem hs0
 have hm : cs f j ∈ f.Core := by
  rw [Z7E j0 j1]
  have := h.right.shape.count
  have hj : j.toNat < f.Core.length := by omega
  rw [List.getD_eq_getElem?_getD, List.getElem?_eq_getElem hj]
  exact List.getElem_mem hj
 have h1 := span_within hr s0 hs0
 have h2 := h.hull _ hm hne
 have hc := h.right.shape.count
 have hp := h.right.shape.per
 have hp2 := h.per
 have hq : -2000 ≤ q ∧ q ≤ 2000 := by
  constructor
  ·by_cases hq : -2000 ≤ q
   ·exact hq
   ·have : f.Count * q ≤ f.Count * -2001 := Int.mul_le_mul_of_nonneg_left (by omega) (by omega)
    have : f.Count * -2001 ≤ j - 2001 - f.Count := by
     have : 1 ≤ f.Count := by omega
     omega
    omega
  ·by_cases hq : q ≤ 2000
   ·exact hq
   ·have : f.Count * 2001 ≤ f.Count * q := Int.mul_le_mul_of_nonneg_left (by omega) (by omega)
    omega
 have b1 := Int.mul_le_mul_of_nonneg_right hq.1 hp.1
 have b2 := Int.mul_le_mul_of_nonneg_right hq.2 hp.1
 simp only [Z0V]
 omega

theorem NearF0.odd_in {f : Form} (h : NearF0 f) {i : Int} (hi : Z19 f i) : -100 ≤ i ∧ i ≤ 100 := by
 obtain ⟨g, hg, rfl⟩ := hi
 exact h.odd g hg

theorem NearF0.fits {f : Form} (h : NearF0 f) {i : Int} (hi : -2000 ≤ i ∧ i ≤ 2000) : fits f i := by
 intro s hs
 by_cases ho : Z19 f i
 ·obtain ⟨g, hg, rfl⟩ := ho
  rw [Z1e h.right.shape.inc hg] at hs
  obtain ⟨k, hk⟩ := List.getElem?_of_mem hs
  have := (h.right.shape.odd g hg).1.ok k s hk
  exact ⟨this.1, this.2.1⟩
 ·by_cases h0 : 0 < f.Count
  ·rw [Z5t h0 ho] at hs
   have := h.core h0 hi s hs
   unfold ZP; omega
  ·rw [Z1P ho (by have := h.right.shape.count; omega)] at hs; cases hs

theorem shift_to {f : Form} (h0 : 0 < f.Count) (i a : Int) : ∃ q, a ≤ i + f.Count * q ∧ i + f.Count * q < a + f.Count := by
 refine ⟨-((i - a) / f.Count), ?_⟩
 have e := Int.emod_add_mul_ediv (i - a) f.Count
 have e0 := Int.emod_nonneg (i - a) (show f.Count ≠ 0 by omega)
 have e1 := Int.emod_lt_of_pos (i - a) h0
 rw [Int.mul_neg]
 omega

theorem NearF0.Z8F {f : Form} (h : NearF0 f) {i : Int} (hi : ¬ Z19 f i) (hn : ZS f i ≠ []) : 0 < f.Count ∧ f.Count ≤ 12 ∧ cs f i ≠ [] := by
 have hc := h.right.shape.count
 have hs := h.small.1
 have h0 : 0 < f.Count := by
  by_cases h0 : 0 < f.Count
  ·exact h0
  ·exact absurd (Z1P hi (by omega)) hn
 rw [Z5t h0 hi] at hn
 exact ⟨h0, by omega, hn⟩

theorem NearF0.turned {f : Form} (h : NearF0 f) (h0 : 0 < f.Count) {i q : Int} (hn : cs f i ≠ []) (ho : ¬ Z19 f (i + f.Count * q)) : ZS f (i + f.Count * q) ≠ [] ∧ fstT (ZS f (i + f.Count * q)) = fstT (cs f i) + q * f.Period ∧ lstT (ZS f (i + f.Count * q)) = lstT (cs f i) + q * f.Period := by
 rw [Z5t h0 ho, cs_turn h0, (Z47 _ hn).1, (Z47 _ hn).2]
 exact ⟨by simpa using hn, rfl, rfl⟩

theorem NearF0.Z4e {f : Form} (h : NearF0 f) {i k : Int} (hik : i < k) (hi : -2000 ≤ i ∧ i ≤ 2000) (hk : -2000 ≤ k ∧ k ≤ 2000) (ni : ZS f i ≠ []) (nk : ZS f k ≠ []) : lstT (ZS f i) < fstT (ZS f k) :=
 RightF.order h.lim h.right _ i k rfl hik (by unfold ZP; omega) (by unfold ZP; omega) (h.fits hi) (h.fits hk) ni nk
theorem NearF0.Z77 {f : Form} (h : NearF0 f) (h0 : 0 < f.Count) {i k : Int} (hik : i < k) (oi : ¬ Z19 f i) (ok : ¬ Z19 f k) (ni : ZS f i ≠ []) (nk : ZS f k ≠ []) : lstT (ZS f i) < fstT (ZS f k) := by
 rw [Z5t h0 oi] at ni ⊢
 rw [Z5t h0 ok] at nk ⊢
 exact cs_order h.right.shape h.right.turns h0 hik ni nk
theorem NearF0.le_small {f : Form} (h : NearF0 f) {i : Int} (hi : -2000 ≤ i ∧ i ≤ 2000) (ni : ZS f i ≠ []) : fstT (ZS f i) ≤ lstT (ZS f i) :=
 Z3T (Z4d h.right.shape (h.fits hi)) ni

theorem NearF0.order {f : Form} (h : NearF0 f) {i k : Int} (hik : i < k) (ni : ZS f i ≠ []) (nk : ZS f k ≠ []) : lstT (ZS f i) < fstT (ZS f k) := by
 by_cases oi : Z19 f i
 ·have bi := h.odd_in oi
  by_cases hk : k ≤ 2000
  ·exact h.Z4e hik (by omega) (by omega) ni nk
  ·have ok : ¬ Z19 f k := fun o => by have := h.odd_in o; omega
   obtain ⟨h0, h12, ck⟩ := h.Z8F ok nk
   obtain ⟨q, q1, q2⟩ := shift_to h0 k 900
   have oc : ¬ Z19 f (k + f.Count * q) := fun o => by have := h.odd_in o; omega
   obtain ⟨nc, c1, c2⟩ := h.turned h0 ck oc
   have o1 := h.Z4e (k := k + f.Count * q) (by omega) (by omega) (by omega) ni nc
   have o2 := h.le_small (i := k + f.Count * q) (by omega) nc
   have o3 := h.Z77 h0 (i := k + f.Count * q) (k := k) (by omega) oc ok nc nk
   omega
 ·by_cases ok : Z19 f k
  ·have bk := h.odd_in ok
   by_cases hi : -2000 ≤ i
   ·exact h.Z4e hik (by omega) (by omega) ni nk
   ·obtain ⟨h0, h12, ci⟩ := h.Z8F oi ni
    obtain ⟨q, q1, q2⟩ := shift_to h0 i (-900)
    have oc : ¬ Z19 f (i + f.Count * q) := fun o => by have := h.odd_in o; omega
    obtain ⟨nc, c1, c2⟩ := h.turned h0 ci oc
    have o1 := h.Z77 h0 (i := i) (k := i + f.Count * q) (by omega) oi oc ni nc
    have o2 := h.le_small (i := i + f.Count * q) (by omega) nc
    have o3 := h.Z4e (i := i + f.Count * q) (k := k) (by omega) (by omega) (by omega) nc nk
    omega
  ·obtain ⟨h0, _, _⟩ := h.Z8F oi ni
   exact h.Z77 h0 hik oi ok ni nk

end Go.Dn

namespace Go.Dn
open Go

structure GapS (f : Form) (m : Int) (lo : Int → Prop) (b : Int × Bool) : Prop where
 yes : b.2 = true → ∃ i j, i + m ≤ j ∧ ZS f i ≠ [] ∧ ZS f j ≠ [] ∧ b.1 = fstT (ZS f j) - lstT (ZS f i)
 all : ∀ i j, lo i → i + m ≤ j → ZS f i ≠ [] → ZS f j ≠ [] → b.2 = true ∧ b.1 ≤ fstT (ZS f j) - lstT (ZS f i)

theorem near23_eq {f : Form} (hl : Lim f) : ∃ b, ZW f = some b ∧ (b = true → NearF0 f) := by
 unfold ZW
 obtain ⟨b, e1, i1⟩ := Z6P hl
 rw [e1]
 cases b with
 | false => exact ⟨false, rfl, nofun⟩
 | true =>
  have hsm := i1.1 rfl
  have hnl : ¬ LongF f := by unfold LongF; have := hsm.1; have := hsm.2.1; have := hsm.2.2; omega
  simp only [Option.bind_some, Bool.not_true, cond_false]
  rcases Z4u hl with ⟨h, _⟩ | ⟨_, hr, e2⟩ | ⟨_, _, e2⟩
  ·exact absurd h hnl
  ·rw [e2]
   simp only [Option.bind_some, bne_self_eq_false, Bool.false_or]
   by_cases hp : f.Period > 200
   ·rw [Zm hp]; exact ⟨false, rfl, nofun⟩
   rw [Z02 hp, cond_false]
   have hcl := Z3H (b := 23) hl.core
   have hol := Z3H (b := 31) hl.odd
   have l1 : (ZJ (ZW.s0 f) 0 = some (.go ()) ∧ ∀ k l, f.Core[k]? = some l → (l ≠ [] → -100 ≤ fstT l ∧ lstT l ≤ 100)) ∨ (ZJ (ZW.s0 f) 0 = some (.ret false) ∧ ¬ ∀ k l, f.Core[k]? = some l → (l ≠ [] → -100 ≤ fstT l ∧ lstT l ≤ 100)) :=
    Z4D (l := f.Core) (step := ZW.s0 f) (fun _ l => l ≠ [] → -100 ≤ fstT l ∧ lstT l ≤ 100) (no := .ret false) (yes := .go ()) (fun k x hk _ => by
     obtain ⟨h1, h2⟩ := Z63 hk
     have hlx := (hl.sets x (List.mem_of_getElem? hk)).1
     unfold ZW.s0
     rw [Zm h2, cond_true, h1]
     simp only [Option.bind_some]
     rw [hull_eq hlx]
     simp only [Option.bind_some]
     rw [Zn (by omega)]
     by_cases hx : x = []
     ·rw [if_pos hx]
      exact .inl ⟨rfl, fun h => absurd hx h⟩
     ·rw [if_neg hx]
      simp only [Bool.true_and]
      by_cases hb : fstT x < -100 ∨ lstT x > 100
      ·have : (decide (fstT x < -100) || decide (lstT x > 100)) = true := by simpa using hb
       rw [this]
       exact .inr ⟨rfl, fun h => by have := h hx; omega⟩
      ·have : (decide (fstT x < -100) || decide (lstT x > 100)) = false := by simp; omega
       rw [this]
       exact .inl ⟨rfl, fun _ => by omega⟩) (by unfold ZW.s0; rw [Z02 (by omega)]; rfl)
   rcases l1 with ⟨l1, l2⟩ | ⟨l1, _⟩
   ·rw [l1]
    simp only [Option.bind_some, Jx.elim]
    have m1 : (ZJ (ZW.s1 f) 0 = some (.go ()) ∧ ∀ (k : Nat) (g : Granule), f.Odd[k]? = some g → (-100 ≤ g.Index ∧ g.Index ≤ 100)) ∨ (ZJ (ZW.s1 f) 0 = some (.ret false) ∧ ¬ ∀ (k : Nat) (g : Granule), f.Odd[k]? = some g → (-100 ≤ g.Index ∧ g.Index ≤ 100)) :=
     Z4D (l := f.Odd) (step := ZW.s1 f) (fun _ (g : Granule) => -100 ≤ g.Index ∧ g.Index ≤ 100) (no := .ret false) (yes := .go ()) (fun k x hk _ => by
      obtain ⟨h1, h2⟩ := Z63 hk
      unfold ZW.s1
      rw [Zm h2, cond_true, h1]
      simp only [Option.bind_some]
      rw [Zn (by omega)]
      by_cases hb : x.Index < -100 ∨ x.Index > 100
      ·have : (decide (x.Index < -100) || decide (x.Index > 100)) = true := by simpa using hb
       rw [this]
       exact .inr ⟨rfl, fun h => by omega⟩
      ·have : (decide (x.Index < -100) || decide (x.Index > 100)) = false := by simp; omega
       rw [this]
       exact .inl ⟨rfl, by omega⟩) (by unfold ZW.s1; rw [Z02 (by omega)]; rfl)
    rcases m1 with ⟨m1, m2⟩ | ⟨m1, _⟩
    ·rw [m1]
     refine ⟨true, rfl, fun _ => ⟨hl, hr, hsm, by omega, fun l hm => ?_, fun g hm => ?_⟩⟩
     ·obtain ⟨k, hk⟩ := List.getElem?_of_mem hm; exact l2 k l hk
     ·obtain ⟨k, hk⟩ := List.getElem?_of_mem hm; exact m2 k g hk
    ·rw [m1]; exact ⟨false, rfl, nofun⟩
   ·rw [l1]; exact ⟨false, rfl, nofun⟩
  ·rw [e2]; exact ⟨false, rfl, nofun⟩

end Go.Dn

namespace Go.Dn
open Go

theorem w64_in (x : Int) : In64 (w64 x) := by unfold w64 In64; rw [Z4G]; omega

theorem has_found {l : List Span} {t : Int} (hl : Len l) : ∃ b, Z3O l t = some b ∧ (b = true → ∃ s ∈ l, s.From ≤ t ∧ t ≤ s.To) := by
 have hlen : (l.length : Int) < 4611686018427387904 := by have := Z17; unfold Len at hl; omega
 obtain ⟨r, h1, p, rfl, hp⟩ := Z0l (step := Z9.s0 l t (fun z0 z1 => some (Z2E z0 z1)))
  (I := fun s => ∃ i j : Nat, s = ((i : Int), (j : Int)) ∧ i ≤ j ∧ j ≤ l.length)
  (fun s => (s.2 - s.1).toNat)
  (fun r => ∃ p : Nat, r = (p : Int) ∧ p ≤ l.length) (by
  rintro s ⟨i, j, rfl, hij, hj⟩
  unfold Z9.s0
  by_cases hlt : i < j
  ·have hm : w64 ((IntKind.u64.wrap (w64 ((i : Int) + j))).fdiv (2 ^ 1)) = ((i + j) / 2 : Nat) := by
    rw [Zn (x := (i : Int) + j) (by omega), Z59, Int.fdiv_eq_ediv_of_nonneg _ (by decide), Zn (by omega)]
    omega
   have hml : (i + j) / 2 < l.length := by omega
   simp only [hm]
   rw [Zm (show (i : Int) < j by omega), cond_true, at?_nat hml]
   simp only [Option.bind_some]
   refine .inl ?_
   by_cases hc : Z2E l[(i + j) / 2] t < 0
   ·rw [Zm hc]
    refine ⟨((((i + j) / 2 + 1 : Nat) : Int), (j : Int)), ?_, ⟨(i + j) / 2 + 1, j, rfl, by omega, hj⟩, by simp; omega⟩
    rw [Zn (by omega)]; simp
   ·rw [Z02 hc]
    exact ⟨((i : Int), (((i + j) / 2 : Nat) : Int)), by simp, ⟨i, (i + j) / 2, rfl, by omega, by omega⟩, by simp; omega⟩
  ·exact .inr ⟨(i : Int), by rw [Z02 (show ¬ (i : Int) < j by omega)]; rfl, i, rfl, by omega⟩) (0, (l.length : Int)) ⟨0, l.length, rfl, Nat.zero_le _, Nat.le_refl _⟩
 unfold Z3O Z9
 rw [h1]
 simp only [Option.bind_some]
 by_cases hlt : p < l.length
 ·rw [Zm (show (p : Int) < l.length by omega), cond_true, at?_nat hlt]
  simp only [Option.bind_some, Bool.and_true]
  refine ⟨_, rfl, fun h => ⟨l[p], List.getElem_mem hlt, ?_⟩⟩
  simp only [Bool.and_eq_true] at h
  have h := eq_of_beq h.1
  unfold Z2E at h
  by_cases q1 : l[p].To < t
  ·rw [Zm q1] at h; simp at h
  ·by_cases q2 : l[p].From > t
   ·rw [Z02 q1, Zm q2] at h; simp at h
   ·omega
 ·rw [Z02 (show ¬ (p : Int) < l.length by omega), cond_false]
  simp only [Option.bind_some, Bool.and_false]
  exact ⟨false, rfl, fun h => by cases h⟩

def Z6k (f : Form) : Form := Form.mk f.Period f.Count f.Core []
theorem bareF_lim {f : Form} (h : Lim f) : Lim (Z6k f) := ⟨h.core, h.sets, by simp [Z6k], by simp [Z6k], h.count, h.period⟩
theorem bareF_shape {f : Form} (h : Shape f) : Shape (Z6k f) := ⟨h.count, h.zero, h.per, h.core, by simp [Z6k], by intro j k a b _ hj; simp [Z6k] at hj⟩

theorem place_tot {f : Form} (hl : Lim f) (t : Int) : ∃ r, ZA f t = some r ∧ In64 r.1 := by
 have hlen : (f.Core.length : Int) < 4611686018427387904 := by have := Z17; have := hl.core; omega
 obtain ⟨r, h1, h2⟩ := Z0l (step := ZA.s0 f t)
  (I := fun s => (∃ k : Nat, s.2.2 = (k : Int) ∧ k ≤ f.Core.length) ∧ In64 s.1)
  (fun s => f.Core.length - s.2.2.toNat) (fun r => In64 r.1) (by
  rintro ⟨at', ok, idx⟩ ⟨⟨k, hk, hle⟩, hi⟩
  simp only at hk hi
  subst hk
  unfold ZA.s0
  simp only
  by_cases hlt : k < f.Core.length
  ·refine .inl ?_
   rw [Zm (show (k : Int) < f.Core.length by omega), cond_true, at?_nat hlt]
   simp only [Option.bind_some]
   rw [hull_eq (hl.sets _ (List.getElem_mem hlt)).1]
   simp only [Option.bind_some]
   have hw : w64 ((k : Int) + 1) = ((k + 1 : Nat) : Int) := by rw [Zn (by omega)]; push_cast; rfl
   by_cases hn : f.Core[k] = []
   ·rw [if_pos hn]
    exact ⟨_, rfl, ⟨⟨k + 1, hw, hlt⟩, hi⟩, by simp only [hw]; omega⟩
   ·rw [if_neg hn]
    simp only [Bool.not_true, cond_false]
    unfold Z6O
    rw [Z6l (w64_in _) hl.period]
    simp only [Option.bind_some]
    rw [Z6A]
    split
    ·simp only [Option.bind_some, Jx.elim]
     exact ⟨_, rfl, ⟨⟨k + 1, hw, hlt⟩, w64_in _⟩, by simp only [hw]; omega⟩
    ·simp only [Option.bind_some, Jx.elim]
     exact ⟨_, rfl, ⟨⟨k + 1, hw, hlt⟩, hi⟩, by simp only [hw]; omega⟩
  ·refine .inr ⟨(at', ok), ?_, hi⟩
   rw [Z02 (show ¬ (k : Int) < f.Core.length by omega), cond_false]) (0, false, 0) ⟨⟨0, rfl, Nat.zero_le _⟩, by unfold In64; simp⟩
 refine ⟨r, ?_, h2⟩
 unfold ZA
 rw [h1]
 rfl

theorem plain_tot {f : Form} (hl : Lim f) (hs : Shape f) (t : Int) : ∃ r, Z3 f t = some r ∧ (r.2 = true → ZP r.1) := by
 obtain ⟨x1, e1, i1⟩ := place_tot hl t
 unfold Z3
 rw [e1]
 simp only [Option.bind_some]
 cases hx : x1.2 with
 | false => exact ⟨(0, false), rfl, fun h => by cases h⟩
 | true =>
 simp only [Bool.not_true, cond_false]
 have hlen : (f.Odd.length : Int) < 4611686018427387904 := by have := Z17; have := hl.odd; omega
 obtain ⟨kv, e2, _⟩ := Z0l (step := Z3.s0 f)
  (I := fun s => ∃ k : Nat, s.1 = (k : Int) ∧ k ≤ f.Odd.length)
  (fun s => f.Odd.length - s.1.toNat) (fun _ => True) (by
  rintro ⟨idx, kv⟩ ⟨k, hk, hle⟩
  simp only at hk
  subst hk
  unfold Z3.s0
  simp only
  by_cases hlt : k < f.Odd.length
  ·have hw : w64 ((k : Int) + 1) = ((k + 1 : Nat) : Int) := by rw [Zn (by omega)]; push_cast; rfl
   rw [Zm (show (k : Int) < f.Odd.length by omega), cond_true, at?_nat hlt]
   simp only [Option.bind_some]
   exact .inl ⟨_, rfl, ⟨k + 1, hw, hlt⟩, by simp only [hw]; omega⟩
  ·exact .inr ⟨kv, by rw [Z02 (show ¬ (k : Int) < f.Odd.length by omega), cond_false], trivial⟩) (0, []) ⟨0, rfl, Nat.zero_le _⟩
 rw [e2]
 simp only [Option.bind_some]
 have bl := bareF_lim hl
 have bs := bareF_shape hs
 obtain ⟨x3, e3, a3⟩ := Z2C bl bs (i := w64 (x1.1 - 1)) (w64_in _)
 rw [show Form.mk f.Period f.Count f.Core [] = Z6k f from rfl, e3]
 simp only [Option.bind_some]
 have tickA : ∀ {i : Int} {r : Int × Bool}, Above (Z6k f) i r → r.2 = true → i < r.1 ∧ ZP r.1 := fun h hr => ⟨(h.tick hr).1, (h.tick hr).2.1⟩
 obtain ⟨y, e4, h4⟩ := Z0l (step := Z3.s1 f kv)
  (I := fun s => (s.2.1 = true → ZP s.1) ∧ 0 ≤ s.2.2 ∧ s.2.2 ≤ 2)
  (fun s => if s.2.1 = true then (1099511627777 - s.1).toNat + 1 else 0)
  (fun y => ∀ r, y = .ret r → r.2 = true → ZP r.1) (by
  rintro ⟨i, ok, by_⟩ ⟨hi, hb0, hb2⟩
  simp only at hi hb0 hb2
  unfold Z3.s1
  simp only
  rw [show Form.mk f.Period f.Count f.Core [] = Z6k f from rfl]
  by_cases hc : ok = true ∧ by_ < 2
  ·obtain ⟨rfl, hb⟩ := hc
   have ti := hi rfl
   rw [Zm hb]
   simp only [Bool.and_self, cond_true]
   obtain ⟨x5, e5, a5⟩ := Z2C bl bs (i := i) (Z23 ti)
   have go : ∀ b' : Int, 0 ≤ b' → b' ≤ 2 → ∃ s' : Int × Bool × Int, (some (Sum.inl (x5.1, x5.2, b')) : Option ((Int × Bool × Int) ⊕ Jx Unit (Int × Bool))) = some (.inl s') ∧ ((s'.2.1 = true → ZP s'.1) ∧ 0 ≤ s'.2.2 ∧ s'.2.2 ≤ 2) ∧
     (if s'.2.1 = true then (1099511627777 - s'.1).toNat + 1 else 0) < (1099511627777 - i).toNat + 1 := fun b' q1 q2 => by
    refine ⟨_, rfl, ⟨fun h => (tickA a5 h).2, q1, q2⟩, ?_⟩
    simp only
    split
    ·rename_i h
     have := tickA a5 h
     have t2 := this.2
     unfold ZP at t2 ti
     omega
    ·omega
   obtain ⟨g, hg⟩ : ∃ g, Z0H (Z6k f) i = some g := ⟨_, Z4T bl bs (Z23 ti)⟩
   rw [hg]
   simp only [Option.bind_some, if_true]
   have hwb : w64 (by_ + 1) = by_ + 1 := Zn (by omega)
   rw [hwb]
   cases hgc : (g.2 != 0) with
   | true =>
    simp only [cond_true, Option.bind_some, Jx.elim]
    rw [e5]
    simp only [Option.bind_some]
    exact .inl (go _ (by omega) (by omega))
   | false =>
    simp only [cond_false]
    cases hm : (mget kv i == 0) with
    | true =>
     simp only [cond_true, Option.bind_some, Jx.elim]
     exact .inr ⟨_, rfl, fun r hr _ => by cases hr; exact ti⟩
    | false =>
     simp only [cond_false, Option.bind_some, Jx.elim]
     rw [e5]
     simp only [Option.bind_some]
     exact .inl (go _ hb0 hb2)
  ·have : (ok && decide (by_ < 2)) = false := by
    cases ok with
    | false => rfl
    | true => rw [Z02 (fun h => hc ⟨rfl, h⟩)]; rfl
   rw [this, cond_false]
   exact .inr ⟨_, rfl, fun r hr => by cases hr⟩) (x3.1, x3.2, 0) ⟨fun h => (tickA a3 h).2, by simp, by simp⟩
 rw [e4]
 simp only [Option.bind_some]
 cases y with
 | ret r => exact ⟨r, rfl, h4 r rfl⟩
 | go u => exact ⟨(0, false), rfl, fun h => by cases h⟩

theorem nearest_tot {f : Form} (hl : Lim f) (hs : Shape f) (t : Int) : ∃ r, Z8 f t = some r ∧ (r.2 = true → ZP r.1) := by
 obtain ⟨x1, e1, i1⟩ := plain_tot hl hs (iMax (iMin t 1099511627777) (-1099511627777))
 have hlen : (f.Odd.length : Int) < 4611686018427387904 := by have := Z17; have := hl.odd; omega
 obtain ⟨r, e2, h2⟩ := Z0l (step := Z8.s0 f t)
  (I := fun s => (∃ k : Nat, s.2.2 = (k : Int) ∧ k ≤ f.Odd.length) ∧ (s.2.1 = true → ZP s.1))
  (fun s => f.Odd.length - s.2.2.toNat) (fun r => r.2 = true → ZP r.1) (by
  rintro ⟨i, ok, idx⟩ ⟨⟨k, hk, hle⟩, hi⟩
  simp only at hk hi
  subst hk
  unfold Z8.s0
  simp only
  by_cases hlt : k < f.Odd.length
  ·have hw : w64 ((k : Int) + 1) = ((k + 1 : Nat) : Int) := by rw [Zn (by omega)]; push_cast; rfl
   have hm : f.Odd[k] ∈ f.Odd := List.getElem_mem hlt
   rw [Zm (show (k : Int) < f.Odd.length by omega), cond_true, at?_nat hlt]
   simp only [Option.bind_some]
   obtain ⟨g, hg⟩ : ∃ g, Z16 f.Odd[k].Ticks = some g := ⟨_, hull_eq (hl.ticks _ hm).2.1⟩
   rw [hg]
   simp only [Option.bind_some]
   refine .inl ?_
   rw [Z6A]
   split
   ·simp only [Option.bind_some]
    exact ⟨_, rfl, ⟨⟨k + 1, hw, hlt⟩, fun _ => (hs.odd _ hm).2⟩, by simp only [hw]; omega⟩
   ·simp only [Option.bind_some]
    exact ⟨_, rfl, ⟨⟨k + 1, hw, hlt⟩, hi⟩, by simp only [hw]; omega⟩
  ·exact .inr ⟨(i, ok), by rw [Z02 (show ¬ (k : Int) < f.Odd.length by omega), cond_false], hi⟩) (x1.1, x1.2, 0) ⟨⟨0, rfl, Nat.zero_le _⟩, i1⟩
 refine ⟨r, ?_, h2⟩
 unfold Z8
 rw [e1]
 simp only [Option.bind_some]
 rw [e2]
 rfl

def Bears (f : Form) (i t : Int) : Prop := ZP i ∧ fits f i ∧ ∃ s ∈ ZS f i, s.From ≤ t ∧ t ≤ s.To

theorem Z96 {f : Form} (hl : Lim f) (hs : Shape f) (t : Int) : ∃ r, Z3a f t = some r ∧ (r.2 = true → Bears f r.1 t) ∧ (r.2 = false → r.1 = 0) := by
 obtain ⟨x1, e1, i1⟩ := nearest_tot hl hs t
 unfold Z3a Z45
 rw [e1]
 simp only [Option.bind_some]
 cases hx : x1.2 with
 | false => exact ⟨(0, false), rfl, (fun h => by cases h), fun _ => rfl⟩
 | true =>
 have ti := i1 hx
 simp only [Bool.not_true, cond_false]
 rw [Z4T hl hs (Z23 ti)]
 simp only [Option.bind_some]
 by_cases hf : ZP x1.1 ∧ fits f x1.1
 ·rw [if_pos hf]
  obtain ⟨b, e2, h2⟩ := has_found (l := ZS f x1.1) (t := t) (Z8C hl hs _)
  rw [e2]
  simp only [Option.bind_some]
  cases b with
  | false => exact ⟨(0, false), rfl, (fun h => by cases h), fun _ => rfl⟩
  | true => exact ⟨(x1.1, true), rfl, fun _ => ⟨hf.1, hf.2, h2 rfl⟩, (fun h => by cases h)⟩
 ·rw [if_neg hf]
  obtain ⟨b, e2, h2⟩ := has_found (l := []) (t := t) (by unfold Len; simp)
  rw [e2]
  simp only [Option.bind_some]
  cases b with
  | false => exact ⟨(0, false), rfl, (fun h => by cases h), fun _ => rfl⟩
  | true => obtain ⟨s, hs, _⟩ := h2 rfl; cases hs

theorem distance_eq {f : Form} (hl : Lim f) (hs : Shape f) (a b : Int) : ∃ x y, Z3a f a = some x ∧ Z3a f b = some y ∧ (x.2 = true → Bears f x.1 a) ∧ (y.2 = true → Bears f y.1 b) ∧
  Z0y f a b = some (if x.2 = true ∧ y.2 = true then (y.1 - x.1, true) else (0, false)) := by
 obtain ⟨x, e1, h1, _⟩ := Z96 hl hs a
 obtain ⟨y, e2, h2, _⟩ := Z96 hl hs b
 refine ⟨x, y, e1, e2, h1, h2, ?_⟩
 unfold Z0y
 rw [e1]
 simp only [Option.bind_some]
 cases hx : x.2 with
 | false => simp
 | true =>
 simp only [Bool.not_true, cond_false]
 rw [e2]
 simp only [Option.bind_some]
 cases hy : y.2 with
 | false => simp
 | true =>
  have tx := (h1 hx).1
  have ty := (h2 hy).1
  unfold ZP at tx ty
  rw [Zn (by omega)]
  simp

theorem Bears.ends {f : Form} (hs : Shape f) {i t : Int} (h : Bears f i t) : ZS f i ≠ [] ∧ fstT (ZS f i) ≤ t ∧ t ≤ lstT (ZS f i) ∧ ZP t := by
 obtain ⟨h1, h2, s, h3, h4, h5⟩ := h
 have hr := Z4d hs h2
 have hn : ZS f i ≠ [] := fun e => by rw [e] at h3; cases h3
 obtain ⟨k, hk, he⟩ := List.getElem_of_mem h3
 have hlt := hk
 have key : fstT (ZS f i) ≤ s.From ∧ s.To ≤ lstT (ZS f i) := by
  have h0 : ∀ (l : List Span), RightL l → ∀ (s : Span), s ∈ l → fstT l ≤ s.From ∧ s.To ≤ lstT l := by
   intro l
   induction l with
   | nil => intro _ s hs; cases hs
   | cons a l ih =>
    intro hr s hs
    have ha := hr.ok 0 a rfl
    have e1 : fstT (a :: l) = a.From := rfl
    cases l with
    | nil =>
     rw [List.mem_singleton] at hs
     subst hs
     exact ⟨by rw [e1]; omega, by show s.To ≤ s.To; omega⟩
    | cons b l =>
     have hg := hr.gap 0 a b rfl rfl
     have e2 : lstT (a :: b :: l) = lstT (b :: l) := by unfold lstT; rw [List.getLast?_cons_cons]
     have hrt := hr.tail
     rcases List.mem_cons.1 hs with rfl | hs
     ·have := ih hrt b (by simp)
      have hb := hrt.ok 0 b rfl
      refine ⟨by rw [e1]; omega, by rw [e2]; omega⟩
     ·have := ih hrt s hs
      have e3 : fstT (b :: l) = b.From := rfl
      rw [e3] at this
      refine ⟨by rw [e1]; omega, by rw [e2]; exact this.2⟩
  exact h0 _ hr s h3
 have hl := lst_tick hr hn
 unfold ZP at *
 exact ⟨hn, by omega, by omega, by omega⟩

end Go.Dn

namespace Go.Dn
open Go

theorem Z6v {α : Type} {l : List α} {p : α → Bool} {step : Int → Option (Int ⊕ Jx Unit Int)} (hl : (l.length : Int) < 4611686018427387904)
  (hstep : ∀ (k : Nat) (hk : k < l.length), step (k : Int) = if p l[k] = true then some (.inr (.ret (k : Int))) else some (.inl (w64 ((k : Int) + 1)))) (hend : step (l.length : Int) = some (.inr (.go ()))) :
  (ZJ step 0 = some (.go ()) ∧ ∀ x ∈ l, p x = false) ∨ (∃ k : Nat, ZJ step 0 = some (.ret (k : Int)) ∧ ∃ x ∈ l, p x = true) := by
 obtain ⟨r, h1, h2⟩ := Z0l (step := step) (I := fun s => ∃ k : Nat, s = (k : Int) ∧ k ≤ l.length ∧ ∀ j (hj : j < l.length), j < k → p l[j] = false) (fun s => l.length - s.toNat)
  (fun r => (r = .go () ∧ ∀ x ∈ l, p x = false) ∨ ∃ k : Nat, r = .ret (k : Int) ∧ ∃ x ∈ l, p x = true) (by
  rintro s ⟨k, rfl, hk, hj⟩
  by_cases hlt : k < l.length
  ·rw [hstep k hlt]
   by_cases hp : p l[k] = true
   ·rw [if_pos hp]
    exact .inr ⟨_, rfl, .inr ⟨k, rfl, _, List.getElem_mem hlt, hp⟩⟩
   ·rw [if_neg hp]
    refine .inl ⟨_, rfl, ⟨k + 1, by rw [Zn (by omega)]; push_cast; rfl, hlt, fun j hjl hjk => ?_⟩, by rw [Zn (by omega)]; omega⟩
    rcases Nat.lt_or_ge j k with h | h
    ·exact hj j hjl h
    ·have : j = k := by omega
     subst this
     simpa using hp
  ·have : k = l.length := by omega
   subst this
   refine .inr ⟨_, hend, .inl ⟨rfl, fun x hx => ?_⟩⟩
   obtain ⟨j, hjl, rfl⟩ := List.getElem_of_mem hx
   exact hj j hjl hjl) 0 ⟨0, rfl, Nat.zero_le _, fun j _ h => by omega⟩
 rcases h2 with ⟨rfl, h⟩ | ⟨k, rfl, h⟩
 ·exact .inl ⟨h1, h⟩
 ·exact .inr ⟨k, h1, h⟩

theorem Z8i {l : List Form} {f : Form → Option Bool} {p : Form → Bool} (hl : (l.length : Int) < 4611686018427387904) (hf : ∀ x ∈ l, f x = some (p x)) : ∃ b, Zi l f = some b ∧ (b = true ↔ ∃ x ∈ l, p x = true) := by
 unfold Zi ZL
 rcases Z6v (l := l) (p := p) (step := ZL.s0 l f) hl (fun k hk => by
  unfold ZL.s0
  rw [Zm (show (k : Int) < l.length by omega), cond_true, at?_nat hk]
  simp only [Option.bind_some]
  rw [hf _ (List.getElem_mem hk)]
  simp only [Option.bind_some, Z6A]) (by
  unfold ZL.s0
  rw [Z02 (by omega), cond_false]) with ⟨e, h⟩ | ⟨k, e, h⟩
 ·rw [e]
  refine ⟨false, rfl, ?_⟩
  simp only [Bool.false_eq_true, false_iff, not_exists, not_and, Bool.not_eq_true]
  exact h
 ·rw [e]
  simp only [Option.bind_some, Jx.elim]
  exact ⟨true, by rw [Zm (show (k : Int) ≥ 0 by omega)], by simpa using h⟩

theorem Z9C {l : List Con} {f : Con → Option Bool} {p : Con → Bool} (hl : (l.length : Int) < 4611686018427387904) (hf : ∀ x ∈ l, f x = some (p x)) : ∃ b, Zs l f = some b ∧ (b = true ↔ ∃ x ∈ l, p x = true) := by
 unfold Zs ZN
 rcases Z6v (l := l) (p := p) (step := ZN.s0 l f) hl (fun k hk => by
  unfold ZN.s0
  rw [Zm (show (k : Int) < l.length by omega), cond_true, at?_nat hk]
  simp only [Option.bind_some]
  rw [hf _ (List.getElem_mem hk)]
  simp only [Option.bind_some, Z6A]) (by
  unfold ZN.s0
  rw [Z02 (by omega), cond_false]) with ⟨e, h⟩ | ⟨k, e, h⟩
 ·rw [e]
  refine ⟨false, rfl, ?_⟩
  simp only [Bool.false_eq_true, false_iff, not_exists, not_and, Bool.not_eq_true]
  exact h
 ·rw [e]
  simp only [Option.bind_some, Jx.elim]
  exact ⟨true, by rw [Zm (show (k : Int) ≥ 0 by omega)], by simpa using h⟩

theorem Z9X {l : List Int} {p : Int → Bool} (hl : (l.length : Int) < 4611686018427387904) : ∃ b, Zu l (fun z => some (p z)) = some b ∧ (b = true ↔ ∃ x ∈ l, p x = true) := by
 unfold Zu ZO
 rcases Z6v (l := l) (p := p) (step := ZO.s0 l (fun z => some (p z))) hl (fun k hk => by
  unfold ZO.s0
  rw [Zm (show (k : Int) < l.length by omega), cond_true, at?_nat hk]
  simp only [Option.bind_some, Z6A]) (by
  unfold ZO.s0
  rw [Z02 (by omega), cond_false]) with ⟨e, h⟩ | ⟨k, e, h⟩
 ·rw [e]
  refine ⟨false, rfl, ?_⟩
  simp only [Bool.false_eq_true, false_iff, not_exists, not_and, Bool.not_eq_true]
  exact h
 ·rw [e]
  simp only [Option.bind_some, Jx.elim]
  exact ⟨true, by rw [Zm (show (k : Int) ≥ 0 by omega)], by simpa using h⟩

structure RightN (n : Net) : Prop where
 vars : 0 ≤ n.Vars ∧ n.Vars ≤ 24
 forms : ∀ f ∈ n.Forms, Lim f ∧ RightF f
 cons : ∀ c ∈ n.Cons, (0 ≤ c.X ∧ c.X < n.Vars) ∧ (0 ≤ c.Y ∧ c.Y < n.Vars) ∧ (0 ≤ c.Form ∧ c.Form < n.Forms.length)
 few : n.Cons.length ≤ 200

theorem Z6H {i m : Int} : ZT i m = true ↔ 0 ≤ i ∧ i < m := by
 unfold ZT
 simp

theorem net_lim {n : Net} (h : n.ok) : (∀ f ∈ n.Forms, Lim f) ∧ (n.Forms.length : Int) < 4611686018427387904 ∧ (n.Cons.length : Int) < 4611686018427387904 := by
 obtain ⟨_, h2, h3⟩ := h
 refine ⟨fun f hf => Form.lim (h2.2 f hf), ?_, ?_⟩
 ·have := h2.1; have := Z17; omega
 ·have := h3.1; have := Z17; omega

theorem tag_Right_eq {n : Net} (hn : n.ok) : ∃ e, Z2p n = some e ∧ (e = 0 → RightN n) := by
 obtain ⟨hf, l1, l2⟩ := net_lim hn
 unfold Z2p
 cases c1 : ZT n.Vars 25 with
 | false => exact ⟨230, rfl, fun h => absurd h (by decide)⟩
 | true =>
 simp only [Bool.not_true, cond_false]
 cases c2 : decide ((n.Forms.length : Int) > 20) with
 | true => exact ⟨230, rfl, fun h => absurd h (by decide)⟩
 | false =>
 simp only [cond_false, Option.bind_some]
 cases c3 : decide ((n.Cons.length : Int) > 200) with
 | true => exact ⟨230, rfl, fun h => absurd h (by decide)⟩
 | false =>
 simp only [cond_false]
 have hfr : ∀ f ∈ n.Forms, Z1i f = some ((Zx f).getD 0 != 0) := fun f hm => by
  unfold Z1i
  rcases Z4u (hf f hm) with ⟨q, h⟩ | ⟨q, r, h⟩ | ⟨q, r, h⟩ <;> rw [h] <;> rfl
 obtain ⟨b1, e1, i1⟩ := Z8i (l := n.Forms) (f := fun z0 => Z1i z0) (p := fun f => (Zx f).getD 0 != 0) l1 hfr
 obtain ⟨b2, e2, i2⟩ := Z9C (l := n.Cons) (f := fun z0 => some (Z1h z0 n)) (p := fun c => Z1h c n) l2 (fun _ _ => rfl)
 rw [e1]
 simp only [Option.bind_some]
 cases b1 with
 | true => exact ⟨230, rfl, fun h => absurd h (by decide)⟩
 | false =>
 simp only [cond_false]
 rw [e2]
 simp only [Option.bind_some]
 cases b2 with
 | true => exact ⟨230, rfl, fun h => absurd h (by decide)⟩
 | false =>
 refine ⟨0, rfl, fun _ => ?_⟩
 have v := Z6H.1 c1
 refine ⟨by omega, fun f hm => ⟨hf f hm, ?_⟩, fun c hm => ?_, by have := of_decide_eq_false c3; omega⟩
 ·apply Classical.byContradiction
  intro hnr
  have : (false : Bool) = true := i1.2 ⟨f, hm, by
   rcases Z4u (hf f hm) with ⟨q, h⟩ | ⟨q, r, h⟩ | ⟨q, r, h⟩
   ·rw [h]; rfl
   ·exact absurd r hnr
   ·rw [h]; rfl⟩
  cases this
 ·cases hc : Z1h c n with
  | true => have := i2.2 ⟨c, hm, hc⟩; cases this
  | false =>
   unfold Z1h Z21 at hc
   simp only [Bool.not_eq_false', Bool.and_eq_true] at hc
   exact ⟨Z6H.1 hc.1.1.1, Z6H.1 hc.1.1.2, Z6H.1 hc.1.2⟩

theorem few_eq {n : Net} (hn : n.ok) : ∃ b, Z0Y n = some b ∧ (b = true → RightN n ∧ n.Cons.length ≤ 8 ∧ n.Vars ≤ 8) := by
 obtain ⟨hf, l1, l2⟩ := net_lim hn
 unfold Z0Y
 cases c1 : ((decide ((n.Forms.length : Int) > 4) || decide ((n.Cons.length : Int) > 8)) || decide (n.Vars > 8)) with
 | true => exact ⟨false, rfl, nofun⟩
 | false =>
 simp only [Bool.or_eq_false_iff, decide_eq_false_iff_not] at c1
 simp only [cond_false]
 obtain ⟨r, e1, _⟩ := Z0l (step := Z0Y.s0 n) (I := fun s => ∃ k : Nat, s = (k : Int) ∧ k ≤ n.Forms.length) (fun s => n.Forms.length - s.toNat) (fun r => r = .go () ∨ r = .ret false) (by
  rintro s ⟨k, rfl, hk⟩
  unfold Z0Y.s0
  by_cases hlt : k < n.Forms.length
  ·rw [Zm (show (k : Int) < n.Forms.length by omega), cond_true, at?_nat hlt]
   simp only [Option.bind_some]
   obtain ⟨b, e, _⟩ := near23_eq (hf _ (List.getElem_mem hlt))
   rw [e]
   simp only [Option.bind_some]
   cases b with
   | false => exact .inr ⟨_, rfl, .inr rfl⟩
   | true => exact .inl ⟨_, rfl, ⟨k + 1, by rw [Zn (by omega)]; push_cast; rfl, hlt⟩, by rw [Zn (by omega)]; omega⟩
  ·rw [Z02 (show ¬ (k : Int) < n.Forms.length by omega), cond_false]
   exact .inr ⟨_, rfl, .inl rfl⟩) 0 ⟨0, rfl, Nat.zero_le _⟩
 rw [e1]
 simp only [Option.bind_some]
 rename_i hr
 rcases hr with rfl | rfl
 ·simp only [Jx.elim]
  obtain ⟨e, e2, h2⟩ := tag_Right_eq hn
  rw [e2]
  simp only [Option.bind_some]
  refine ⟨_, rfl, fun h => ⟨h2 (eq_of_beq h), ?_, ?_⟩⟩ <;> omega
 ·exact ⟨false, rfl, nofun⟩

def Z09 (m : Con → Bool) : List Con → Nat → List Int
 | [], _ => []
 | c :: l, j => if m c = true then Z09 m l (j + 1) else (j : Int) :: Z09 m l (j + 1)

theorem Z5p (m : Con → Bool) : ∀ (a b : List Con) (j : Nat), Z09 m (a ++ b) j = Z09 m a j ++ Z09 m b (j + a.length)
 | [], b, j => rfl
 | c :: a, b, j => by
  simp only [List.cons_append, Z09, Z5p m a b (j + 1), List.length_cons]
  rw [show j + 1 + a.length = j + (a.length + 1) by omega]
  split <;> rfl

theorem Z6j (m : Con → Bool) (k : Nat) : ∀ (a : List Con) (j : Nat), Z09 m a (j + k) = (Z09 m a j).map (· + (k : Int))
 | [], j => rfl
 | c :: a, j => by
  have := Z6j m k a (j + 1)
  rw [show j + 1 + k = j + k + 1 by omega] at this
  simp only [Z09]
  split
  ·exact this
  ·rw [List.map_cons, this]; push_cast; rfl

theorem Z3k (m : Con → Bool) : ∀ (a : List Con) (j : Nat), (Z09 m a j).length ≤ a.length
 | [], j => Nat.le_refl _
 | c :: a, j => by
  have := Z3k m a (j + 1)
  simp only [Z09]
  split
  ·simp only [List.length_cons]; omega
  ·simp only [List.length_cons]; omega

theorem Z8d (m : Con → Bool) : ∀ (a : List Con) (j : Nat), ∀ x ∈ Z09 m a j, (j : Int) ≤ x ∧ x < (j + a.length : Nat)
 | [], j, x, h => by cases h
 | c :: a, j, x, h => by
  simp only [Z09] at h
  have ih := Z8d m a (j + 1) x
  split at h
  ·have := ih h; simp only [List.length_cons]; omega
  ·rcases List.mem_cons.1 h with rfl | h
   ·simp only [List.length_cons]; omega
   ·have := ih h; simp only [List.length_cons]; omega

theorem Z60 (m : Con → Bool) : ∀ (a : List Con) (j : Nat), Z09 m a j = [] ↔ ∀ c ∈ a, m c = true
 | [], j => by simp [Z09]
 | c :: a, j => by
  simp only [Z09]
  split
  ·rename_i h; rw [Z60 m a (j + 1)]; simp [h]
  ·rename_i h; simp [h]

section
variable {n : Net} {ts : List Int} {m : Con → Bool}

theorem failing_eq (hlen : n.Cons.length ≤ 200) (h : ∀ c ∈ n.Cons, Z1Y n c ts = some (m c)) : Zl n ts (Z1c Zy.b0) ([], 0) = some (Z09 m n.Cons 0, 0) := by
 unfold Zl
 have : ZJ (Zl.s0 n ts (Z1c Zy.b0)) (0, ([], 0)) = some (.go (Z09 m n.Cons 0, 0)) := by
  refine Z1z (I := fun s r => r = .go (Z09 m n.Cons 0, 0) ∧ ∃ k : Nat, s = ((k : Int), (Z09 m (n.Cons.take k) 0, 0)) ∧ k ≤ n.Cons.length) (fun s => n.Cons.length - s.1.toNat) ?_ ⟨rfl, 0, rfl, Nat.zero_le _⟩
  rintro s r ⟨rfl, k, rfl, hk⟩
  unfold Zl.s0
  simp only
  by_cases hlt : k < n.Cons.length
  ·left
   rw [Zm (show (k : Int) < n.Cons.length by omega), cond_true, at?_nat hlt]
   simp only [Option.bind_some]
   rw [h _ (List.getElem_mem hlt)]
   simp only [Option.bind_some]
   have hw : w64 ((k : Int) + 1) = ((k + 1 : Nat) : Int) := by rw [Zn (by omega)]; push_cast; rfl
   have ht : n.Cons.take (k + 1) = n.Cons.take k ++ [n.Cons[k]] := by rw [List.take_add_one, List.getElem?_eq_getElem hlt]; rfl
   have hb : Z09 m (n.Cons.take (k + 1)) 0 = Z09 m (n.Cons.take k) 0 ++ (if m n.Cons[k] = true then [] else [(k : Int)]) := by
    rw [ht, Z5p, List.length_take, Nat.min_eq_left (by omega), Nat.zero_add]
    rfl
   cases hm : m n.Cons[k] with
   | true =>
    rw [hm] at hb
    simp only [Bool.not_true, cond_false, Option.bind_some]
    refine ⟨_, rfl, ⟨by trivial, k + 1, ?_, hlt⟩, by simp only [hw]; omega⟩
    rw [hw, hb]
    simp
   | false =>
    rw [hm] at hb
    have hl := Z3k m (n.Cons.take k) 0
    rw [List.length_take] at hl
    have happ : app? 8 (Z09 m (n.Cons.take k) 0) [(k : Int)] = some (Z09 m (n.Cons.take k) 0 ++ [(k : Int)]) := app?_ok (by rw [Z6M]; simp only [List.length_singleton]; omega)
    simp only [Bool.not_false, cond_true, Z1c, if_true, Zy.b0, happ, Option.bind_some, Option.map_some, beq_self_eq_true, Bool.not_true, cond_false]
    refine ⟨_, rfl, ⟨by trivial, k + 1, ?_, hlt⟩, by simp only [hw]; omega⟩
    rw [hw, hb]
    simp
  ·right
   have : k = n.Cons.length := by omega
   subst this
   rw [Z02 (by omega), cond_false, List.take_length]
 rw [this]
 rfl

theorem holding_eq (hlen : n.Cons.length ≤ 200) (h : ∀ c ∈ n.Cons, Z1Y n c ts = some (m c)) : Zl n ts (Z1c Zo.b0) ((), 0) = some ((), if ∀ c ∈ n.Cons, m c = true then 0 else 1) := by
 unfold Zl
 obtain ⟨r, e, hr⟩ := Z0l (step := Zl.s0 n ts (Z1c Zo.b0)) (I := fun s => ∃ k : Nat, s = ((k : Int), ((), 0)) ∧ k ≤ n.Cons.length ∧ ∀ c ∈ n.Cons.take k, m c = true) (fun s => n.Cons.length - s.1.toNat)
  (fun r => (r = .go ((), 0) ∧ ∀ c ∈ n.Cons, m c = true) ∨ (r = .ret ((), 1) ∧ ¬ ∀ c ∈ n.Cons, m c = true)) (by
  rintro s ⟨k, rfl, hk, hall⟩
  unfold Zl.s0
  simp only
  by_cases hlt : k < n.Cons.length
  ·rw [Zm (show (k : Int) < n.Cons.length by omega), cond_true, at?_nat hlt]
   simp only [Option.bind_some]
   rw [h _ (List.getElem_mem hlt)]
   simp only [Option.bind_some]
   have hw : w64 ((k : Int) + 1) = ((k + 1 : Nat) : Int) := by rw [Zn (by omega)]; push_cast; rfl
   cases hm : m n.Cons[k] with
   | true =>
    simp only [Bool.not_true, cond_false, Option.bind_some]
    refine .inl ⟨_, rfl, ⟨k + 1, by rw [hw], hlt, fun c hc => ?_⟩, by simp only [hw]; omega⟩
    rw [List.take_add_one, List.getElem?_eq_getElem hlt] at hc
    rcases List.mem_append.1 hc with hc | hc
    ·exact hall c hc
    ·simp at hc; rw [hc]; exact hm
   | false =>
    simp only [Bool.not_false, cond_true, Z1c, if_true, Zo.b0, Option.bind_some, Option.map_some]
    refine .inr ⟨.ret ((), 1), rfl, .inr ⟨rfl, fun hh => ?_⟩⟩
    rw [hh _ (List.getElem_mem hlt)] at hm
    cases hm
  ·have : k = n.Cons.length := by omega
   subst this
   rw [Z02 (by omega), cond_false]
   rw [List.take_length] at hall
   exact .inr ⟨_, rfl, .inl ⟨rfl, hall⟩⟩) (0, ((), 0)) ⟨0, rfl, Nat.zero_le _, by simp⟩
 rw [e]
 rcases hr with ⟨rfl, hh⟩ | ⟨rfl, hh⟩
 ·rw [if_pos hh]; rfl
 ·rw [if_neg hh]; rfl

theorem own_eq (hl : (ts.length : Int) < 4611686018427387904) : ∃ b, Z2U n ts = some b ∧ (b = true → (ts.length : Int) = n.Vars) := by
 unfold Z2U
 by_cases h : (ts.length : Int) = n.Vars
 ·rw [beq_t h, cond_true]
  obtain ⟨b, e, _⟩ := Z9X (l := ts) (p := Z56) hl
  rw [e]
  exact ⟨!b, rfl, fun _ => h⟩
 ·rw [beq_f h, cond_false]
  exact ⟨false, rfl, nofun⟩

theorem met_tot (hn : RightN n) (hts : (ts.length : Int) = n.Vars) {c : Con} (hc : c ∈ n.Cons) : ∃ b, Z1Y n c ts = some b := by
 obtain ⟨⟨x0, x1⟩, ⟨y0, y1⟩, f0, f1⟩ := hn.cons c hc
 unfold Z1Y
 rw [at?_lt f0 f1, at?_lt x0 (by omega), at?_lt y0 (by omega)]
 simp only [Option.bind_some]
 obtain ⟨hl, hr⟩ := hn.forms _ (List.getElem_mem (l := n.Forms) (n := c.Form.toNat) (by omega))
 obtain ⟨A, B, _, _, _, _, e⟩ := distance_eq hl hr.shape (ts[c.X.toNat]'(by omega)) (ts[c.Y.toNat]'(by omega))
 rw [e]
 simp only [Option.bind_some]
 generalize (if A.2 = true ∧ B.2 = true then (B.1 - A.1, true) else (0, false)) = d
 cases d.2 <;> simp only [Bool.not_true, Bool.not_false, cond_true, cond_false, Option.bind_some, Jx.elim]
 ·exact ⟨_, rfl⟩
 ·cases (c.Range.HasLow && decide (d.1 < c.Range.Low)) <;> simp only [cond_true, cond_false, Option.bind_some, Jx.elim]
  ·cases (c.Range.HasHigh && decide (d.1 > c.Range.High)) <;> exact ⟨_, rfl⟩
  ·exact ⟨_, rfl⟩

noncomputable def metB (n : Net) (ts : List Int) (c : Con) : Bool := (Z1Y n c ts).getD false
theorem metB_eq (hn : RightN n) (hts : (ts.length : Int) = n.Vars) {c : Con} (hc : c ∈ n.Cons) : Z1Y n c ts = some (metB n ts c) := by
 obtain ⟨b, e⟩ := met_tot hn hts hc
 unfold metB
 rw [e]; rfl
end

theorem ints_same {l : List Int} (hl : l.length ≤ 1000) : Zh l l = some true := by
 unfold Zh
 rw [bne_f rfl, cond_false]
 have : ZJ (Zh.s0 l l) 0 = some (.go ()) := by
  refine Z1z (I := fun s r => r = .go () ∧ ∃ k : Nat, s = (k : Int) ∧ k ≤ l.length) (fun s => l.length - s.toNat) ?_ ⟨rfl, 0, rfl, Nat.zero_le _⟩
  rintro s r ⟨rfl, k, rfl, hk⟩
  unfold Zh.s0
  by_cases hlt : k < l.length
  ·left
   rw [Zm (show (k : Int) < l.length by omega), cond_true, at?_nat hlt]
   simp only [Option.bind_some, bne_self_eq_false, cond_false]
   exact ⟨_, rfl, ⟨by trivial, k + 1, by rw [Zn (by omega)]; push_cast; rfl, hlt⟩, by rw [Zn (by omega)]; omega⟩
  ·right
   rw [Z02 (by omega), cond_false]
 rw [this]
 rfl

theorem moved_eq {n : Net} {cut k : Int} {x10 : List Int × Int} {a : List Int} (hk : (w64 cut).tmod (w64 ((n.Cons.length : Int) + 1)) = k) (h0 : 0 ≤ k ∧ k ≤ 300) (ha : a.length ≤ 300) (hx : x10.1.length ≤ 300) (hm : ∀ x ∈ x10.1, 0 ≤ x ∧ x ≤ 300) :
  ZJ (ZR.s1 n cut x10) (0, a) = some (a ++ x10.1.map (· + k)) := by
 refine Z1z (I := fun s r => r = a ++ x10.1.map (· + k) ∧ ∃ j : Nat, s = ((j : Int), a ++ (x10.1.take j).map (· + k)) ∧ j ≤ x10.1.length) (fun s => x10.1.length - s.1.toNat) ?_ ⟨rfl, 0, by simp, Nat.zero_le _⟩
 rintro s r ⟨rfl, j, rfl, hj⟩
 unfold ZR.s1
 simp only
 rw [hk]
 by_cases hlt : j < x10.1.length
 ·left
  rw [Zm (show (j : Int) < x10.1.length by omega), cond_true, at?_nat hlt]
  simp only [Option.bind_some]
  have := hm _ (List.getElem_mem hlt)
  have hw : w64 ((j : Int) + 1) = ((j + 1 : Nat) : Int) := by rw [Zn (by omega)]; push_cast; rfl
  have hw2 : w64 (x10.1[j] + k) = x10.1[j] + k := Zn (by omega)
  rw [hw2, app?_ok (by rw [Z6M]; simp only [List.length_append, List.length_map, List.length_take, List.length_singleton]; omega)]
  simp only [Option.bind_some]
  refine ⟨_, rfl, ⟨by trivial, j + 1, ?_, hlt⟩, by simp only [hw]; omega⟩
  rw [hw, List.take_add_one, List.getElem?_eq_getElem hlt, List.map_append, List.append_assoc]
  rfl
 ·right
  have : j = x10.1.length := by omega
  subst this
  rw [Z02 (by omega), cond_false, List.take_length]

theorem holds_of {n : Net} {ts : List Int} {m : Con → Bool} (hown : Z2U n ts = some true) (hlen : n.Cons.length ≤ 200) (h : ∀ c ∈ n.Cons, Z1Y n c ts = some (m c)) : Zo n ts = some (decide (∀ c ∈ n.Cons, m c = true)) := by
 unfold Zo
 rw [hown]
 simp only [Option.bind_some, Bool.not_true, cond_false]
 rw [holding_eq hlen h]
 simp only [Option.bind_some]
 by_cases hh : ∀ c ∈ n.Cons, m c = true
 ·rw [if_pos hh, decide_eq_true hh]; rfl
 ·rw [if_neg hh, decide_eq_false hh]; rfl

theorem fails_of {n : Net} {ts : List Int} {m : Con → Bool} (hown : Z2U n ts = some true) (hlen : n.Cons.length ≤ 200) (h : ∀ c ∈ n.Cons, Z1Y n c ts = some (m c)) : Zy n ts = some (Z09 m n.Cons 0, 0) := by
 unfold Zy
 rw [hown]
 simp only [Option.bind_some, Bool.not_true, cond_false]
 rw [failing_eq hlen h]
 rfl

noncomputable def partsRest (n : Net) (cut : Int) (x6 : List Int) : Option Bool :=
   (nz? (w64 ((n.Cons.length : Int) + 1))).bind fun u1 =>
   (cut? n.Cons 0 ((w64 cut).tmod (w64 ((n.Cons.length : Int) + 1)))).bind fun x7 =>
   (cut? n.Cons ((w64 cut).tmod (w64 ((n.Cons.length : Int) + 1))) (n.Cons.length : Int)).bind fun x8 =>
   (Zy (Net.mk n.Vars n.Forms x7) x6).bind fun x9 =>
   (Zy (Net.mk n.Vars n.Forms x8) x6).bind fun x10 =>
   (Zy n x6).bind fun x11 =>
   (bif ((x9.2 != x10.2) || (x9.2 != x11.2)) then
    some false
   else
    (ZJ (ZR.s1 n cut x10) (0, x9.1)).bind fun (y2 : (List Int)) =>
    (Zh y2 x11.1).bind fun x14 =>
    (
     (bif x14 then
      (Zo n x6).bind fun x15 =>
      some (x15 == ((x9.2 == 0) && ((x11.1.length : Int) == 0)))
     else
      some false)).bind fun (y3 : Bool) =>
    (
     (bif y3 then
      (Zo n x6).bind fun x16 =>
      (Zo (Net.mk n.Vars n.Forms x7) x6).bind fun x17 =>
      (
       (bif x17 then
        (Zo (Net.mk n.Vars n.Forms x8) x6).bind fun x18 =>
        some x18
       else
        some false)).bind fun (y5 : Bool) =>
      some (x16 == y5)
     else
      some false)).bind fun (y4 : Bool) =>
    some (y4 && ZV))

theorem Z8r {n : Net} {cut : Int} {ts : List Int} (hn : RightN n) (h8 : n.Cons.length ≤ 8) (hc : okI .u8 cut) (hts : ts.length ≤ 1000) : partsRest n cut ts = some true := by
 rw [okI_u8] at hc
 unfold partsRest
 have hw1 : w64 ((n.Cons.length : Int) + 1) = (n.Cons.length : Int) + 1 := Zn (by omega)
 have hw2 : w64 cut = cut := Zn (by omega)
 have hkm : cut.tmod ((n.Cons.length : Int) + 1) = cut % ((n.Cons.length : Int) + 1) := Int.tmod_eq_emod_of_nonneg hc.1
 have k0 : 0 ≤ cut % ((n.Cons.length : Int) + 1) := Int.emod_nonneg _ (by omega)
 have k1 : cut % ((n.Cons.length : Int) + 1) < (n.Cons.length : Int) + 1 := Int.emod_lt_of_pos _ (by omega)
 have hk : (w64 cut).tmod (w64 ((n.Cons.length : Int) + 1)) = cut % ((n.Cons.length : Int) + 1) := by rw [hw1, hw2, hkm]
 rw [hk, hw1, nz?_ok (by omega)]
 generalize hkk : cut % ((n.Cons.length : Int) + 1) = k at *
 simp only [Option.bind_some]
 have c1 : cut? n.Cons 0 k = some (n.Cons.take k.toNat) := by
  unfold cut?
  rw [if_pos ⟨by omega, by omega, by omega⟩]
  simp
 have c2 : cut? n.Cons k (n.Cons.length : Int) = some (n.Cons.drop k.toNat) := by
  unfold cut?
  rw [if_pos ⟨by omega, by omega, by omega⟩]
  simp
 rw [c1, c2]
 simp only [Option.bind_some]
 obtain ⟨own, eo, ho⟩ := own_eq (n := n) (ts := ts) (by omega)
 have eo1 : Z2U (Net.mk n.Vars n.Forms (n.Cons.take k.toNat)) ts = some own := eo
 have eo2 : Z2U (Net.mk n.Vars n.Forms (n.Cons.drop k.toNat)) ts = some own := eo
 cases own with
 | false =>
  have f0 : ∀ n' : Net, Z2U n' ts = some false → Zy n' ts = some ([], 230) ∧ Zo n' ts = some false := fun n' h => by
   unfold Zy Zo
   rw [h]
   exact ⟨rfl, rfl⟩
  rw [(f0 _ eo1).1, (f0 _ eo2).1, (f0 _ eo).1]
  simp only [Option.bind_some, bne_self_eq_false, Bool.or_self, cond_false]
  rw [moved_eq (x10 := ([], 230)) (a := []) hk ⟨k0, by omega⟩ (by simp) (by simp) (by simp)]
  simp only [Option.bind_some, List.map_nil, List.append_nil]
  rw [ints_same (by simp)]
  simp only [Option.bind_some, cond_true]
  rw [(f0 _ eo).2]
  simp only [Option.bind_some]
  rw [show ((230 : Int) == 0) = false from rfl, (f0 _ eo1).2]
  rfl
 | true =>
  have hlen := ho rfl
  have m0 : ∀ c ∈ n.Cons, Z1Y n c ts = some (metB n ts c) := fun c hm => metB_eq hn hlen hm
  have m1 : ∀ c ∈ n.Cons.take k.toNat, Z1Y (Net.mk n.Vars n.Forms (n.Cons.take k.toNat)) c ts = some (metB n ts c) := fun c hm => m0 c (List.mem_of_mem_take hm)
  have m2 : ∀ c ∈ n.Cons.drop k.toNat, Z1Y (Net.mk n.Vars n.Forms (n.Cons.drop k.toNat)) c ts = some (metB n ts c) := fun c hm => m0 c (List.mem_of_mem_drop hm)
  have l1 : (n.Cons.take k.toNat).length ≤ 200 := by rw [List.length_take]; omega
  have l2 : (n.Cons.drop k.toNat).length ≤ 200 := by rw [List.length_drop]; omega
  rw [fails_of (n := Net.mk n.Vars n.Forms (n.Cons.take k.toNat)) eo1 l1 m1, fails_of (n := Net.mk n.Vars n.Forms (n.Cons.drop k.toNat)) eo2 l2 m2, fails_of eo (by omega) m0]
  simp only [Option.bind_some, bne_self_eq_false, Bool.or_self, cond_false]
  generalize hM : metB n ts = M at *
  have b1 := Z3k M (n.Cons.take k.toNat) 0
  have b2 := Z3k M (n.Cons.drop k.toNat) 0
  have b3 := Z3k M n.Cons 0
  rw [moved_eq (x10 := (Z09 M (n.Cons.drop k.toNat) 0, 0)) hk ⟨k0, by omega⟩ (by omega) (by simp only; omega) (fun x hx => by
   have := Z8d M _ _ x hx
   omega)]
  simp only [Option.bind_some]
  have hjoin : Z09 M (n.Cons.take k.toNat) 0 ++ (Z09 M (n.Cons.drop k.toNat) 0).map (· + k) = Z09 M n.Cons 0 := by
   have h1 := Z5p M (n.Cons.take k.toNat) (n.Cons.drop k.toNat) 0
   rw [List.take_append_drop, List.length_take, Nat.min_eq_left (by omega), Z6j, Int.toNat_of_nonneg k0] at h1
   exact h1.symm
  rw [hjoin, ints_same (by omega)]
  simp only [Option.bind_some, cond_true]
  rw [holds_of eo (by omega) m0]
  simp only [Option.bind_some]
  have e1 : (decide (∀ c ∈ n.Cons, M c = true) == (((0 : Int) == 0) && (((Z09 M n.Cons 0).length : Int) == 0))) = true := by
   by_cases hh : ∀ c ∈ n.Cons, M c = true
   ·rw [decide_eq_true hh, (Z60 M n.Cons 0).2 hh]; rfl
   ·rw [decide_eq_false hh]
    have : Z09 M n.Cons 0 ≠ [] := fun h => hh ((Z60 M n.Cons 0).1 h)
    have : (Z09 M n.Cons 0).length ≠ 0 := fun h => this (List.length_eq_zero_iff.1 h)
    rw [beq_f (show ((Z09 M n.Cons 0).length : Int) ≠ 0 by omega)]
    rfl
  rw [e1]
  simp only [cond_true]
  rw [holds_of (n := Net.mk n.Vars n.Forms (n.Cons.take k.toNat)) eo1 l1 m1, holds_of (n := Net.mk n.Vars n.Forms (n.Cons.drop k.toNat)) eo2 l2 m2]
  simp only [Option.bind_some]
  have hsplit : (∀ c ∈ n.Cons, M c = true) ↔ (∀ c ∈ n.Cons.take k.toNat, M c = true) ∧ (∀ c ∈ n.Cons.drop k.toNat, M c = true) := by
   constructor
   ·exact fun h => ⟨fun c hc => h c (List.mem_of_mem_take hc), fun c hc => h c (List.mem_of_mem_drop hc)⟩
   ·rintro ⟨h1, h2⟩ c hc
    rw [← List.take_append_drop k.toNat n.Cons] at hc
    exact (List.mem_append.1 hc).elim (h1 c) (h2 c)
  by_cases h1 : ∀ c ∈ n.Cons.take k.toNat, M c = true
  ·rw [decide_eq_true h1]
   by_cases h2 : ∀ c ∈ n.Cons.drop k.toNat, M c = true
   ·rw [decide_eq_true h2, decide_eq_true (hsplit.2 ⟨h1, h2⟩)]; rfl
   ·rw [decide_eq_false h2, decide_eq_false (fun h => h2 (hsplit.1 h).2)]; rfl
  ·rw [decide_eq_false h1, decide_eq_false (fun h => h1 (hsplit.1 h).1)]; rfl

theorem tagParts_true (n : Net) (ticks : List Int) (cut : Int) (hn : n.ok) (ht : okL 8 (okI .i64) ticks) (hc : okI .u8 cut) : ZR n ticks cut = some true := by
 unfold ZR
 obtain ⟨b, e, h⟩ := few_eq hn
 rw [e]
 simp only [Option.bind_some]
 cases b with
 | false => rfl
 | true =>
 obtain ⟨rn, h8, v8⟩ := h rfl
 simp only [Bool.not_true, cond_false]
 by_cases hlt : (ticks.length : Int) < n.Vars
 ·rw [Zm hlt, cond_true]
  have cutAll : ∀ l : List Int, cut? l 0 (l.length : Int) = some l := fun l => by
   unfold cut?
   rw [if_pos ⟨by omega, by omega, by omega⟩]
   simp
  rw [cutAll]
  simp only [Option.bind_some]
  rw [app?_ok (by rw [Z6M]; simp only [List.length_singleton]; omega)]
  simp only [Option.bind_some]
  obtain ⟨y, ey, hy⟩ := Z0l (step := ZR.s0 n cut) (I := fun s => (s.length : Int) ≤ n.Vars) (fun s => (n.Vars - s.length).toNat) (fun r => n.Vars ≤ (r.length : Int) ∧ (r.length : Int) ≤ n.Vars) (by
   intro s hs
   unfold ZR.s0
   by_cases hl : (s.length : Int) < n.Vars
   ·rw [Zm hl, cond_true, cutAll]
    simp only [Option.bind_some]
    rw [app?_ok (by rw [Z6M]; simp only [List.length_singleton]; omega)]
    simp only [Option.bind_some]
    exact .inl ⟨_, rfl, by simp only [List.length_append, List.length_singleton]; push_cast; omega, by simp only [List.length_append, List.length_singleton]; push_cast; omega⟩
   ·rw [Z02 hl, cond_false]
    exact .inr ⟨s, rfl, by omega, hs⟩) (ticks ++ [0]) (by simp only [List.length_append, List.length_singleton]; push_cast; omega)
  rw [ey]
  simp only [Option.bind_some]
  have cy : cut? y 0 n.Vars = some (y.take n.Vars.toNat) := by
   unfold cut?
   rw [if_pos ⟨by omega, by omega, by omega⟩]
   simp
  rw [cy]
  simp only [Option.bind_some]
  exact Z8r (ts := y.take n.Vars.toNat) rn h8 hc (by rw [List.length_take]; omega)
 ·rw [Z02 hlt, cond_false]
  have cy : cut? ticks 0 n.Vars = some (ticks.take n.Vars.toNat) := by
   unfold cut?
   rw [if_pos ⟨by omega, rn.vars.1, by omega⟩]
   simp
  rw [cy]
  simp only [Option.bind_some]
  exact Z8r (ts := ticks.take n.Vars.toNat) rn h8 hc (by rw [List.length_take]; omega)

end Go.Dn
