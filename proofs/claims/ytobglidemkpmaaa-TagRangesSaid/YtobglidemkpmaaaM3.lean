/- Part 3 of what the row stands on. -/
import Derived.Test.YtobglidemkpmaaaM2
set_option linter.unusedVariables false
set_option linter.unusedSimpArgs false
namespace Go.Dn
open Go Go.Proofs
set_option maxRecDepth 100000
set_option maxHeartbeats 4000000
abbrev vl {α : Type} (c : α → List FV) (x : List α) : PV := .v (.sl (x.map c))
abbrev vi (x : Int) : PV := .v (.int .i64 x)
abbrev vu (x : Int) : PV := .v (.int .u64 x)
abbrev vb (x : Bool) : PV := .v (.bool x)
theorem sj {α : Type} {a b : α} (h : some a = some b) : a = b := Option.some.inj h
abbrev vF (f : Form) : List PV := [vi f.Period, vi f.Count, vl (cL Span.cs) f.Core, vl Granule.cs f.Odd]
abbrev vG (f : size_form) : List PV := [vi f.Form.Period, vi f.Form.Count, vl (cL Span.cs) f.Form.Core, vl Granule.cs f.Form.Odd, vl size_spot.cs f.spots]

theorem Z7T {f : Form} {r : Int} (h : Z00 f = some r) : Fn CX 16 [(.agg (vs (Form.cs f)))] (vi r) := by
 refine Fn.ends Try.func16 rfl rfl rfl rfl rfl rfl ?_
 have H : Hs (⟨0, fun _ => .none⟩ : Heap) [] := Has.nil (Nat.le_refl _)
 generalize (⟨0, fun _ => .none⟩ : Heap) = σ at H ⊢
 unfold Z00 at h
 refine .then (.Z0 2 rfl H fun b1 σ H => (.boxH (cs := (vF f)) H (by omega) (by omega) rfl rfl rfl fun σ H => (.assign (v := (vi 0)) rfl rfl (.nila H fun H => (.then ?_)))))
 refine .Z0 1 rfl H fun b2 σ H => (.assign (v := (vi 0)) rfl rfl (.nila H fun H => (.then (.then (.Z0 4 rfl H fun b3 σ H => ?_)))))
 refine .Z2 (off := 0) (fo := 2) H 0 rfl rfl rfl rfl rfl nofun rfl (.ZR (off := 2) (v := (vl (cL Span.cs) f.Core)) H 0 rfl rfl rfl rfl rfl nofun rfl (.Z0T (c := (cL Span.cs)) (xs := f.Core) rfl rfl rfl (.move (v := (vi 0)) rfl rfl (.nila H fun H => (.inBlock ?_)))))
 obtain ⟨y1, hj1, h⟩ := bind_some h
 obtain ⟨n1, hj1⟩ := Ze.1 hj1
 refine .mono (Runs.ZK hj1 (fun s1 e σ => Z5 e [(1, (.ptr (b1 + 0) 4 0)), (3, (vi s1.1)), (9, (vl (cL Span.cs) f.Core)), (10, (vi (f.Core.length : Int))), (11, (vi s1.2))] ∧ Hs σ [.blk (b1 + 0) 25 (vF f)]) (fun y1 x e σ => x = .exit 0 ∧ Z5 e [(1, (.ptr (b1 + 0) 4 0)), (3, (vi y1))] ∧ Hs σ [.blk (b1 + 0) 25 (vF f)]) ⟨⟨rfl, rfl, rfl, rfl, rfl, trivial⟩, H⟩ ?_) ?_
 ·intro s1 e σ hI z h
  obtain ⟨he, H⟩ := hI
  obtain ⟨e, rfl⟩ := he.ex
  unfold Z00.s0 at h
  refine .then (.Z0 1 rfl H fun b4 σ H => (.int (m := s1.2) (m' := (f.Core.length : Int)) (r := .bool (decide (s1.2 < (f.Core.length : Int)))) rfl rfl rfl rfl rfl (.nila H fun H => (.then ?_))))
  refine .whether (v := (decide (s1.2 < (f.Core.length : Int)))) rfl ?_ ?_ <;> intro hc1
  ·replace h := Z9 hc1 h
   refine .skip (.then (.inBlock (.then (.Z0 3 rfl H fun b5 σ H => ?_))))
   obtain ⟨x1, q1, h⟩ := bind_some h
   refine .Z0H (c := (cL Span.cs)) (u := x1) rfl rfl q1 rfl rfl rfl rfl (.Z2M (u := (.sl (x1.map Span.cs))) rfl rfl rfl rfl (.assign (v := (vl Span.cs x1)) rfl rfl (.nila H fun H => (.Z0 5 rfl H fun b6 σ H => (.move (v := (vi s1.1)) rfl rfl ?_)))))
   refine .move (v := (vl Span.cs x1)) rfl rfl (.Z0T (c := Span.cs) (xs := x1) rfl rfl rfl (.int (m := s1.1) (m' := (x1.length : Int)) (r := .int .i64 (w64 (s1.1 + (x1.length : Int)))) rfl rfl rfl rfl rfl (.assign (v := (vi (w64 (s1.1 + (x1.length : Int))))) rfl rfl (.nila H fun H => (.Z0 2 rfl H fun b7 σ H => ?_)))))
   refine .int (m := s1.2) (m' := 1) (r := .int .i64 (w64 (s1.2 + 1))) rfl rfl rfl rfl rfl (.move (v := (vi (w64 (s1.2 + 1)))) rfl rfl (.nila H fun H => ?_))
   replace h := sj h; subst h
   exact ⟨rfl, ⟨rfl, rfl, rfl, rfl, rfl, trivial⟩, H⟩
  ·replace h := Z6 hc1 h
   refine .exit ?_
   replace h := sj h; subst h
   exact ⟨nofun, ⟨rfl, ⟨rfl, rfl, trivial⟩, H⟩⟩
 ·rintro x e σ ⟨rfl, he, H⟩
  obtain ⟨e, rfl⟩ := he.ex
  refine .then (.then (.Z0 4 rfl H fun b8 σ H => (.Z2 (off := 0) (fo := 3) H 0 rfl rfl rfl rfl rfl nofun rfl (.ZR (off := 3) (v := (vl Granule.cs f.Odd)) H 0 rfl rfl rfl rfl rfl nofun rfl (.Z0T (c := Granule.cs) (xs := f.Odd) rfl rfl rfl ?_)))))
  refine .move (v := (vi 0)) rfl rfl (.nila H fun H => (.inBlock ?_))
  obtain ⟨y2, hj2, h⟩ := bind_some h
  obtain ⟨n2, hj2⟩ := Ze.1 hj2
  refine .mono (Runs.ZK hj2 (fun s2 e σ => Z5 e [(3, (vi s2.1)), (21, (vl Granule.cs f.Odd)), (22, (vi (f.Odd.length : Int))), (23, (vi s2.2))] ∧ Hs σ []) (fun y2 x e σ => x = .exit 2 ∧ Z5 e [(3, (vi y2))] ∧ Hs σ []) ⟨⟨rfl, rfl, rfl, rfl, trivial⟩, (H.erase 0)⟩ ?_) ?_
  ·intro s2 e σ hI z h
   obtain ⟨he, H⟩ := hI
   obtain ⟨e, rfl⟩ := he.ex
   unfold Z00.s1 at h
   refine .then (.Z0 1 rfl H fun b9 σ H => (.int (m := s2.2) (m' := (f.Odd.length : Int)) (r := .bool (decide (s2.2 < (f.Odd.length : Int)))) rfl rfl rfl rfl rfl (.nila H fun H => (.then ?_))))
   refine .whether (v := (decide (s2.2 < (f.Odd.length : Int)))) rfl ?_ ?_ <;> intro hc2
   ·replace h := Z9 hc2 h
    refine .skip (.then (.inBlock (.then (.Z0 4 rfl H fun b10 σ H => ?_))))
    obtain ⟨x2, q2, h⟩ := bind_some h
    refine .Z0H (c := Granule.cs) (u := x2) rfl rfl q2 rfl rfl rfl rfl (.Z2g (cs := [(.int .i64 x2.Index), (.sl (x2.Ticks.map Span.cs))]) rfl rfl rfl rfl rfl rfl (.Z0p (cs := [(vi 0), .nils]) H (by omega) (by omega) rfl rfl fun σ H => (.Z0e (off := 0) (cells' := [(vi x2.Index), (vl Span.cs x2.Ticks)]) H 0 rfl rfl rfl rfl rfl rfl rfl rfl rfl nofun fun σ H => (.nila H fun H => (.Z0 6 rfl H fun b11 σ H => ?_)))))
    refine .move (v := (vi s2.1)) rfl rfl (.Z2 (off := 0) (fo := 1) H 0 rfl rfl rfl rfl rfl nofun rfl (.ZR (off := 1) (v := (vl Span.cs x2.Ticks)) H 0 rfl rfl rfl rfl rfl nofun rfl (.Z0T (c := Span.cs) (xs := x2.Ticks) rfl rfl rfl (.int (m := s2.1) (m' := (x2.Ticks.length : Int)) (r := .int .i64 (w64 (s2.1 + (x2.Ticks.length : Int)))) rfl rfl rfl rfl rfl (.assign (v := (vi (w64 (s2.1 + (x2.Ticks.length : Int))))) rfl rfl ?_)))))
    refine .nila H fun H => (.Z0 2 rfl H fun b12 σ H => (.int (m := s2.2) (m' := 1) (r := .int .i64 (w64 (s2.2 + 1))) rfl rfl rfl rfl rfl (.move (v := (vi (w64 (s2.2 + 1)))) rfl rfl (.nila H fun H => ?_))))
    replace h := sj h; subst h
    exact ⟨rfl, ⟨rfl, rfl, rfl, rfl, trivial⟩, (H.erase 0)⟩
   ·replace h := Z6 hc2 h
    refine .exit ?_
    replace h := sj h; subst h
    exact ⟨nofun, ⟨rfl, ⟨rfl, trivial⟩, H⟩⟩
  ·rintro x e σ ⟨rfl, he, H⟩
   obtain ⟨e, rfl⟩ := he.ex
   refine .then (.Z0 2 rfl H fun b13 σ H => (.move (v := (vi y2)) rfl rfl (.assign (v := (vi y2)) rfl rfl (.nila H fun H => (.ret ?_)))))
   replace h := sj h; subst h
   exact (Ends.H (xs := [(vi y2)]) (.inr rfl) H (.tmp (v := (vi y2)) rfl .nil) (.one (.c (.v _))))

theorem Z6Q {f : Form} {r : Bool} (h : Z04 f = some r) : Fn CX 6 [(.agg (vs (Form.cs f)))] (vb r) := by
 refine Fn.ends Try.func6 rfl rfl rfl rfl rfl rfl ?_
 have H : Hs (⟨0, fun _ => .none⟩ : Heap) [] := Has.nil (Nat.le_refl _)
 generalize (⟨0, fun _ => .none⟩ : Heap) = σ at H ⊢
 unfold Z04 at h
 refine .then (.Z0 2 rfl H fun b1 σ H => (.boxH (cs := (vF f)) H (by omega) (by omega) rfl rfl rfl fun σ H => (.assign (v := (vb false)) rfl rfl (.nila H fun H => (.then ?_)))))
 refine .Z0 16 rfl H fun b2 σ H => (.Z2 (off := 0) (fo := 2) H 0 rfl rfl rfl rfl rfl nofun rfl (.ZR (off := 2) (v := (vl (cL Span.cs) f.Core)) H 0 rfl rfl rfl rfl rfl nofun rfl (.Z0T (c := (cL Span.cs)) (xs := f.Core) rfl rfl rfl (.int (m := (f.Core.length : Int)) (m' := 12) (r := .bool (decide ((f.Core.length : Int) ≤ 12))) rfl rfl rfl rfl rfl (.move (v := (vb (decide ((f.Core.length : Int) ≤ 12)))) rfl rfl ?_)))))
 refine .mid 5 (K1 := fun e σ => Z5 e [(12, (vb ((decide ((f.Core.length : Int) ≤ 12)) && (decide ((f.Odd.length : Int) ≤ 8))))), (1, (.ptr (b1 + 0) 4 0))] ∧ Has σ (b2 + 10) (b2 + 16) [.blk (b1 + 0) 25 (vF f)]) rfl ?_ ?_
 ·refine .split rfl rfl ?_ ?_ <;> intro hc1
  ·skip
   refine .wanted rfl rfl (.Z2 (off := 0) (fo := 3) H 0 rfl rfl rfl rfl rfl nofun rfl (.wanted rfl rfl (.ZR (off := 3) (v := (vl Granule.cs f.Odd)) H 0 rfl rfl rfl rfl rfl nofun rfl (.wanted rfl rfl (.Z0T (c := Granule.cs) (xs := f.Odd) rfl rfl rfl ?_)))))
   refine .wanted rfl rfl (.int (m := (f.Odd.length : Int)) (m' := 8) (r := .bool (decide ((f.Odd.length : Int) ≤ 8))) rfl rfl rfl rfl rfl (.Zg (v := (vb (decide ((f.Odd.length : Int) ≤ 8)))) rfl rfl rfl (.nil ?_)))
   exact ⟨⟨Z1f hc1, rfl, trivial⟩, H.weak (by omega) (Nat.le_refl _)⟩
  ·skip
   refine .pass rfl rfl rfl (.pass rfl rfl rfl (.pass rfl rfl rfl (.pass rfl rfl rfl (.Zn (v := (vb false)) rfl rfl rfl (.nil ?_)))))
   exact ⟨⟨Z1e hc1, rfl, trivial⟩, H.weak (by omega) (Nat.le_refl _)⟩
 ·rintro e σ ⟨he, H⟩
  obtain ⟨e, rfl⟩ := he.ex
  refine .move (v := (vb ((decide ((f.Core.length : Int) ≤ 12)) && (decide ((f.Odd.length : Int) ≤ 8))))) rfl rfl ?_
  obtain ⟨y1, hj1, h⟩ := bind_some h
  refine .mid 4 (K1 := fun e σ => Z5 e [(17, (vb y1))] ∧ Has σ (b2 + 15) (b2 + 16) []) rfl ?_ ?_
  ·refine .split rfl rfl ?_ ?_ <;> intro hc2
   ·replace h := Z9 hc2 hj1
    refine .wanted rfl rfl (.ZP (off := 0) (cs := (vF f)) H 0 rfl rfl rfl rfl rfl rfl rfl nofun rfl (.wanted rfl rfl ?_))
    obtain ⟨x1, q1, h⟩ := bind_some h
    refine .call (ys := [(.agg (vF f))]) (r := (vi x1)) rfl (Z7T q1) rfl (.wanted rfl rfl (.int (m := x1) (m' := 60) (r := .bool (decide (x1 ≤ 60))) rfl rfl rfl rfl rfl (.Zg (v := (vb (decide (x1 ≤ 60)))) rfl rfl rfl (.nil ?_))))
    replace h := sj h; subst h
    exact ⟨⟨rfl, trivial⟩, (H.erase 0).weak (by omega) (Nat.le_refl _)⟩
   ·replace h := Z6 hc2 hj1
    refine .pass rfl rfl rfl (.pass rfl rfl rfl (.pass rfl rfl rfl (.Zn (v := (vb false)) rfl rfl rfl (.nil ?_))))
    replace h := sj h; subst h
    exact ⟨⟨rfl, trivial⟩, (H.erase 0).weak (by omega) (Nat.le_refl _)⟩
  ·rintro e σ ⟨he, H⟩
   obtain ⟨e, rfl⟩ := he.ex
   refine .assign (v := (vb y1)) rfl rfl (.nila H fun H => (.ret ?_))
   replace h := sj h; subst h
   exact (Ends.H (xs := [(vb y1)]) (.inr rfl) H (.tmp (v := (vb y1)) rfl .nil) (.one (.c (.v _))))

theorem Z3X {t : Int} {r : Bool} (h : ZW t = r) : Fn CX 45 [(vi t)] (vb r) := by
 refine Fn.ends Try.func45 rfl rfl rfl rfl rfl rfl ?_
 have H : Hs (⟨0, fun _ => .none⟩ : Heap) [] := Has.nil (Nat.le_refl _)
 generalize (⟨0, fun _ => .none⟩ : Heap) = σ at H ⊢
 unfold ZW at h
 refine .then (.Z0 1 rfl H fun b1 σ H => (.assign (v := (vb false)) rfl rfl (.nila H fun H => (.then (.Z0 7 rfl H fun b2 σ H => ?_)))))
 refine .move (v := (vi t)) rfl rfl (.int (m := t) (m' := (-1099511627776)) (r := .bool (decide (t ≥ (-1099511627776)))) rfl rfl rfl rfl rfl (.move (v := (vb (decide (t ≥ (-1099511627776))))) rfl rfl ?_))
 refine .mid 3 (K1 := fun e σ => Z5 e [(8, (vb ((decide (t ≥ (-1099511627776))) && (decide (t ≤ 1099511627776)))))] ∧ Has σ (b2 + 6) (b2 + 7) []) rfl ?_ ?_
 ·refine .split rfl rfl ?_ ?_ <;> intro hc1
  ·skip
   refine .wanted rfl rfl (.move (v := (vi t)) rfl rfl (.wanted rfl rfl (.int (m := t) (m' := 1099511627776) (r := .bool (decide (t ≤ 1099511627776))) rfl rfl rfl rfl rfl (.Zg (v := (vb (decide (t ≤ 1099511627776)))) rfl rfl rfl (.nil ?_)))))
   exact ⟨⟨Z1f hc1, trivial⟩, H.weak (by omega) (Nat.le_refl _)⟩
  ·skip
   refine .pass rfl rfl rfl (.pass rfl rfl rfl (.Zn (v := (vb false)) rfl rfl rfl (.nil ?_)))
   exact ⟨⟨Z1e hc1, trivial⟩, H.weak (by omega) (Nat.le_refl _)⟩
 ·rintro e σ ⟨he, H⟩
  obtain ⟨e, rfl⟩ := he.ex
  refine .assign (v := (vb ((decide (t ≥ (-1099511627776))) && (decide (t ≤ 1099511627776))))) rfl rfl (.nila H fun H => (.ret ?_))
  subst h
  exact (Ends.H (xs := [(vb ((decide (t ≥ (-1099511627776))) && (decide (t ≤ 1099511627776))))]) (.inr rfl) H (.tmp (v := (vb ((decide (t ≥ (-1099511627776))) && (decide (t ≤ 1099511627776))))) rfl .nil) (.one (.c (.v _))))

theorem Z67 {l : (List Span)} {r : Bool} (h : Z02 l = some r) : Fn CX 27 [(vl Span.cs l)] (vb r) := by
 refine Fn.ends Try.func27 rfl rfl rfl rfl rfl rfl ?_
 have H : Hs (⟨0, fun _ => .none⟩ : Heap) [] := Has.nil (Nat.le_refl _)
 generalize (⟨0, fun _ => .none⟩ : Heap) = σ at H ⊢
 unfold Z02 at h
 refine .then (.Z0 1 rfl H fun b1 σ H => (.assign (v := (vb false)) rfl rfl (.nila H fun H => (.then (.then ?_)))))
 refine .Z0 3 rfl H fun b2 σ H => (.move (v := (vl Span.cs l)) rfl rfl (.Z0T (c := Span.cs) (xs := l) rfl rfl rfl (.move (v := (vi 0)) rfl rfl (.nila H fun H => (.inBlock ?_)))))
 obtain ⟨y1, hj1, h⟩ := bind_some h
 obtain ⟨n1, hj1⟩ := Ze.1 hj1
 refine .mono (Runs.ZK hj1 (fun s1 e σ => Z5 e [(0, (vl Span.cs l)), (5, (vl Span.cs l)), (6, (vi (l.length : Int))), (7, (vi s1))] ∧ Hs σ []) (fun y1 x e σ => (∃ a1, y1 = (.go a1) ∧ x = .exit 0 ∧ Z5 e [] ∧ Hs σ []) ∨ (∃ r', y1 = (.ret r') ∧ x = .ret ∧ Ends CX Try.f27.results.toList (vb r') x e σ)) ⟨⟨rfl, rfl, rfl, rfl, trivial⟩, H⟩ ?_) ?_
 ·intro s1 e σ hI z h
  obtain ⟨he, H⟩ := hI
  obtain ⟨e, rfl⟩ := he.ex
  unfold Z02.s0 at h
  refine .then (.Z0 1 rfl H fun b3 σ H => (.int (m := s1) (m' := (l.length : Int)) (r := .bool (decide (s1 < (l.length : Int)))) rfl rfl rfl rfl rfl (.nila H fun H => (.then ?_))))
  refine .whether (v := (decide (s1 < (l.length : Int)))) rfl ?_ ?_ <;> intro hc1
  ·replace h := Z9 hc1 h
   refine .skip (.then (.inBlock (.then (.Z0 6 rfl H fun b4 σ H => (.move (v := (vi s1)) rfl rfl ?_)))))
   obtain ⟨x1, q1, h⟩ := bind_some h
   refine .Z0H (c := Span.cs) (u := x1) rfl rfl q1 rfl rfl rfl rfl (.Z2g (cs := [(.int .i64 x1.From), (.int .i64 x1.To)]) rfl rfl rfl rfl rfl rfl (.Z0p (cs := [(vi 0), (vi 0)]) H (by omega) (by omega) rfl rfl fun σ H => (.assign (v := (vi s1)) rfl rfl (.Z0e (off := 0) (cells' := [(vi x1.From), (vi x1.To)]) H 0 rfl rfl rfl rfl rfl rfl rfl rfl rfl nofun fun σ H => (.nila H fun H => ?_)))))
   refine .then (.Z3n 33 rfl (by kernel_rfl) H fun b5 σ H B5 => (.Z2 (off := 0) (fo := 0) H 0 rfl rfl rfl rfl rfl (fun _ => .inl ⟨B5 0 _ rfl _ rfl, nofun, (fun _ => by kernel_rfl)⟩) rfl (.ZR (off := 0) (v := (vi x1.From)) H 0 rfl rfl rfl rfl rfl (fun _ => .inl ⟨B5 0 _ rfl _ rfl, nofun, (fun _ => by kernel_rfl)⟩) rfl (.call (ys := [(vi x1.From)]) (r := (vb (ZW x1.From))) rfl (Z3X rfl) rfl (.not (b := (ZW x1.From)) rfl rfl ?_)))))
   refine .move (v := (vb (!(ZW x1.From)))) rfl rfl ?_
   refine .mid 5 (K1 := fun e σ => Z5 e [(21, (vb ((!(ZW x1.From)) || (!(ZW x1.To))))), (0, (vl Span.cs l)), (3, (vi s1)), (4, (.ptr (b4 + 3) 2 0)), (5, (vl Span.cs l)), (6, (vi (l.length : Int))), (7, (vi s1))] ∧ Has σ (b5 + 10) (b5 + 33) [.blk (b4 + 3) 65 [(vi x1.From), (vi x1.To)]]) rfl ?_ ?_
   ·refine .split rfl rfl ?_ ?_ <;> intro hc2
    ·skip
     refine .pass rfl rfl rfl (.pass rfl rfl rfl (.pass rfl rfl rfl (.pass rfl rfl rfl (.Zg (v := (vb true)) rfl rfl rfl (.nil ?_)))))
     exact ⟨⟨or_T hc2, rfl, rfl, rfl, rfl, rfl, rfl, trivial⟩, H.weak (by omega) (Nat.le_refl _)⟩
    ·skip
     refine .wanted rfl rfl (.Z2 (off := 0) (fo := 1) H 0 rfl rfl rfl rfl rfl (fun _ => .inl ⟨B5 0 _ rfl _ rfl, nofun, (fun _ => by kernel_rfl)⟩) rfl (.wanted rfl rfl (.ZR (off := 1) (v := (vi x1.To)) H 0 rfl rfl rfl rfl rfl (fun _ => .inl ⟨B5 0 _ rfl _ rfl, nofun, (fun _ => by kernel_rfl)⟩) rfl (.wanted rfl rfl (.call (ys := [(vi x1.To)]) (r := (vb (ZW x1.To))) rfl (Z3X rfl) rfl ?_)))))
     refine .wanted rfl rfl (.not (b := (ZW x1.To)) rfl rfl (.Zn (v := (vb (!(ZW x1.To)))) rfl rfl rfl (.nil ?_)))
     exact ⟨⟨or_F hc2, rfl, rfl, rfl, rfl, rfl, rfl, trivial⟩, H.weak (by omega) (Nat.le_refl _)⟩
   ·rintro e σ ⟨he, H⟩
    obtain ⟨e, rfl⟩ := he.ex
    refine .move (v := (vb ((!(ZW x1.From)) || (!(ZW x1.To))))) rfl rfl ?_
    refine .mid 6 (K1 := fun e σ => Z5 e [(28, (vb (((!(ZW x1.From)) || (!(ZW x1.To))) || (decide (x1.From > x1.To))))), (0, (vl Span.cs l)), (3, (vi s1)), (4, (.ptr (b4 + 3) 2 0)), (5, (vl Span.cs l)), (6, (vi (l.length : Int))), (7, (vi s1))] ∧ Has σ (b5 + 17) (b5 + 33) [.blk (b4 + 3) 65 [(vi x1.From), (vi x1.To)]]) rfl ?_ ?_
    ·refine .split rfl rfl ?_ ?_ <;> intro hc3
     ·skip
      refine .pass rfl rfl rfl (.pass rfl rfl rfl (.pass rfl rfl rfl (.pass rfl rfl rfl (.pass rfl rfl rfl (.Zg (v := (vb true)) rfl rfl rfl ?_)))))
      refine .nil ?_
      exact ⟨⟨or_T hc3, rfl, rfl, rfl, rfl, rfl, rfl, trivial⟩, H.weak (by omega) (Nat.le_refl _)⟩
     ·skip
      refine .wanted rfl rfl (.Z2 (off := 0) (fo := 0) H 0 rfl rfl rfl rfl rfl (fun _ => .inl ⟨B5 0 _ rfl _ rfl, nofun, (fun _ => by kernel_rfl)⟩) rfl (.wanted rfl rfl (.ZR (off := 0) (v := (vi x1.From)) H 0 rfl rfl rfl rfl rfl (fun _ => .inl ⟨B5 0 _ rfl _ rfl, nofun, (fun _ => by kernel_rfl)⟩) rfl (.wanted rfl rfl (.Z2 (off := 0) (fo := 1) H 0 rfl rfl rfl rfl rfl (fun _ => .inl ⟨B5 0 _ rfl _ rfl, nofun, (fun _ => by kernel_rfl)⟩) rfl ?_)))))
      refine .wanted rfl rfl (.ZR (off := 1) (v := (vi x1.To)) H 0 rfl rfl rfl rfl rfl (fun _ => .inl ⟨B5 0 _ rfl _ rfl, nofun, (fun _ => by kernel_rfl)⟩) rfl (.wanted rfl rfl (.int (m := x1.From) (m' := x1.To) (r := .bool (decide (x1.From > x1.To))) rfl rfl rfl rfl rfl (.Zn (v := (vb (decide (x1.From > x1.To)))) rfl rfl rfl (.nil ?_)))))
      exact ⟨⟨or_F hc3, rfl, rfl, rfl, rfl, rfl, rfl, trivial⟩, H.weak (by omega) (Nat.le_refl _)⟩
    ·rintro e σ ⟨he, H⟩
     obtain ⟨e, rfl⟩ := he.ex
     refine .move (v := (vb (((!(ZW x1.From)) || (!(ZW x1.To))) || (decide (x1.From > x1.To))))) rfl rfl ?_
     obtain ⟨y2, hj2, h⟩ := bind_some h
     refine .mid 15 (K1 := fun e σ => Z5 e [(44, (vb y2)), (0, (vl Span.cs l)), (5, (vl Span.cs l)), (6, (vi (l.length : Int))), (7, (vi s1))] ∧ Has σ (b5 + 33) (b5 + 33) []) rfl ?_ ?_
     ·refine .split rfl rfl ?_ ?_ <;> intro hc4
      ·replace h := Z9 hc4 hj2
       refine .pass rfl rfl rfl (.pass rfl rfl rfl (.pass rfl rfl rfl (.Z0v rfl rfl rfl (.Z0v rfl rfl rfl (.Z0v rfl rfl rfl ?_)))))
       refine .Z0v rfl rfl rfl (.Z0v rfl rfl rfl (.Z0v rfl rfl rfl (.Z0v rfl rfl rfl (.Z0v rfl rfl rfl (.Z0v rfl rfl rfl ?_)))))
       refine .Z0v rfl rfl rfl (.pass rfl rfl rfl (.Zg (v := (vb true)) rfl rfl rfl (.nil ?_)))
       replace h := sj h; subst h
       exact ⟨⟨rfl, rfl, rfl, rfl, rfl, trivial⟩, (H.erase 0).weak (by omega) (Nat.le_refl _)⟩
      ·replace h := Z6 hc4 hj2
       refine .wanted rfl rfl (.move (v := (vi s1)) rfl rfl (.wanted rfl rfl (.int (m := s1) (m' := 0) (r := .bool (decide (s1 > 0))) rfl rfl rfl rfl rfl (.wanted rfl rfl (.move (v := (vb (decide (s1 > 0)))) rfl rfl ?_)))))
       obtain ⟨y3, hj3, h⟩ := bind_some h
       refine .mid 11 (K1 := fun e σ => Z5 e [(43, (vb y3)), (0, (vl Span.cs l)), (5, (vl Span.cs l)), (6, (vi (l.length : Int))), (7, (vi s1)), (29, (vb false))] ∧ Has σ (b5 + 32) (b5 + 33) []) rfl ?_ ?_
       ·refine .split rfl rfl ?_ ?_ <;> intro hc5
        ·replace h := Z9 hc5 hj3
         refine .wanted rfl rfl (.Z2 (off := 0) (fo := 0) H 0 rfl rfl rfl rfl rfl (fun _ => .inl ⟨B5 0 _ rfl _ rfl, nofun, (fun _ => by kernel_rfl)⟩) rfl (.wanted rfl rfl (.ZR (off := 0) (v := (vi x1.From)) H 0 rfl rfl rfl rfl rfl (fun _ => .inl ⟨B5 0 _ rfl _ rfl, nofun, (fun _ => by kernel_rfl)⟩) rfl (.wanted rfl rfl (.move (v := (vl Span.cs l)) rfl rfl ?_)))))
         refine .wanted rfl rfl (.move (v := (vi s1)) rfl rfl (.wanted rfl rfl (.int (m := s1) (m' := 1) (r := .int .i64 (w64 (s1 - 1))) rfl rfl rfl rfl rfl (.wanted rfl rfl ?_))))
         obtain ⟨x2, q2, h⟩ := bind_some h
         refine .Z0H (c := Span.cs) (u := x2) rfl rfl q2 rfl rfl rfl rfl (.wanted rfl rfl (.Z1D rfl rfl rfl rfl (.wanted rfl rfl (.Z2M (u := (.int .i64 x2.To)) rfl rfl rfl rfl (.wanted rfl rfl ?_)))))
         refine .int (m := x2.To) (m' := 2) (r := .int .i64 (w64 (x2.To + 2))) rfl rfl rfl rfl rfl (.wanted rfl rfl (.int (m := x1.From) (m' := (w64 (x2.To + 2))) (r := .bool (decide (x1.From < (w64 (x2.To + 2))))) rfl rfl rfl rfl rfl (.wanted rfl rfl (.Zg (v := (vb (decide (x1.From < (w64 (x2.To + 2)))))) rfl rfl rfl (.nil ?_)))))
         replace h := sj h; subst h
         exact ⟨⟨rfl, rfl, rfl, rfl, rfl, rfl, trivial⟩, (H.erase 0).weak (by omega) (Nat.le_refl _)⟩
        ·replace h := Z6 hc5 hj3
         refine .pass rfl rfl rfl (.pass rfl rfl rfl (.pass rfl rfl rfl (.pass rfl rfl rfl (.pass rfl rfl rfl (.pass rfl rfl rfl ?_)))))
         refine .pass rfl rfl rfl (.pass rfl rfl rfl (.pass rfl rfl rfl (.pass rfl rfl rfl (.wanted rfl rfl (.Zn (v := (vb false)) rfl rfl rfl ?_)))))
         refine .nil ?_
         replace h := sj h; subst h
         exact ⟨⟨rfl, rfl, rfl, rfl, rfl, rfl, trivial⟩, (H.erase 0).weak (by omega) (Nat.le_refl _)⟩
       ·rintro e σ ⟨he, H⟩
        obtain ⟨e, rfl⟩ := he.ex
        refine .Zn (v := (vb y3)) rfl rfl rfl (.nil ?_)
        replace h := sj h; subst h
        exact ⟨⟨rfl, rfl, rfl, rfl, rfl, trivial⟩, H.weak (by omega) (Nat.le_refl _)⟩
     ·rintro e σ ⟨he, H⟩
      obtain ⟨e, rfl⟩ := he.ex
      refine .nila H fun H => ?_
      refine .whether (v := y2) rfl ?_ ?_ <;> intro hc6
      ·replace h := Z9 hc6 h
       refine .then (.Z0 1 rfl H fun b6 σ H => (.assign (v := (vb false)) rfl rfl (.nila H fun H => (.ret ?_))))
       replace h := sj h; subst h
       exact ⟨nofun, (.inr ⟨_, rfl, rfl, (Ends.H (xs := [(vb false)]) (.inr rfl) H (.tmp (v := (vb false)) rfl .nil) (.one (.c (.v _))))⟩)⟩
      ·replace h := Z6 hc6 h
       refine .skip (.Z0 2 rfl H fun b7 σ H => (.int (m := s1) (m' := 1) (r := .int .i64 (w64 (s1 + 1))) rfl rfl rfl rfl rfl (.move (v := (vi (w64 (s1 + 1)))) rfl rfl (.nila H fun H => ?_))))
       replace h := sj h; subst h
       exact ⟨rfl, ⟨rfl, rfl, rfl, rfl, trivial⟩, H⟩
  ·replace h := Z6 hc1 h
   refine .exit ?_
   replace h := sj h; subst h
   exact ⟨nofun, (.inl ⟨_, rfl, rfl, trivial, H⟩)⟩
 ·rintro x e σ (⟨a2, rfl, rfl, he, H⟩ | ⟨r', rfl, rfl, hE⟩)
  ·skip
   replace h := jgo h
   obtain ⟨e, rfl⟩ := he.ex
   refine .then (.Z0 1 rfl H fun b8 σ H => (.assign (v := (vb true)) rfl rfl (.nila H fun H => (.ret ?_))))
   replace h := sj h; subst h
   exact (Ends.H (xs := [(vb true)]) (.inr rfl) H (.tmp (v := (vb true)) rfl .nil) (.one (.c (.v _))))
  ·skip
   replace h := jret h
   replace h := sj h; subst h
   exact hE

theorem Z3q {i : Int} {r : Bool} (h : Zh i = r) : Fn CX 28 [(vi i)] (vb r) := by
 refine Fn.ends Try.func28 rfl rfl rfl rfl rfl rfl ?_
 have H : Hs (⟨0, fun _ => .none⟩ : Heap) [] := Has.nil (Nat.le_refl _)
 generalize (⟨0, fun _ => .none⟩ : Heap) = σ at H ⊢
 unfold Zh at h
 refine .then (.Z0 1 rfl H fun b1 σ H => (.assign (v := (vb false)) rfl rfl (.nila H fun H => (.then (.Z0 7 rfl H fun b2 σ H => ?_)))))
 refine .move (v := (vi i)) rfl rfl (.int (m := i) (m' := (-1099511627776)) (r := .bool (decide (i ≥ (-1099511627776)))) rfl rfl rfl rfl rfl (.move (v := (vb (decide (i ≥ (-1099511627776))))) rfl rfl ?_))
 refine .mid 3 (K1 := fun e σ => Z5 e [(8, (vb ((decide (i ≥ (-1099511627776))) && (decide (i ≤ 1099511627776)))))] ∧ Has σ (b2 + 6) (b2 + 7) []) rfl ?_ ?_
 ·refine .split rfl rfl ?_ ?_ <;> intro hc1
  ·skip
   refine .wanted rfl rfl (.move (v := (vi i)) rfl rfl (.wanted rfl rfl (.int (m := i) (m' := 1099511627776) (r := .bool (decide (i ≤ 1099511627776))) rfl rfl rfl rfl rfl (.Zg (v := (vb (decide (i ≤ 1099511627776)))) rfl rfl rfl (.nil ?_)))))
   exact ⟨⟨Z1f hc1, trivial⟩, H.weak (by omega) (Nat.le_refl _)⟩
  ·skip
   refine .pass rfl rfl rfl (.pass rfl rfl rfl (.Zn (v := (vb false)) rfl rfl rfl (.nil ?_)))
   exact ⟨⟨Z1e hc1, trivial⟩, H.weak (by omega) (Nat.le_refl _)⟩
 ·rintro e σ ⟨he, H⟩
  obtain ⟨e, rfl⟩ := he.ex
  refine .assign (v := (vb ((decide (i ≥ (-1099511627776))) && (decide (i ≤ 1099511627776))))) rfl rfl (.nila H fun H => (.ret ?_))
  subst h
  exact (Ends.H (xs := [(vb ((decide (i ≥ (-1099511627776))) && (decide (i ≤ 1099511627776))))]) (.inr rfl) H (.tmp (v := (vb ((decide (i ≥ (-1099511627776))) && (decide (i ≤ 1099511627776))))) rfl .nil) (.one (.c (.v _))))

theorem gran_shape_fn {f : Form} {r : Bool} (h : Zd f = some r) : Fn CX 17 [(.agg (vs (Form.cs f)))] (vb r) := by
 refine Fn.ends Try.func17 rfl rfl rfl rfl rfl rfl ?_
 have H : Hs (⟨0, fun _ => .none⟩ : Heap) [] := Has.nil (Nat.le_refl _)
 generalize (⟨0, fun _ => .none⟩ : Heap) = σ at H ⊢
 unfold Zd at h
 refine .then (.Z0 2 rfl H fun b1 σ H => (.boxH (cs := (vF f)) H (by omega) (by omega) rfl rfl rfl fun σ H => (.assign (v := (vb false)) rfl rfl (.nila H fun H => (.then ?_)))))
 refine .then (.Z0 25 rfl H fun b2 σ H => (.Z2 (off := 0) (fo := 1) H 0 rfl rfl rfl rfl rfl nofun rfl (.ZR (off := 1) (v := (vi f.Count)) H 0 rfl rfl rfl rfl rfl nofun rfl (.Z2 (off := 0) (fo := 2) H 0 rfl rfl rfl rfl rfl nofun rfl (.ZR (off := 2) (v := (vl (cL Span.cs) f.Core)) H 0 rfl rfl rfl rfl rfl nofun rfl ?_)))))
 refine .Z0T (c := (cL Span.cs)) (xs := f.Core) rfl rfl rfl (.int (m := f.Count) (m' := (f.Core.length : Int)) (r := .bool (f.Count != (f.Core.length : Int))) rfl rfl rfl rfl rfl (.move (v := (vb (f.Count != (f.Core.length : Int)))) rfl rfl ?_))
 refine .mid 8 (K1 := fun e σ => Z5 e [(21, (vb ((f.Count != (f.Core.length : Int)) || ((f.Count == 0) != (f.Period == 0))))), (1, (.ptr (b1 + 0) 4 0))] ∧ Has σ (b2 + 15) (b2 + 25) [.blk (b1 + 0) 25 (vF f)]) rfl ?_ ?_
 ·refine .split rfl rfl ?_ ?_ <;> intro hc1
  ·skip
   refine .pass rfl rfl rfl (.pass rfl rfl rfl (.pass rfl rfl rfl (.pass rfl rfl rfl (.pass rfl rfl rfl (.pass rfl rfl rfl ?_)))))
   refine .pass rfl rfl rfl (.Zg (v := (vb true)) rfl rfl rfl (.nil ?_))
   exact ⟨⟨or_T hc1, rfl, trivial⟩, H.weak (by omega) (Nat.le_refl _)⟩
  ·skip
   refine .wanted rfl rfl (.Z2 (off := 0) (fo := 1) H 0 rfl rfl rfl rfl rfl nofun rfl (.wanted rfl rfl (.ZR (off := 1) (v := (vi f.Count)) H 0 rfl rfl rfl rfl rfl nofun rfl (.wanted rfl rfl (.int (m := f.Count) (m' := 0) (r := .bool (f.Count == 0)) rfl rfl rfl rfl rfl ?_)))))
   refine .wanted rfl rfl (.Z2 (off := 0) (fo := 0) H 0 rfl rfl rfl rfl rfl nofun rfl (.wanted rfl rfl (.ZR (off := 0) (v := (vi f.Period)) H 0 rfl rfl rfl rfl rfl nofun rfl (.wanted rfl rfl (.int (m := f.Period) (m' := 0) (r := .bool (f.Period == 0)) rfl rfl rfl rfl rfl ?_)))))
   refine .wanted rfl rfl (.neB (b := (f.Count == 0)) (b' := (f.Period == 0)) rfl rfl rfl rfl (.Zn (v := (vb ((f.Count == 0) != (f.Period == 0)))) rfl rfl rfl (.nil ?_)))
   exact ⟨⟨or_F hc1, rfl, trivial⟩, H.weak (by omega) (Nat.le_refl _)⟩
 ·rintro e σ ⟨he, H⟩
  obtain ⟨e, rfl⟩ := he.ex
  refine .move (v := (vb ((f.Count != (f.Core.length : Int)) || ((f.Count == 0) != (f.Period == 0))))) rfl rfl ?_
  refine .mid 4 (K1 := fun e σ => Z5 e [(26, (vb (((f.Count != (f.Core.length : Int)) || ((f.Count == 0) != (f.Period == 0))) || (decide (f.Period < 0))))), (1, (.ptr (b1 + 0) 4 0))] ∧ Has σ (b2 + 20) (b2 + 25) [.blk (b1 + 0) 25 (vF f)]) rfl ?_ ?_
  ·refine .split rfl rfl ?_ ?_ <;> intro hc2
   ·skip
    refine .pass rfl rfl rfl (.pass rfl rfl rfl (.pass rfl rfl rfl (.Zg (v := (vb true)) rfl rfl rfl (.nil ?_))))
    exact ⟨⟨or_T hc2, rfl, trivial⟩, H.weak (by omega) (Nat.le_refl _)⟩
   ·skip
    refine .wanted rfl rfl (.Z2 (off := 0) (fo := 0) H 0 rfl rfl rfl rfl rfl nofun rfl (.wanted rfl rfl (.ZR (off := 0) (v := (vi f.Period)) H 0 rfl rfl rfl rfl rfl nofun rfl (.wanted rfl rfl (.int (m := f.Period) (m' := 0) (r := .bool (decide (f.Period < 0))) rfl rfl rfl rfl rfl ?_)))))
    refine .Zn (v := (vb (decide (f.Period < 0)))) rfl rfl rfl (.nil ?_)
    exact ⟨⟨or_F hc2, rfl, trivial⟩, H.weak (by omega) (Nat.le_refl _)⟩
  ·rintro e σ ⟨he, H⟩
   obtain ⟨e, rfl⟩ := he.ex
   refine .move (v := (vb (((f.Count != (f.Core.length : Int)) || ((f.Count == 0) != (f.Period == 0))) || (decide (f.Period < 0))))) rfl rfl ?_
   refine .mid 4 (K1 := fun e σ => Z5 e [(31, (vb ((((f.Count != (f.Core.length : Int)) || ((f.Count == 0) != (f.Period == 0))) || (decide (f.Period < 0))) || (decide (f.Period > 1099511627776))))), (1, (.ptr (b1 + 0) 4 0))] ∧ Has σ (b2 + 25) (b2 + 25) [.blk (b1 + 0) 25 (vF f)]) rfl ?_ ?_
   ·refine .split rfl rfl ?_ ?_ <;> intro hc3
    ·skip
     refine .pass rfl rfl rfl (.pass rfl rfl rfl (.pass rfl rfl rfl (.Zg (v := (vb true)) rfl rfl rfl (.nil ?_))))
     exact ⟨⟨or_T hc3, rfl, trivial⟩, H.weak (by omega) (Nat.le_refl _)⟩
    ·skip
     refine .wanted rfl rfl (.Z2 (off := 0) (fo := 0) H 0 rfl rfl rfl rfl rfl nofun rfl (.wanted rfl rfl (.ZR (off := 0) (v := (vi f.Period)) H 0 rfl rfl rfl rfl rfl nofun rfl (.wanted rfl rfl (.int (m := f.Period) (m' := 1099511627776) (r := .bool (decide (f.Period > 1099511627776))) rfl rfl rfl rfl rfl ?_)))))
     refine .Zn (v := (vb (decide (f.Period > 1099511627776)))) rfl rfl rfl (.nil ?_)
     exact ⟨⟨or_F hc3, rfl, trivial⟩, H.weak (by omega) (Nat.le_refl _)⟩
   ·rintro e σ ⟨he, H⟩
    obtain ⟨e, rfl⟩ := he.ex
    refine .nila H fun H => ?_
    refine .whether (v := ((((f.Count != (f.Core.length : Int)) || ((f.Count == 0) != (f.Period == 0))) || (decide (f.Period < 0))) || (decide (f.Period > 1099511627776)))) rfl ?_ ?_ <;> intro hc4
    ·replace h := Z9 hc4 h
     refine .then (.Z0 1 rfl H fun b3 σ H => (.assign (v := (vb false)) rfl rfl (.nila H fun H => (.ret ?_))))
     replace h := sj h; subst h
     exact (Ends.H (xs := [(vb false)]) (.inr rfl) H (.tmp (v := (vb false)) rfl .nil) (.one (.c (.v _))))
    ·replace h := Z6 hc4 h
     refine .skip (.then (.then (.Z0 4 rfl H fun b4 σ H => (.Z2 (off := 0) (fo := 2) H 0 rfl rfl rfl rfl rfl nofun rfl (.ZR (off := 2) (v := (vl (cL Span.cs) f.Core)) H 0 rfl rfl rfl rfl rfl nofun rfl ?_)))))
     refine .Z0T (c := (cL Span.cs)) (xs := f.Core) rfl rfl rfl (.move (v := (vi 0)) rfl rfl (.nila H fun H => (.inBlock ?_)))
     obtain ⟨y1, hj1, h⟩ := bind_some h
     obtain ⟨n1, hj1⟩ := Ze.1 hj1
     refine .mono (Runs.ZK hj1 (fun s1 e σ => Z5 e [(1, (.ptr (b1 + 0) 4 0)), (33, (vl (cL Span.cs) f.Core)), (34, (vi (f.Core.length : Int))), (35, (vi s1))] ∧ Hs σ [.blk (b1 + 0) 25 (vF f)]) (fun y1 x e σ => (∃ a1, y1 = (.go a1) ∧ x = .exit 0 ∧ Z5 e [(1, (.ptr (b1 + 0) 4 0))] ∧ Hs σ [.blk (b1 + 0) 25 (vF f)]) ∨ (∃ r', y1 = (.ret r') ∧ x = .ret ∧ Ends CX Try.f17.results.toList (vb r') x e σ)) ⟨⟨rfl, rfl, rfl, rfl, trivial⟩, H⟩ ?_) ?_
     ·intro s1 e σ hI z h
      obtain ⟨he, H⟩ := hI
      obtain ⟨e, rfl⟩ := he.ex
      unfold Zd.s0 at h
      refine .then (.Z0 1 rfl H fun b5 σ H => (.int (m := s1) (m' := (f.Core.length : Int)) (r := .bool (decide (s1 < (f.Core.length : Int)))) rfl rfl rfl rfl rfl (.nila H fun H => (.then ?_))))
      refine .whether (v := (decide (s1 < (f.Core.length : Int)))) rfl ?_ ?_ <;> intro hc5
      ·replace h := Z9 hc5 h
       refine .skip (.then (.inBlock (.then (.Z0 3 rfl H fun b6 σ H => ?_))))
       obtain ⟨x1, q1, h⟩ := bind_some h
       refine .Z0H (c := (cL Span.cs)) (u := x1) rfl rfl q1 rfl rfl rfl rfl (.Z2M (u := (.sl (x1.map Span.cs))) rfl rfl rfl rfl (.assign (v := (vl Span.cs x1)) rfl rfl (.nila H fun H => (.then (.Z0 3 rfl H fun b7 σ H => ?_)))))
       refine .move (v := (vl Span.cs x1)) rfl rfl ?_
       obtain ⟨x2, q2, h⟩ := bind_some h
       refine .call (ys := [(vl Span.cs x1)]) (r := (vb x2)) rfl (Z67 q2) rfl (.not (b := x2) rfl rfl (.nila H fun H => ?_))
       refine .whether (v := (!x2)) rfl ?_ ?_ <;> intro hc6
       ·replace h := Z9 hc6 h
        refine .then (.Z0 1 rfl H fun b8 σ H => (.assign (v := (vb false)) rfl rfl (.nila H fun H => (.ret ?_))))
        replace h := sj h; subst h
        exact ⟨nofun, (.inr ⟨_, rfl, rfl, (Ends.H (xs := [(vb false)]) (.inr rfl) H (.tmp (v := (vb false)) rfl .nil) (.one (.c (.v _))))⟩)⟩
       ·replace h := Z6 hc6 h
        refine .skip (.Z0 2 rfl H fun b9 σ H => (.int (m := s1) (m' := 1) (r := .int .i64 (w64 (s1 + 1))) rfl rfl rfl rfl rfl (.move (v := (vi (w64 (s1 + 1)))) rfl rfl (.nila H fun H => ?_))))
        replace h := sj h; subst h
        exact ⟨rfl, ⟨rfl, rfl, rfl, rfl, trivial⟩, H⟩
      ·replace h := Z6 hc5 h
       refine .exit ?_
       replace h := sj h; subst h
       exact ⟨nofun, (.inl ⟨_, rfl, rfl, ⟨rfl, trivial⟩, H⟩)⟩
     ·rintro x e σ (⟨a2, rfl, rfl, he, H⟩ | ⟨r', rfl, rfl, hE⟩)
      ·skip
       replace h := jgo h
       obtain ⟨e, rfl⟩ := he.ex
       refine .then (.then (.Z0 4 rfl H fun b10 σ H => (.Z2 (off := 0) (fo := 3) H 0 rfl rfl rfl rfl rfl nofun rfl (.ZR (off := 3) (v := (vl Granule.cs f.Odd)) H 0 rfl rfl rfl rfl rfl nofun rfl (.Z0T (c := Granule.cs) (xs := f.Odd) rfl rfl rfl ?_)))))
       refine .move (v := (vi 0)) rfl rfl (.nila H fun H => (.inBlock ?_))
       obtain ⟨y2, hj2, h⟩ := bind_some h
       obtain ⟨n2, hj2⟩ := Ze.1 hj2
       refine .mono (Runs.ZK hj2 (fun s2 e σ => Z5 e [(1, (.ptr (b1 + 0) 4 0)), (44, (vl Granule.cs f.Odd)), (45, (vi (f.Odd.length : Int))), (46, (vi s2))] ∧ Hs σ [.blk (b1 + 0) 25 (vF f)]) (fun y2 x e σ => (∃ a3, y2 = (.go a3) ∧ x = .exit 2 ∧ Z5 e [] ∧ Hs σ []) ∨ (∃ r', y2 = (.ret r') ∧ x = .ret ∧ Ends CX Try.f17.results.toList (vb r') x e σ)) ⟨⟨rfl, rfl, rfl, rfl, trivial⟩, H⟩ ?_) ?_
       ·intro s2 e σ hI z h
        obtain ⟨he, H⟩ := hI
        obtain ⟨e, rfl⟩ := he.ex
        unfold Zd.s1 at h
        refine .then (.Z0 1 rfl H fun b11 σ H => (.int (m := s2) (m' := (f.Odd.length : Int)) (r := .bool (decide (s2 < (f.Odd.length : Int)))) rfl rfl rfl rfl rfl (.nila H fun H => (.then ?_))))
        refine .whether (v := (decide (s2 < (f.Odd.length : Int)))) rfl ?_ ?_ <;> intro hc7
        ·replace h := Z9 hc7 h
         refine .skip (.then (.inBlock (.then (.Z0 6 rfl H fun b12 σ H => (.move (v := (vi s2)) rfl rfl ?_)))))
         obtain ⟨x3, q3, h⟩ := bind_some h
         refine .Z0H (c := Granule.cs) (u := x3) rfl rfl q3 rfl rfl rfl rfl (.Z2g (cs := [(.int .i64 x3.Index), (.sl (x3.Ticks.map Span.cs))]) rfl rfl rfl rfl rfl rfl (.Z0p (cs := [(vi 0), .nils]) H (by omega) (by omega) rfl rfl fun σ H => (.assign (v := (vi s2)) rfl rfl (.Z0e (off := 0) (cells' := [(vi x3.Index), (vl Span.cs x3.Ticks)]) H 0 rfl rfl rfl rfl rfl rfl rfl rfl rfl nofun fun σ H => (.nila H fun H => ?_)))))
         refine .then (.Z3n 26 rfl (by kernel_rfl) H fun b13 σ H B13 => (.Z2 (off := 0) (fo := 1) H 0 rfl rfl rfl rfl rfl (fun _ => .inl ⟨B13 0 _ rfl _ rfl, nofun, (fun _ => by kernel_rfl)⟩) rfl (.ZR (off := 1) (v := (vl Span.cs x3.Ticks)) H 0 rfl rfl rfl rfl rfl (fun _ => .inl ⟨B13 0 _ rfl _ rfl, nofun, (fun _ => by kernel_rfl)⟩) rfl ?_)))
         obtain ⟨x4, q4, h⟩ := bind_some h
         refine .call (ys := [(vl Span.cs x3.Ticks)]) (r := (vb x4)) rfl (Z67 q4) rfl (.not (b := x4) rfl rfl (.move (v := (vb (!x4))) rfl rfl ?_))
         refine .mid 5 (K1 := fun e σ => Z5 e [(60, (vb ((!x4) || (!(Zh x3.Index))))), (1, (.ptr (b1 + 0) 4 0)), (5, (vi s2)), (6, (.ptr (b12 + 3) 2 0)), (44, (vl Granule.cs f.Odd)), (45, (vi (f.Odd.length : Int))), (46, (vi s2))] ∧ Has σ (b13 + 10) (b13 + 26) [.blk (b12 + 3) 54 [(vi x3.Index), (vl Span.cs x3.Ticks)], .blk (b1 + 0) 25 (vF f)]) rfl ?_ ?_
         ·refine .split rfl rfl ?_ ?_ <;> intro hc8
          ·skip
           refine .pass rfl rfl rfl (.pass rfl rfl rfl (.pass rfl rfl rfl (.pass rfl rfl rfl (.Zg (v := (vb true)) rfl rfl rfl (.nil ?_)))))
           exact ⟨⟨or_T hc8, rfl, rfl, rfl, rfl, rfl, rfl, trivial⟩, H.weak (by omega) (Nat.le_refl _)⟩
          ·skip
           refine .wanted rfl rfl (.Z2 (off := 0) (fo := 0) H 0 rfl rfl rfl rfl rfl (fun _ => .inl ⟨B13 0 _ rfl _ rfl, nofun, (fun _ => by kernel_rfl)⟩) rfl (.wanted rfl rfl (.ZR (off := 0) (v := (vi x3.Index)) H 0 rfl rfl rfl rfl rfl (fun _ => .inl ⟨B13 0 _ rfl _ rfl, nofun, (fun _ => by kernel_rfl)⟩) rfl (.wanted rfl rfl (.call (ys := [(vi x3.Index)]) (r := (vb (Zh x3.Index))) rfl (Z3q rfl) rfl ?_)))))
           refine .wanted rfl rfl (.not (b := (Zh x3.Index)) rfl rfl (.Zn (v := (vb (!(Zh x3.Index)))) rfl rfl rfl (.nil ?_)))
           exact ⟨⟨or_F hc8, rfl, rfl, rfl, rfl, rfl, rfl, trivial⟩, H.weak (by omega) (Nat.le_refl _)⟩
         ·rintro e σ ⟨he, H⟩
          obtain ⟨e, rfl⟩ := he.ex
          refine .move (v := (vb ((!x4) || (!(Zh x3.Index))))) rfl rfl ?_
          obtain ⟨y3, hj3, h⟩ := bind_some h
          refine .mid 15 (K1 := fun e σ => Z5 e [(76, (vb y3)), (1, (.ptr (b1 + 0) 4 0)), (44, (vl Granule.cs f.Odd)), (45, (vi (f.Odd.length : Int))), (46, (vi s2))] ∧ Has σ (b13 + 26) (b13 + 26) [.blk (b1 + 0) 25 (vF f)]) rfl ?_ ?_
          ·refine .split rfl rfl ?_ ?_ <;> intro hc9
           ·replace h := Z9 hc9 hj3
            refine .pass rfl rfl rfl (.pass rfl rfl rfl (.pass rfl rfl rfl (.Z0v rfl rfl rfl (.Z0v rfl rfl rfl (.Z0v rfl rfl rfl ?_)))))
            refine .Z0v rfl rfl rfl (.Z0v rfl rfl rfl (.Z0v rfl rfl rfl (.Z0v rfl rfl rfl (.Z0v rfl rfl rfl (.Z0v rfl rfl rfl ?_)))))
            refine .Z0v rfl rfl rfl (.pass rfl rfl rfl (.Zg (v := (vb true)) rfl rfl rfl (.nil ?_)))
            replace h := sj h; subst h
            exact ⟨⟨rfl, rfl, rfl, rfl, rfl, trivial⟩, (H.erase 0).weak (by omega) (Nat.le_refl _)⟩
           ·replace h := Z6 hc9 hj3
            refine .wanted rfl rfl (.move (v := (vi s2)) rfl rfl (.wanted rfl rfl (.int (m := s2) (m' := 0) (r := .bool (decide (s2 > 0))) rfl rfl rfl rfl rfl (.wanted rfl rfl (.move (v := (vb (decide (s2 > 0)))) rfl rfl ?_)))))
            obtain ⟨y4, hj4, h⟩ := bind_some h
            refine .mid 11 (K1 := fun e σ => Z5 e [(75, (vb y4)), (1, (.ptr (b1 + 0) 4 0)), (44, (vl Granule.cs f.Odd)), (45, (vi (f.Odd.length : Int))), (46, (vi s2)), (61, (vb false))] ∧ Has σ (b13 + 25) (b13 + 26) [.blk (b1 + 0) 25 (vF f)]) rfl ?_ ?_
            ·refine .split rfl rfl ?_ ?_ <;> intro hc10
             ·replace h := Z9 hc10 hj4
              refine .wanted rfl rfl (.Z2 (off := 0) (fo := 0) H 0 rfl rfl rfl rfl rfl (fun _ => .inl ⟨B13 0 _ rfl _ rfl, nofun, (fun _ => by kernel_rfl)⟩) rfl (.wanted rfl rfl (.ZR (off := 0) (v := (vi x3.Index)) H 0 rfl rfl rfl rfl rfl (fun _ => .inl ⟨B13 0 _ rfl _ rfl, nofun, (fun _ => by kernel_rfl)⟩) rfl (.wanted rfl rfl (.Z2 (off := 0) (fo := 3) H 1 rfl rfl rfl rfl rfl (fun _ => .inl ⟨B13 1 _ rfl _ rfl, nofun, (fun _ => by kernel_rfl)⟩) rfl ?_)))))
              refine .wanted rfl rfl (.ZR (off := 3) (v := (vl Granule.cs f.Odd)) H 1 rfl rfl rfl rfl rfl (fun _ => .inl ⟨B13 1 _ rfl _ rfl, nofun, (fun _ => by kernel_rfl)⟩) rfl (.wanted rfl rfl (.move (v := (vi s2)) rfl rfl (.wanted rfl rfl (.int (m := s2) (m' := 1) (r := .int .i64 (w64 (s2 - 1))) rfl rfl rfl rfl rfl ?_)))))
              refine .wanted rfl rfl ?_
              obtain ⟨x5, q5, h⟩ := bind_some h
              refine .Z0H (c := Granule.cs) (u := x5) rfl rfl q5 rfl rfl rfl rfl (.wanted rfl rfl (.Z1D rfl rfl rfl rfl (.wanted rfl rfl (.Z2M (u := (.int .i64 x5.Index)) rfl rfl rfl rfl (.wanted rfl rfl ?_)))))
              refine .int (m := x3.Index) (m' := x5.Index) (r := .bool (decide (x3.Index ≤ x5.Index))) rfl rfl rfl rfl rfl (.wanted rfl rfl (.Zg (v := (vb (decide (x3.Index ≤ x5.Index)))) rfl rfl rfl (.nil ?_)))
              replace h := sj h; subst h
              exact ⟨⟨rfl, rfl, rfl, rfl, rfl, rfl, trivial⟩, (H.erase 0).weak (by omega) (Nat.le_refl _)⟩
             ·replace h := Z6 hc10 hj4
              refine .pass rfl rfl rfl (.pass rfl rfl rfl (.pass rfl rfl rfl (.pass rfl rfl rfl (.pass rfl rfl rfl (.pass rfl rfl rfl ?_)))))
              refine .pass rfl rfl rfl (.pass rfl rfl rfl (.pass rfl rfl rfl (.pass rfl rfl rfl (.wanted rfl rfl (.Zn (v := (vb false)) rfl rfl rfl ?_)))))
              refine .nil ?_
              replace h := sj h; subst h
              exact ⟨⟨rfl, rfl, rfl, rfl, rfl, rfl, trivial⟩, (H.erase 0).weak (by omega) (Nat.le_refl _)⟩
            ·rintro e σ ⟨he, H⟩
             obtain ⟨e, rfl⟩ := he.ex
             refine .Zn (v := (vb y4)) rfl rfl rfl (.nil ?_)
             replace h := sj h; subst h
             exact ⟨⟨rfl, rfl, rfl, rfl, rfl, trivial⟩, H.weak (by omega) (Nat.le_refl _)⟩
          ·rintro e σ ⟨he, H⟩
           obtain ⟨e, rfl⟩ := he.ex
           refine .nila H fun H => ?_
           refine .whether (v := y3) rfl ?_ ?_ <;> intro hc11
           ·replace h := Z9 hc11 h
            refine .then (.Z0 1 rfl H fun b14 σ H => (.assign (v := (vb false)) rfl rfl (.nila H fun H => (.ret ?_))))
            replace h := sj h; subst h
            exact ⟨nofun, (.inr ⟨_, rfl, rfl, (Ends.H (xs := [(vb false)]) (.inr rfl) H (.tmp (v := (vb false)) rfl .nil) (.one (.c (.v _))))⟩)⟩
           ·replace h := Z6 hc11 h
            refine .skip (.Z0 2 rfl H fun b15 σ H => (.int (m := s2) (m' := 1) (r := .int .i64 (w64 (s2 + 1))) rfl rfl rfl rfl rfl (.move (v := (vi (w64 (s2 + 1)))) rfl rfl (.nila H fun H => ?_))))
            replace h := sj h; subst h
            exact ⟨rfl, ⟨rfl, rfl, rfl, rfl, trivial⟩, H⟩
        ·replace h := Z6 hc7 h
         refine .exit ?_
         replace h := sj h; subst h
         exact ⟨nofun, (.inl ⟨_, rfl, rfl, trivial, (H.erase 0)⟩)⟩
       ·rintro x e σ (⟨a4, rfl, rfl, he, H⟩ | ⟨r', rfl, rfl, hE⟩)
        ·skip
         replace h := jgo h
         obtain ⟨e, rfl⟩ := he.ex
         refine .then (.Z0 1 rfl H fun b16 σ H => (.assign (v := (vb true)) rfl rfl (.nila H fun H => (.ret ?_))))
         replace h := sj h; subst h
         exact (Ends.H (xs := [(vb true)]) (.inr rfl) H (.tmp (v := (vb true)) rfl .nil) (.one (.c (.v _))))
        ·skip
         replace h := jret h
         replace h := sj h; subst h
         exact hE
      ·skip
       replace h := jret h
       replace h := sj h; subst h
       exact hE

theorem gran_turns_fn {f : Form} {r : Bool} (h : Z06 f = some r) : Fn CX 18 [(.agg (vs (Form.cs f)))] (vb r) := by
 refine Fn.ends Try.func18 rfl rfl rfl rfl rfl rfl ?_
 have H : Hs (⟨0, fun _ => .none⟩ : Heap) [] := Has.nil (Nat.le_refl _)
 generalize (⟨0, fun _ => .none⟩ : Heap) = σ at H ⊢
 unfold Z06 at h
 refine .then (.Z0 2 rfl H fun b1 σ H => (.boxH (cs := (vF f)) H (by omega) (by omega) rfl rfl rfl fun σ H => (.assign (v := (vb false)) rfl rfl (.nila H fun H => (.then ?_)))))
 refine .Z0 1 rfl H fun b2 σ H => (.assign (v := .nils) rfl rfl (.nila H fun H => (.then (.then (.Z0 4 rfl H fun b3 σ H => ?_)))))
 refine .Z2 (off := 0) (fo := 2) H 0 rfl rfl rfl rfl rfl nofun rfl (.ZR (off := 2) (v := (vl (cL Span.cs) f.Core)) H 0 rfl rfl rfl rfl rfl nofun rfl (.Z0T (c := (cL Span.cs)) (xs := f.Core) rfl rfl rfl (.move (v := (vi 0)) rfl rfl (.nila H fun H => (.inBlock ?_)))))
 replace H := H.pushNil 52 1 true
 obtain ⟨y1, hj1, h⟩ := bind_some h
 obtain ⟨n1, hj1⟩ := Ze.1 hj1
 refine .mono (Runs.ZK hj1 (fun s2 e σ => ∃ (w3 : PV), Z5 e [(1, (.ptr (b1 + 0) 4 0)), (3, w3), (11, (vl (cL Span.cs) f.Core)), (12, (vi (f.Core.length : Int))), (13, (vi s2.1))] ∧ Hs σ [.sl w3 52 1 (s2.2.map (cL Span.cs)) true, .blk (b1 + 0) 25 (vF f)]) (fun y1 x e σ => ∃ (w4 : PV), x = .exit 0 ∧ Z5 e [(1, (.ptr (b1 + 0) 4 0)), (3, w4)] ∧ Hs σ [.sl w4 52 1 (y1.map (cL Span.cs)) true, .blk (b1 + 0) 25 (vF f)]) ⟨.nils, ⟨rfl, rfl, rfl, rfl, rfl, trivial⟩, H⟩ ?_) ?_
 ·intro s2 e σ hI z h
  obtain ⟨w3, he, H⟩ := hI
  obtain ⟨e, rfl⟩ := he.ex
  unfold Z06.s0 at h
  refine .then (.Z0 1 rfl H fun b4 σ H => (.int (m := s2.1) (m' := (f.Core.length : Int)) (r := .bool (decide (s2.1 < (f.Core.length : Int)))) rfl rfl rfl rfl rfl (.nila H fun H => (.then ?_))))
  refine .whether (v := (decide (s2.1 < (f.Core.length : Int)))) rfl ?_ ?_ <;> intro hc1
  ·replace h := Z9 hc1 h
   refine .skip (.then ?_)
   obtain ⟨y2, hj2, h⟩ := bind_some h
   refine .mono (Q := fun x e σ => ∃ (w5 : PV), x = .normal ∧ Z5 e [(1, (.ptr (b1 + 0) 4 0)), (3, w5), (11, (vl (cL Span.cs) f.Core)), (12, (vi (f.Core.length : Int))), (13, (vi s2.1))] ∧ Hs σ [.sl w5 52 1 (y2.map (cL Span.cs)) true, .blk (b1 + 0) 25 (vF f)]) ?_ ?_
   ·replace h := hj2
    refine .inBlock ?_
    obtain ⟨y3, hj3, h⟩ := bind_some h
    refine .mono (Q := fun x e σ => ∃ (w6 : PV), x = .normal ∧ Z5 e [(1, (.ptr (b1 + 0) 4 0)), (3, w6), (11, (vl (cL Span.cs) f.Core)), (12, (vi (f.Core.length : Int))), (13, (vi s2.1))] ∧ Hs σ [.sl w6 52 1 (y3.map (cL Span.cs)) true, .blk (b1 + 0) 25 (vF f)]) ?_ ?_
    ·replace h := hj3
     refine .then (.Z0 3 rfl H fun b5 σ H => ?_)
     obtain ⟨x1, q1, h⟩ := bind_some h
     refine .Z0H (c := (cL Span.cs)) (u := x1) rfl rfl q1 rfl rfl rfl rfl (.Z2M (u := (.sl (x1.map Span.cs))) rfl rfl rfl rfl (.assign (v := (vl Span.cs x1)) rfl rfl (.nila H fun H => (.then (.Z0 3 rfl H fun b6 σ H => ?_)))))
     refine .move (v := (vl Span.cs x1)) rfl rfl (.Z0T (c := Span.cs) (xs := x1) rfl rfl rfl (.int (m := (x1.length : Int)) (m' := 0) (r := .bool (decide ((x1.length : Int) > 0))) rfl rfl rfl rfl rfl (.nila H fun H => ?_)))
     refine .whether (v := (decide ((x1.length : Int) > 0))) rfl ?_ ?_ <;> intro hc2
     ·replace h := Z9 hc2 h
      refine .Z0 5 rfl H fun b7 σ H => (.move (v := w3) rfl rfl (.move (v := (vl Span.cs x1)) rfl rfl (.Z3K (sz := 1) ([x1].map (cL Span.cs)) H (by omega) (by omega) rfl rfl rfl rfl rfl rfl rfl rfl rfl fun σ H => ?_)))
      obtain ⟨x2, q2, h⟩ := bind_some h
      refine .appendSt (c := (cL Span.cs)) (v := w3) (w := (.buf (b7 + 2) 1 1)) (xs := s2.2) (ys := [x1]) H (by omega) (by omega) 1 rfl rfl rfl (.s 0 rfl) q2 rfl rfl rfl rfl rfl nofun rfl fun w7 σ H => (.assign (v := w7) rfl rfl (.nila H fun H => ?_))
      replace h := sj h; subst h
      exact ⟨w7, rfl, ⟨rfl, rfl, rfl, rfl, rfl, trivial⟩, (H.erase 0)⟩
     ·replace h := Z6 hc2 h
      refine .skip ?_
      replace h := sj h; subst h
      exact ⟨w3, rfl, ⟨rfl, rfl, rfl, rfl, rfl, trivial⟩, H⟩
    ·rintro x e σ ⟨w8, rfl, he, H⟩
     obtain ⟨e, rfl⟩ := he.ex
     replace h := sj h; subst h
     exact ⟨w8, rfl, ⟨rfl, rfl, rfl, rfl, rfl, trivial⟩, H⟩
   ·rintro x e σ ⟨w9, rfl, he, H⟩
    obtain ⟨e, rfl⟩ := he.ex
    refine .Z0 2 rfl H fun b8 σ H => (.int (m := s2.1) (m' := 1) (r := .int .i64 (w64 (s2.1 + 1))) rfl rfl rfl rfl rfl (.move (v := (vi (w64 (s2.1 + 1)))) rfl rfl (.nila H fun H => ?_)))
    replace h := sj h; subst h
    exact ⟨rfl, w9, ⟨rfl, rfl, rfl, rfl, rfl, trivial⟩, H⟩
  ·replace h := Z6 hc1 h
   refine .exit ?_
   replace h := sj h; subst h
   exact ⟨nofun, ⟨w3, rfl, ⟨rfl, rfl, trivial⟩, H⟩⟩
 ·rintro x e σ ⟨w10, rfl, he, H⟩
  obtain ⟨e, rfl⟩ := he.ex
  refine .then (.then (.Z0 3 rfl H fun b9 σ H => (.move (v := w10) rfl rfl (.lenSt (c := (cL Span.cs)) (xs := y1) H 0 rfl rfl rfl nofun rfl (.move (v := (vi 0)) rfl rfl ?_)))))
  refine .nila H fun H => (.inBlock ?_)
  obtain ⟨y4, hj4, h⟩ := bind_some h
  obtain ⟨n2, hj4⟩ := Ze.1 hj4
  refine .mono (Runs.ZK hj4 (fun s3 e σ => Z5 e [(1, (.ptr (b1 + 0) 4 0)), (3, w10), (25, w10), (26, (vi (y1.length : Int))), (27, (vi s3))] ∧ Hs σ [.sl w10 52 1 (y1.map (cL Span.cs)) true, .blk (b1 + 0) 25 (vF f)]) (fun y4 x e σ => (∃ a1, y4 = (.go a1) ∧ x = .exit 2 ∧ Z5 e [] ∧ Hs σ []) ∨ (∃ r', y4 = (.ret r') ∧ x = .ret ∧ Ends CX Try.f18.results.toList (vb r') x e σ)) ⟨⟨rfl, rfl, rfl, rfl, rfl, trivial⟩, H⟩ ?_) ?_
  ·intro s3 e σ hI z h
   obtain ⟨he, H⟩ := hI
   obtain ⟨e, rfl⟩ := he.ex
   unfold Z06.s1 at h
   refine .then (.Z0 1 rfl H fun b10 σ H => (.int (m := s3) (m' := (y1.length : Int)) (r := .bool (decide (s3 < (y1.length : Int)))) rfl rfl rfl rfl rfl (.nila H fun H => (.then ?_))))
   refine .whether (v := (decide (s3 < (y1.length : Int)))) rfl ?_ ?_ <;> intro hc3
   ·replace h := Z9 hc3 h
    refine .skip (.then ?_)
    obtain ⟨y5, hj5, h⟩ := bind_some h
    refine .mono (Q := fun x e σ => (∃ a2, y5 = (.go a2) ∧ x = .normal ∧ Z5 e [(1, (.ptr (b1 + 0) 4 0)), (3, w10), (25, w10), (26, (vi (y1.length : Int))), (27, (vi s3))] ∧ Hs σ [.sl w10 52 1 (y1.map (cL Span.cs)) true, .blk (b1 + 0) 25 (vF f)]) ∨ (∃ r', y5 = (.ret r') ∧ x = .ret ∧ Ends CX Try.f18.results.toList (vb r') x e σ)) ?_ ?_
    ·replace h := hj5
     refine .inBlock ?_
     obtain ⟨y6, hj6, h⟩ := bind_some h
     refine .mono (Q := fun x e σ => (∃ a3, y6 = (.go a3) ∧ x = .normal ∧ Z5 e [(1, (.ptr (b1 + 0) 4 0)), (3, w10), (25, w10), (26, (vi (y1.length : Int))), (27, (vi s3))] ∧ Hs σ [.sl w10 52 1 (y1.map (cL Span.cs)) true, .blk (b1 + 0) 25 (vF f)]) ∨ (∃ r', y6 = (.ret r') ∧ x = .ret ∧ Ends CX Try.f18.results.toList (vb r') x e σ)) ?_ ?_
     ·replace h := hj6
      refine .then (.Z0 5 rfl H fun b11 σ H => (.move (v := (vi s3)) rfl rfl ?_))
      obtain ⟨x3, q3, h⟩ := bind_some h
      refine .indexS H 0 rfl rfl rfl (at?_map q3) rfl rfl nofun rfl ?_; intro id1 hv1
      refine .loadS (id := id1) (j := 0) (w := (.sl (x3.map Span.cs))) H 0 rfl hv1 (by simp) (at?_map q3) rfl (by simp) rfl rfl rfl nofun rfl ?_
      refine .assign (v := (vi s3)) rfl rfl (.assign (v := (vl Span.cs x3)) rfl rfl (.nila H fun H => (.then (.Z0 10 rfl H fun b12 σ H => (.move (v := w10) rfl rfl ?_)))))
      refine .move (v := (vi s3)) rfl rfl (.int (m := s3) (m' := 1) (r := .int .i64 (w64 (s3 + 1))) rfl rfl rfl rfl rfl (.move (v := w10) rfl rfl (.lenSt (c := (cL Span.cs)) (xs := y1) H 0 rfl rfl rfl nofun rfl ?_)))
      obtain ⟨u1, q4, h⟩ := bind_some h
      refine .rem (m := (w64 (s3 + 1))) (m' := (y1.length : Int)) rfl rfl (nz_ne q4) rfl ?_
      obtain ⟨x4, q5, h⟩ := bind_some h
      refine .indexS H 0 rfl rfl rfl (at?_map q5) rfl rfl nofun rfl ?_; intro id2 hv2
      refine .loadS (id := id2) (j := 0) (w := (.sl (x4.map Span.cs))) H 0 rfl hv2 (by simp) (at?_map q5) rfl (by simp) rfl rfl rfl nofun rfl ?_
      refine .assign (v := (vl Span.cs x4)) rfl rfl (.assign (v := (vi 0)) rfl rfl (.nila H fun H => (.then ?_)))
      obtain ⟨y7, hj7, h⟩ := bind_some h
      refine .mono (Q := fun x e σ => x = .normal ∧ Z5 e [(1, (.ptr (b1 + 0) 4 0)), (3, w10), (7, (vl Span.cs x3)), (8, (vl Span.cs x4)), (9, (vi y7)), (25, w10), (26, (vi (y1.length : Int))), (27, (vi s3))] ∧ Hs σ [.sl w10 52 1 (y1.map (cL Span.cs)) true, .blk (b1 + 0) 25 (vF f)]) ?_ ?_
      ·replace h := hj7
       refine .then (.Z0 5 rfl H fun b13 σ H => (.move (v := (vi s3)) rfl rfl (.int (m := s3) (m' := 1) (r := .int .i64 (w64 (s3 + 1))) rfl rfl rfl rfl rfl (.move (v := w10) rfl rfl (.lenSt (c := (cL Span.cs)) (xs := y1) H 0 rfl rfl rfl nofun rfl ?_)))))
       refine .int (m := (w64 (s3 + 1))) (m' := (y1.length : Int)) (r := .bool ((w64 (s3 + 1)) == (y1.length : Int))) rfl rfl rfl rfl rfl (.nila H fun H => ?_)
       refine .whether (v := ((w64 (s3 + 1)) == (y1.length : Int))) rfl ?_ ?_ <;> intro hc4
       ·replace h := Z9 hc4 h
        refine .Z0 3 rfl H fun b14 σ H => (.Z2 (off := 0) (fo := 0) H 1 rfl rfl rfl rfl rfl nofun rfl (.ZR (off := 0) (v := (vi f.Period)) H 1 rfl rfl rfl rfl rfl nofun rfl (.assign (v := (vi f.Period)) rfl rfl (.nila H fun H => ?_))))
        replace h := sj h; subst h
        exact ⟨rfl, ⟨rfl, rfl, rfl, rfl, rfl, rfl, rfl, rfl, trivial⟩, H⟩
       ·replace h := Z6 hc4 h
        refine .skip ?_
        replace h := sj h; subst h
        exact ⟨rfl, ⟨rfl, rfl, rfl, rfl, rfl, rfl, rfl, rfl, trivial⟩, H⟩
      ·rintro x e σ ⟨rfl, he, H⟩
       obtain ⟨e, rfl⟩ := he.ex
       refine .then (.Z3n 14 rfl (by kernel_rfl) H fun b15 σ H B15 => (.move (v := (vl Span.cs x3)) rfl rfl (.move (v := (vl Span.cs x3)) rfl rfl (.Z0T (c := Span.cs) (xs := x3) rfl rfl rfl (.int (m := (x3.length : Int)) (m' := 1) (r := .int .i64 (w64 ((x3.length : Int) - 1))) rfl rfl rfl rfl rfl ?_)))))
       obtain ⟨x5, q6, h⟩ := bind_some h
       refine .Z0H (c := Span.cs) (u := x5) rfl rfl q6 rfl rfl rfl rfl (.Z1D rfl rfl rfl rfl (.Z2M (u := (.int .i64 x5.To)) rfl rfl rfl rfl (.move (v := (vl Span.cs x4)) rfl rfl ?_)))
       obtain ⟨x6, q7, h⟩ := bind_some h
       refine .Z0H (c := Span.cs) (u := x6) rfl rfl q7 rfl rfl rfl rfl (.Z1D rfl rfl rfl rfl (.Z2M (u := (.int .i64 x6.From)) rfl rfl rfl rfl (.move (v := (vi y7)) rfl rfl (.int (m := x6.From) (m' := y7) (r := .int .i64 (w64 (x6.From + y7))) rfl rfl rfl rfl rfl (.int (m := x5.To) (m' := (w64 (x6.From + y7))) (r := .bool (decide (x5.To ≥ (w64 (x6.From + y7))))) rfl rfl rfl rfl rfl ?_)))))
       refine .nila H fun H => ?_
       refine .whether (v := (decide (x5.To ≥ (w64 (x6.From + y7))))) rfl ?_ ?_ <;> intro hc5
       ·replace h := Z9 hc5 h
        refine .then (.Z0 1 rfl H fun b16 σ H => (.assign (v := (vb false)) rfl rfl (.nila H fun H => (.ret ?_))))
        replace h := sj h; subst h
        exact (.inr ⟨_, rfl, rfl, (Ends.H (xs := [(vb false)]) (.inr rfl) H (.tmp (v := (vb false)) rfl .nil) (.one (.c (.v _))))⟩)
       ·replace h := Z6 hc5 h
        refine .skip ?_
        replace h := sj h; subst h
        exact (.inl ⟨_, rfl, rfl, ⟨rfl, rfl, rfl, rfl, rfl, trivial⟩, H⟩)
     ·rintro x e σ (⟨a4, rfl, rfl, he, H⟩ | ⟨r', rfl, rfl, hE⟩)
      ·skip
       replace h := jgo h
       obtain ⟨e, rfl⟩ := he.ex
       replace h := sj h; subst h
       exact (.inl ⟨_, rfl, rfl, ⟨rfl, rfl, rfl, rfl, rfl, trivial⟩, H⟩)
      ·skip
       replace h := jret h
       replace h := sj h; subst h
       exact (.inr ⟨_, rfl, rfl, hE⟩)
    ·rintro x e σ (⟨a5, rfl, rfl, he, H⟩ | ⟨r', rfl, rfl, hE⟩)
     ·skip
      replace h := jgo h
      obtain ⟨e, rfl⟩ := he.ex
      refine .Z0 2 rfl H fun b17 σ H => (.int (m := s3) (m' := 1) (r := .int .i64 (w64 (s3 + 1))) rfl rfl rfl rfl rfl (.move (v := (vi (w64 (s3 + 1)))) rfl rfl (.nila H fun H => ?_)))
      replace h := sj h; subst h
      exact ⟨rfl, ⟨rfl, rfl, rfl, rfl, rfl, trivial⟩, H⟩
     ·skip
      replace h := jret h
      replace h := sj h; subst h
      exact ⟨nofun, (.inr ⟨_, rfl, rfl, hE⟩)⟩
   ·replace h := Z6 hc3 h
    refine .exit ?_
    replace h := sj h; subst h
    exact ⟨nofun, (.inl ⟨_, rfl, rfl, trivial, ((H.erase 1).erase 0)⟩)⟩
  ·rintro x e σ (⟨a6, rfl, rfl, he, H⟩ | ⟨r', rfl, rfl, hE⟩)
   ·skip
    replace h := jgo h
    obtain ⟨e, rfl⟩ := he.ex
    refine .then (.Z0 1 rfl H fun b18 σ H => (.assign (v := (vb true)) rfl rfl (.nila H fun H => (.ret ?_))))
    replace h := sj h; subst h
    exact (Ends.H (xs := [(vb true)]) (.inr rfl) H (.tmp (v := (vb true)) rfl .nil) (.one (.c (.v _))))
   ·skip
    replace h := jret h
    replace h := sj h; subst h
    exact hE

theorem Z1N {x' : (List Granule)} {target : Int} {cmp : Granule → Int → Option Int} {C : List Res} {cv0 : PV} (hs0 : cv0.still = true) (hp0 : cv0.pure = true → C = []) (hf0 : ∀ z0 z1 y, cmp z0 z1 = some y → CloH CX cv0 [(.agg (vs (Granule.cs z0))), (vi z1)] (vi y) C) {r : Int × Bool} (h : Z4 x' target cmp = some r) : FnH CX 66 [(vl Granule.cs x'), (vi target), cv0] (.tup [(vi r.1), (vb r.2)]) C := by
 refine FnH.of Try.func66 rfl rfl rfl rfl (Z2O rfl (Z2O rfl (Z2O hs0 all_nil))) rfl (fun h => hp0 (Z2y h 2 rfl)) ?_
 intro σ L hC H
 unfold Z4 at h
 refine .then (.Z0 2 rfl H fun b1 σ H => (.assign (v := (vi 0)) rfl rfl (.assign (v := (vb false)) rfl rfl (.nila H fun H => (.then ?_)))))
 refine .Z0 3 rfl H fun b2 σ H => (.move (v := (vl Granule.cs x')) rfl rfl (.Z0T (c := Granule.cs) (xs := x') rfl rfl rfl (.assign (v := (vi (x'.length : Int))) rfl rfl (.nila H fun H => (.then ?_)))))
 refine .Z0 3 rfl H fun b3 σ H => (.move (v := (vi (x'.length : Int))) rfl rfl (.assign (v := (vi 0)) rfl rfl (.assign (v := (vi (x'.length : Int))) rfl rfl (.nila H fun H => (.then ?_)))))
 refine .inBlock ?_
 obtain ⟨y1, hj1, h⟩ := bind_some h
 obtain ⟨n1, hj1⟩ := Ze.1 hj1
 refine .mono (Runs.ZK hj1 (fun s1 e σ => Z5 e [(0, (vl Granule.cs x')), (1, (vi target)), (2, cv0), (8, (vi (x'.length : Int))), (9, (vi s1.1)), (10, (vi s1.2))] ∧ Hs σ (L)) (fun y1 x e σ => x = .exit 0 ∧ Z5 e [(0, (vl Granule.cs x')), (1, (vi target)), (2, cv0), (8, (vi (x'.length : Int))), (9, (vi y1))] ∧ Hs σ (L)) ⟨⟨rfl, rfl, rfl, rfl, rfl, rfl, trivial⟩, H⟩ ?_) ?_
 ·intro s1 e σ hI z h
  obtain ⟨he, H⟩ := hI
  obtain ⟨e, rfl⟩ := he.ex
  unfold Z4.s0 at h
  refine .then (.then (.Z0 3 rfl H fun b4 σ H => (.move (v := (vi s1.1)) rfl rfl (.move (v := (vi s1.2)) rfl rfl (.int (m := s1.1) (m' := s1.2) (r := .bool (decide (s1.1 < s1.2))) rfl rfl rfl rfl rfl ?_)))))
  refine .nila H fun H => ?_
  refine .whether (v := (decide (s1.1 < s1.2))) rfl ?_ ?_ <;> intro hc1
  ·replace h := Z9 hc1 h
   refine .skip (.inBlock ?_)
   obtain ⟨y2, hj2, h⟩ := bind_some h
   refine .mono (Q := fun x e σ => x = .normal ∧ Z5 e [(0, (vl Granule.cs x')), (1, (vi target)), (2, cv0), (8, (vi (x'.length : Int))), (9, (vi y2.1)), (10, (vi y2.2))] ∧ Hs σ (L)) ?_ ?_
   ·replace h := hj2
    refine .then (.Z0 7 rfl H fun b5 σ H => (.move (v := (vi s1.1)) rfl rfl (.move (v := (vi s1.2)) rfl rfl (.int (m := s1.1) (m' := s1.2) (r := .int .i64 (w64 (s1.1 + s1.2))) rfl rfl rfl rfl rfl (.conv (m := (w64 (s1.1 + s1.2))) rfl rfl rfl rfl ?_)))))
    refine .shr (m := (IntKind.u64.wrap (w64 (s1.1 + s1.2)))) (m' := 1) rfl rfl (by decide) rfl (.conv (m := ((IntKind.u64.wrap (w64 (s1.1 + s1.2))).fdiv (2 ^ 1))) rfl rfl rfl rfl (.assign (v := (vi (w64 ((IntKind.u64.wrap (w64 (s1.1 + s1.2))).fdiv (2 ^ 1))))) rfl rfl (.nila H fun H => (.then (.Z0 8 rfl H fun b6 σ H => ?_)))))
    refine .move (v := cv0) rfl rfl (.move (v := (vl Granule.cs x')) rfl rfl (.move (v := (vi (w64 ((IntKind.u64.wrap (w64 (s1.1 + s1.2))).fdiv (2 ^ 1))))) rfl rfl ?_))
    obtain ⟨x1, q1, h⟩ := bind_some h
    refine .Z0H (c := Granule.cs) (u := x1) rfl rfl q1 rfl rfl rfl rfl (.Z2g (cs := [(.int .i64 x1.Index), (.sl (x1.Ticks.map Span.cs))]) rfl rfl rfl rfl rfl rfl (.move (v := (vi target)) rfl rfl ?_))
    obtain ⟨x2, q2, h⟩ := bind_some h
    refine .callV (cv := cv0) (ys := [(.agg (vs (Granule.cs x1))), (vi target)]) (r := (vi x2)) H rfl rfl (hf0 x1 target _ q2) hC nofun rfl fun σ H => (.int (m := x2) (m' := 0) (r := .bool (decide (x2 < 0))) rfl rfl rfl rfl rfl (.nila H fun H => ?_))
    refine .whether (v := (decide (x2 < 0))) rfl ?_ ?_ <;> intro hc2
    ·replace h := Z9 hc2 h
     refine .Z0 3 rfl H fun b7 σ H => (.move (v := (vi (w64 ((IntKind.u64.wrap (w64 (s1.1 + s1.2))).fdiv (2 ^ 1))))) rfl rfl (.int (m := (w64 ((IntKind.u64.wrap (w64 (s1.1 + s1.2))).fdiv (2 ^ 1)))) (m' := 1) (r := .int .i64 (w64 ((w64 ((IntKind.u64.wrap (w64 (s1.1 + s1.2))).fdiv (2 ^ 1))) + 1))) rfl rfl rfl rfl rfl (.assign (v := (vi (w64 ((w64 ((IntKind.u64.wrap (w64 (s1.1 + s1.2))).fdiv (2 ^ 1))) + 1)))) rfl rfl (.nila H fun H => ?_))))
     replace h := sj h; subst h
     exact ⟨rfl, ⟨rfl, rfl, rfl, rfl, rfl, rfl, trivial⟩, H⟩
    ·replace h := Z6 hc2 h
     refine .Z0 2 rfl H fun b8 σ H => (.move (v := (vi (w64 ((IntKind.u64.wrap (w64 (s1.1 + s1.2))).fdiv (2 ^ 1))))) rfl rfl (.assign (v := (vi (w64 ((IntKind.u64.wrap (w64 (s1.1 + s1.2))).fdiv (2 ^ 1))))) rfl rfl (.nila H fun H => ?_)))
     replace h := sj h; subst h
     exact ⟨rfl, ⟨rfl, rfl, rfl, rfl, rfl, rfl, trivial⟩, H⟩
   ·rintro x e σ ⟨rfl, he, H⟩
    obtain ⟨e, rfl⟩ := he.ex
    replace h := sj h; subst h
    exact ⟨rfl, ⟨rfl, rfl, rfl, rfl, rfl, rfl, trivial⟩, H⟩
  ·replace h := Z6 hc1 h
   refine .exit ?_
   replace h := sj h; subst h
   exact ⟨nofun, ⟨rfl, ⟨rfl, rfl, rfl, rfl, rfl, trivial⟩, H⟩⟩
 ·rintro x e σ ⟨rfl, he, H⟩
  obtain ⟨e, rfl⟩ := he.ex
  refine .then (.Z0 16 rfl H fun b9 σ H => (.move (v := (vi y1)) rfl rfl (.move (v := (vi y1)) rfl rfl (.move (v := (vi (x'.length : Int))) rfl rfl (.int (m := y1) (m' := (x'.length : Int)) (r := .bool (decide (y1 < (x'.length : Int)))) rfl rfl rfl rfl rfl ?_)))))
  refine .move (v := (vb (decide (y1 < (x'.length : Int))))) rfl rfl ?_
  obtain ⟨y3, hj3, h⟩ := bind_some h
  refine .mid 9 (K1 := fun e σ => Z5 e [(48, (vb y3)), (35, (vi y1))] ∧ Has σ (b9 + 14) (b9 + 16) (L)) rfl ?_ ?_
  ·refine .split rfl rfl ?_ ?_ <;> intro hc3
   ·replace h := Z9 hc3 hj3
    refine .wanted rfl rfl (.move (v := cv0) rfl rfl (.wanted rfl rfl (.move (v := (vl Granule.cs x')) rfl rfl (.wanted rfl rfl (.move (v := (vi y1)) rfl rfl ?_)))))
    refine .wanted rfl rfl ?_
    obtain ⟨x3, q3, h⟩ := bind_some h
    refine .Z0H (c := Granule.cs) (u := x3) rfl rfl q3 rfl rfl rfl rfl (.wanted rfl rfl (.Z2g (cs := [(.int .i64 x3.Index), (.sl (x3.Ticks.map Span.cs))]) rfl rfl rfl rfl rfl rfl (.wanted rfl rfl (.move (v := (vi target)) rfl rfl (.wanted rfl rfl ?_)))))
    obtain ⟨x4, q4, h⟩ := bind_some h
    refine .callV (cv := cv0) (ys := [(.agg (vs (Granule.cs x3))), (vi target)]) (r := (vi x4)) H rfl rfl (hf0 x3 target _ q4) hC nofun rfl fun σ H => (.wanted rfl rfl (.int (m := x4) (m' := 0) (r := .bool (x4 == 0)) rfl rfl rfl rfl rfl (.Zg (v := (vb (x4 == 0))) rfl rfl rfl (.nil ?_))))
    replace h := sj h; subst h
    exact ⟨⟨rfl, rfl, trivial⟩, H.weak (by omega) (Nat.le_refl _)⟩
   ·replace h := Z6 hc3 hj3
    refine .pass rfl rfl rfl (.pass rfl rfl rfl (.pass rfl rfl rfl (.pass rfl rfl rfl (.pass rfl rfl rfl (.pass rfl rfl rfl ?_)))))
    refine .pass rfl rfl rfl (.pass rfl rfl rfl (.Zn (v := (vb false)) rfl rfl rfl (.nil ?_)))
    replace h := sj h; subst h
    exact ⟨⟨rfl, rfl, trivial⟩, H.weak (by omega) (Nat.le_refl _)⟩
  ·rintro e σ ⟨he, H⟩
   obtain ⟨e, rfl⟩ := he.ex
   refine .assign (v := (vi y1)) rfl rfl (.assign (v := (vb y3)) rfl rfl (.nila H fun H => (.ret ?_)))
   replace h := sj h; subst h
   exact (EndsH.H (xs := [(vi y1), (vb y3)]) (.inr rfl) H (.tmp (v := (vi y1)) rfl (.tmp (v := (vb y3)) rfl .nil)) (.two (.cons (.c (.v _)) (.cons (.c (.v _)) .nil))) 0 rfl)

theorem Z53 {x' : Int} {r : Bool} (h : Zt x' = r) : Fn CX 75 [(vi x')] (vb r) := by
 refine Fn.ends Try.func75 rfl rfl rfl rfl rfl rfl ?_
 have H : Hs (⟨0, fun _ => .none⟩ : Heap) [] := Has.nil (Nat.le_refl _)
 generalize (⟨0, fun _ => .none⟩ : Heap) = σ at H ⊢
 unfold Zt at h
 refine .then (.Z0 1 rfl H fun b1 σ H => (.assign (v := (vb false)) rfl rfl (.nila H fun H => (.then (.Z0 4 rfl H fun b2 σ H => ?_)))))
 refine .move (v := (vi x')) rfl rfl (.move (v := (vi x')) rfl rfl (.int (m := x') (m' := x') (r := .bool (x' != x')) rfl rfl rfl rfl rfl (.assign (v := (vb (x' != x'))) rfl rfl (.nila H fun H => (.ret ?_)))))
 subst h
 exact (Ends.H (xs := [(vb (x' != x'))]) (.inr rfl) H (.tmp (v := (vb (x' != x'))) rfl .nil) (.one (.c (.v _))))

theorem Z73 {x' : Int} {y : Int} {r : Int} (h : Z0Q x' y = r) : Fn CX 68 [(vi x'), (vi y)] (vi r) := by
 refine Fn.ends Try.func68 rfl rfl rfl rfl rfl rfl ?_
 have H : Hs (⟨0, fun _ => .none⟩ : Heap) [] := Has.nil (Nat.le_refl _)
 generalize (⟨0, fun _ => .none⟩ : Heap) = σ at H ⊢
 unfold Z0Q at h
 refine .then (.Z0 1 rfl H fun b1 σ H => (.assign (v := (vi 0)) rfl rfl (.nila H fun H => (.then (.Z0 3 rfl H fun b2 σ H => ?_)))))
 refine .move (v := (vi x')) rfl rfl (.call (ys := [(vi x')]) (r := (vb (Zt x'))) rfl (Z53 rfl) rfl (.assign (v := (vb (Zt x'))) rfl rfl (.nila H fun H => (.then (.Z0 3 rfl H fun b3 σ H => ?_)))))
 refine .move (v := (vi y)) rfl rfl (.call (ys := [(vi y)]) (r := (vb (Zt y))) rfl (Z53 rfl) rfl (.assign (v := (vb (Zt y))) rfl rfl (.nila H fun H => (.then (.then ?_)))))
 refine .Z0 1 rfl H fun b4 σ H => (.move (v := (vb (Zt x'))) rfl rfl (.nila H fun H => ?_))
 refine .whether (v := (Zt x')) rfl ?_ ?_ <;> intro hc1
 ·replace h := Z9 hc1 h
  refine .then (.then (.Z0 1 rfl H fun b5 σ H => (.move (v := (vb (Zt y))) rfl rfl (.nila H fun H => ?_))))
  refine .whether (v := (Zt y)) rfl ?_ ?_ <;> intro hc2
  ·replace h := Z9 hc2 h
   refine .then (.Z0 1 rfl H fun b6 σ H => (.assign (v := (vi 0)) rfl rfl (.nila H fun H => (.ret ?_))))
   subst h
   exact (Ends.H (xs := [(vi 0)]) (.inr rfl) H (.tmp (v := (vi 0)) rfl .nil) (.one (.c (.v _))))
  ·replace h := Z6 hc2 h
   refine .skip (.then (.Z0 1 rfl H fun b7 σ H => (.assign (v := (vi (-1))) rfl rfl (.nila H fun H => (.ret ?_)))))
   subst h
   exact (Ends.H (xs := [(vi (-1))]) (.inr rfl) H (.tmp (v := (vi (-1))) rfl .nil) (.one (.c (.v _))))
 ·replace h := Z6 hc1 h
  refine .skip (.then (.then (.Z0 1 rfl H fun b8 σ H => (.move (v := (vb (Zt y))) rfl rfl (.nila H fun H => ?_)))))
  refine .whether (v := (Zt y)) rfl ?_ ?_ <;> intro hc3
  ·replace h := Z9 hc3 h
   refine .then (.Z0 1 rfl H fun b9 σ H => (.assign (v := (vi 1)) rfl rfl (.nila H fun H => (.ret ?_))))
   subst h
   exact (Ends.H (xs := [(vi 1)]) (.inr rfl) H (.tmp (v := (vi 1)) rfl .nil) (.one (.c (.v _))))
  ·replace h := Z6 hc3 h
   refine .skip (.then (.then (.Z0 3 rfl H fun b10 σ H => (.move (v := (vi x')) rfl rfl (.move (v := (vi y)) rfl rfl ?_)))))
   refine .int (m := x') (m' := y) (r := .bool (decide (x' < y))) rfl rfl rfl rfl rfl (.nila H fun H => ?_)
   refine .whether (v := (decide (x' < y))) rfl ?_ ?_ <;> intro hc4
   ·replace h := Z9 hc4 h
    refine .then (.Z0 1 rfl H fun b11 σ H => (.assign (v := (vi (-1))) rfl rfl (.nila H fun H => (.ret ?_))))
    subst h
    exact (Ends.H (xs := [(vi (-1))]) (.inr rfl) H (.tmp (v := (vi (-1))) rfl .nil) (.one (.c (.v _))))
   ·replace h := Z6 hc4 h
    refine .skip (.then (.then (.Z0 3 rfl H fun b12 σ H => (.move (v := (vi x')) rfl rfl (.move (v := (vi y)) rfl rfl ?_)))))
    refine .int (m := x') (m' := y) (r := .bool (decide (x' > y))) rfl rfl rfl rfl rfl (.nila H fun H => ?_)
    refine .whether (v := (decide (x' > y))) rfl ?_ ?_ <;> intro hc5
    ·replace h := Z9 hc5 h
     refine .then (.Z0 1 rfl H fun b13 σ H => (.assign (v := (vi 1)) rfl rfl (.nila H fun H => (.ret ?_))))
     subst h
     exact (Ends.H (xs := [(vi 1)]) (.inr rfl) H (.tmp (v := (vi 1)) rfl .nil) (.one (.c (.v _))))
    ·replace h := Z6 hc5 h
     refine .skip (.then (.Z0 1 rfl H fun b14 σ H => (.assign (v := (vi 0)) rfl rfl (.nila H fun H => (.ret ?_)))))
     subst h
     exact (Ends.H (xs := [(vi 0)]) (.inr rfl) H (.tmp (v := (vi 0)) rfl .nil) (.one (.c (.v _))))

theorem gran_odd_1_fn {g : Granule} {i : Int} {r : Int} (h : Z2h g i = r) : Fn CX 67 [(.agg (vs (Granule.cs g))), (vi i)] (vi r) := by
 refine Fn.ends Try.func67 rfl rfl rfl rfl rfl rfl ?_
 have H : Hs (⟨0, fun _ => .none⟩ : Heap) [] := Has.nil (Nat.le_refl _)
 generalize (⟨0, fun _ => .none⟩ : Heap) = σ at H ⊢
 unfold Z2h at h
 refine .then (.Z0 2 rfl H fun b1 σ H => (.boxH (cs := [(vi g.Index), (vl Span.cs g.Ticks)]) H (by omega) (by omega) rfl rfl rfl fun σ H => (.assign (v := (vi 0)) rfl rfl (.nila H fun H => (.then ?_)))))
 refine .Z0 5 rfl H fun b2 σ H => (.Z2 (off := 0) (fo := 0) H 0 rfl rfl rfl rfl rfl nofun rfl (.ZR (off := 0) (v := (vi g.Index)) H 0 rfl rfl rfl rfl rfl nofun rfl (.move (v := (vi i)) rfl rfl (.call (ys := [(vi g.Index), (vi i)]) (r := (vi (Z0Q g.Index i))) rfl (Z73 rfl) rfl (.assign (v := (vi (Z0Q g.Index i))) rfl rfl ?_)))))
 refine .nila H fun H => (.ret ?_)
 subst h
 exact (Ends.H (xs := [(vi (Z0Q g.Index i))]) (.inr rfl) H (.tmp (v := (vi (Z0Q g.Index i))) rfl .nil) (.one (.c (.v _))))

theorem Z8V {f : Form} {i : Int} {r : Int × Bool} (h : Z3e f i = some r) : Fn CX 57 [(.agg (vs (Form.cs f))), (vi i)] (.tup [(vi r.1), (vb r.2)]) := by
 refine Fn.ends Try.func57 rfl rfl rfl rfl rfl rfl ?_
 have H : Hs (⟨0, fun _ => .none⟩ : Heap) [] := Has.nil (Nat.le_refl _)
 generalize (⟨0, fun _ => .none⟩ : Heap) = σ at H ⊢
 unfold Z3e at h
 refine .then (.Z0 3 rfl H fun b1 σ H => (.boxH (cs := (vF f)) H (by omega) (by omega) rfl rfl rfl fun σ H => (.assign (v := (vi 0)) rfl rfl (.assign (v := (vb false)) rfl rfl (.nila H fun H => ?_)))))
 refine .then (.Z0 8 rfl H fun b2 σ H => (.Z2 (off := 0) (fo := 3) H 0 rfl rfl rfl rfl rfl nofun rfl (.ZR (off := 3) (v := (vl Granule.cs f.Odd)) H 0 rfl rfl rfl rfl rfl nofun rfl (.move (v := (vi i)) rfl rfl ?_))))
 obtain ⟨x1, q1, h⟩ := bind_some h
 refine .Z6h (ys := [(vl Granule.cs f.Odd), (vi i), (.v (.fn 67))]) (r := (.tup [(vi x1.1), (vb x1.2)])) H rfl (Z1N (C := []) rfl (fun _ => rfl) (fun z0 z1 y hz => (CloH.fn (Fn.toH (gran_odd_1_fn (Option.some.inj hz)) _))) q1) .nil nofun rfl fun σ H => (.extract (v := (vi x1.1)) rfl rfl rfl (.extract (v := (vb x1.2)) rfl rfl rfl (.assign (v := (vi x1.1)) rfl rfl (.assign (v := (vb x1.2)) rfl rfl (.nila H fun H => ?_)))))
 refine .ret ?_
 replace h := sj h; subst h
 exact (Ends.H (xs := [(vi x1.1), (vb x1.2)]) (.inr rfl) H (.tmp (v := (vi x1.1)) rfl (.tmp (v := (vb x1.2)) rfl .nil)) (.two (.cons (.c (.v _)) (.cons (.c (.v _)) .nil))))

theorem Z6a {a : Int} {b : Int} {r : Int × Int × Int} (h : Z19 a b = some r) : Fn CX 58 [(vi a), (vi b)] (.tup [(vi r.1), (vi r.2.1), (vi r.2.2)]) := by
 refine Fn.ends Try.func58 rfl rfl rfl rfl rfl rfl ?_
 have H : Hs (⟨0, fun _ => .none⟩ : Heap) [] := Has.nil (Nat.le_refl _)
 generalize (⟨0, fun _ => .none⟩ : Heap) = σ at H ⊢
 unfold Z19 at h
 refine .then (.Z0 3 rfl H fun b1 σ H => (.assign (v := (vi 0)) rfl rfl (.assign (v := (vi 0)) rfl rfl (.assign (v := (vi 0)) rfl rfl (.nila H fun H => ?_)))))
 refine .then (.inBlock (.then (.Z0 3 rfl H fun b2 σ H => (.move (v := (vi b)) rfl rfl (.int (m := b) (m' := 0) (r := .bool (b == 0)) rfl rfl rfl rfl rfl ?_)))))
 refine .assign (v := (vb (b == 0))) rfl rfl (.nila H fun H => ?_)
 refine .whether (v := (b == 0)) rfl ?_ ?_ <;> intro hc1
 ·replace h := Z9 hc1 h
  refine .then (.Z0 3 rfl H fun b3 σ H => (.assign (v := (vi 0)) rfl rfl (.assign (v := (vi 0)) rfl rfl (.assign (v := (vi 11)) rfl rfl (.nila H fun H => ?_)))))
  refine .ret ?_
  replace h := sj h; subst h
  exact (Ends.H (xs := [(vi 0), (vi 0), (vi 11)]) (.inr rfl) H (.tmp (v := (vi 0)) rfl (.tmp (v := (vi 0)) rfl (.tmp (v := (vi 11)) rfl .nil))) (.two (.cons (.c (.v _)) (.cons (.c (.v _)) (.cons (.c (.v _)) .nil)))))
 ·replace h := Z6 hc1 h
  refine .then (.Z0 7 rfl H fun b4 σ H => (.move (v := (vi b)) rfl rfl (.int (m := b) (m' := (-1)) (r := .bool (b == (-1))) rfl rfl rfl rfl rfl (.move (v := (vb (b == (-1)))) rfl rfl ?_))))
  refine .mid 3 (K1 := fun e σ => Z5 e [(18, (vb ((b == (-1)) && (a == (-9223372036854775808))))), (0, (vi a)), (1, (vi b))] ∧ Has σ (b4 + 6) (b4 + 7) []) rfl ?_ ?_
  ·refine .split rfl rfl ?_ ?_ <;> intro hc2
   ·skip
    refine .wanted rfl rfl (.move (v := (vi a)) rfl rfl (.wanted rfl rfl (.int (m := a) (m' := (-9223372036854775808)) (r := .bool (a == (-9223372036854775808))) rfl rfl rfl rfl rfl (.Zg (v := (vb (a == (-9223372036854775808)))) rfl rfl rfl (.nil ?_)))))
    exact ⟨⟨Z1f hc2, rfl, rfl, trivial⟩, H.weak (by omega) (Nat.le_refl _)⟩
   ·skip
    refine .pass rfl rfl rfl (.pass rfl rfl rfl (.Zn (v := (vb false)) rfl rfl rfl (.nil ?_)))
    exact ⟨⟨Z1e hc2, rfl, rfl, trivial⟩, H.weak (by omega) (Nat.le_refl _)⟩
  ·rintro e σ ⟨he, H⟩
   obtain ⟨e, rfl⟩ := he.ex
   refine .assign (v := (vb ((b == (-1)) && (a == (-9223372036854775808))))) rfl rfl (.nila H fun H => ?_)
   refine .whether (v := ((b == (-1)) && (a == (-9223372036854775808)))) rfl ?_ ?_ <;> intro hc3
   ·replace h := Z9 hc3 h
    refine .then (.Z0 3 rfl H fun b5 σ H => (.assign (v := (vi 0)) rfl rfl (.assign (v := (vi 0)) rfl rfl (.assign (v := (vi 10)) rfl rfl (.nila H fun H => ?_)))))
    refine .ret ?_
    replace h := sj h; subst h
    exact (Ends.H (xs := [(vi 0), (vi 0), (vi 10)]) (.inr rfl) H (.tmp (v := (vi 0)) rfl (.tmp (v := (vi 0)) rfl (.tmp (v := (vi 10)) rfl .nil))) (.two (.cons (.c (.v _)) (.cons (.c (.v _)) (.cons (.c (.v _)) .nil)))))
   ·replace h := Z6 hc3 h
    refine .skip (.then (.Z3n 8 rfl (by kernel_rfl) H fun b6 σ H B6 => (.move (v := (vi a)) rfl rfl (.move (v := (vi b)) rfl rfl ?_))))
    obtain ⟨u1, q1, h⟩ := bind_some h
    refine .quo (m := a) (m' := b) rfl rfl (nz_ne q1) rfl (.move (v := (vi a)) rfl rfl (.move (v := (vi b)) rfl rfl ?_))
    obtain ⟨u2, q2, h⟩ := bind_some h
    refine .rem (m := a) (m' := b) rfl rfl (nz_ne q2) rfl (.assign (v := (vi (w64 (a.tdiv b)))) rfl rfl (.assign (v := (vi (a.tmod b))) rfl rfl (.nila H fun H => (.then ?_))))
    obtain ⟨y1, hj1, h⟩ := bind_some h
    refine .mono (Q := fun x e σ => x = .normal ∧ Z5 e [(7, (vi y1.1)), (8, (vi y1.2))] ∧ Hs σ []) ?_ ?_
    ·replace h := hj1
     refine .then (.Z0 9 rfl H fun b7 σ H => (.move (v := (vi (a.tmod b))) rfl rfl (.int (m := (a.tmod b)) (m' := 0) (r := .bool ((a.tmod b) != 0)) rfl rfl rfl rfl rfl (.move (v := (vb ((a.tmod b) != 0))) rfl rfl ?_))))
     refine .mid 6 (K1 := fun e σ => Z5 e [(33, (vb (((a.tmod b) != 0) && ((decide ((a.tmod b) < 0)) != (decide (b < 0)))))), (1, (vi b)), (7, (vi (w64 (a.tdiv b)))), (8, (vi (a.tmod b)))] ∧ Has σ (b7 + 9) (b7 + 9) []) rfl ?_ ?_
     ·refine .split rfl rfl ?_ ?_ <;> intro hc4
      ·skip
       refine .wanted rfl rfl (.move (v := (vi (a.tmod b))) rfl rfl (.wanted rfl rfl (.int (m := (a.tmod b)) (m' := 0) (r := .bool (decide ((a.tmod b) < 0))) rfl rfl rfl rfl rfl (.wanted rfl rfl (.move (v := (vi b)) rfl rfl ?_)))))
       refine .wanted rfl rfl (.int (m := b) (m' := 0) (r := .bool (decide (b < 0))) rfl rfl rfl rfl rfl (.wanted rfl rfl (.neB (b := (decide ((a.tmod b) < 0))) (b' := (decide (b < 0))) rfl rfl rfl rfl (.Zg (v := (vb ((decide ((a.tmod b) < 0)) != (decide (b < 0))))) rfl rfl rfl (.nil ?_)))))
       exact ⟨⟨Z1f hc4, rfl, rfl, rfl, trivial⟩, H.weak (by omega) (Nat.le_refl _)⟩
      ·skip
       refine .pass rfl rfl rfl (.pass rfl rfl rfl (.pass rfl rfl rfl (.pass rfl rfl rfl (.pass rfl rfl rfl (.Zn (v := (vb false)) rfl rfl rfl ?_)))))
       refine .nil ?_
       exact ⟨⟨Z1e hc4, rfl, rfl, rfl, trivial⟩, H.weak (by omega) (Nat.le_refl _)⟩
     ·rintro e σ ⟨he, H⟩
      obtain ⟨e, rfl⟩ := he.ex
      refine .nila H fun H => ?_
      refine .whether (v := (((a.tmod b) != 0) && ((decide ((a.tmod b) < 0)) != (decide (b < 0))))) rfl ?_ ?_ <;> intro hc5
      ·replace h := Z9 hc5 h
       refine .Z0 7 rfl H fun b8 σ H => (.move (v := (vi (w64 (a.tdiv b)))) rfl rfl (.int (m := (w64 (a.tdiv b))) (m' := 1) (r := .int .i64 (w64 ((w64 (a.tdiv b)) - 1))) rfl rfl rfl rfl rfl (.move (v := (vi (a.tmod b))) rfl rfl (.move (v := (vi b)) rfl rfl (.int (m := (a.tmod b)) (m' := b) (r := .int .i64 (w64 ((a.tmod b) + b))) rfl rfl rfl rfl rfl ?_)))))
       refine .assign (v := (vi (w64 ((w64 (a.tdiv b)) - 1)))) rfl rfl (.assign (v := (vi (w64 ((a.tmod b) + b)))) rfl rfl (.nila H fun H => ?_))
       replace h := sj h; subst h
       exact ⟨rfl, ⟨rfl, rfl, trivial⟩, H⟩
      ·replace h := Z6 hc5 h
       refine .skip ?_
       replace h := sj h; subst h
       exact ⟨rfl, ⟨rfl, rfl, trivial⟩, H⟩
    ·rintro x e σ ⟨rfl, he, H⟩
     obtain ⟨e, rfl⟩ := he.ex
     refine .then (.Z0 5 rfl H fun b9 σ H => (.move (v := (vi y1.1)) rfl rfl (.move (v := (vi y1.2)) rfl rfl (.assign (v := (vi y1.1)) rfl rfl (.assign (v := (vi y1.2)) rfl rfl ?_)))))
     refine .assign (v := (vi 0)) rfl rfl (.nila H fun H => (.ret ?_))
     replace h := sj h; subst h
     exact (Ends.H (xs := [(vi y1.1), (vi y1.2), (vi 0)]) (.inr rfl) H (.tmp (v := (vi y1.1)) rfl (.tmp (v := (vi y1.2)) rfl (.tmp (v := (vi 0)) rfl .nil))) (.two (.cons (.c (.v _)) (.cons (.c (.v _)) (.cons (.c (.v _)) .nil)))))

theorem Z7d {a : Int} {r : Int} (h : ZD a = r) : Fn CX 70 [(vi a)] (vu r) := by
 refine Fn.ends Try.func70 rfl rfl rfl rfl rfl rfl ?_
 have H : Hs (⟨0, fun _ => .none⟩ : Heap) [] := Has.nil (Nat.le_refl _)
 generalize (⟨0, fun _ => .none⟩ : Heap) = σ at H ⊢
 unfold ZD at h
 refine .then (.Z0 1 rfl H fun b1 σ H => (.assign (v := (vu 0)) rfl rfl (.nila H fun H => (.then (.then ?_)))))
 refine .Z0 2 rfl H fun b2 σ H => (.move (v := (vi a)) rfl rfl (.int (m := a) (m' := 0) (r := .bool (decide (a < 0))) rfl rfl rfl rfl rfl (.nila H fun H => ?_)))
 refine .whether (v := (decide (a < 0))) rfl ?_ ?_ <;> intro hc1
 ·replace h := Z9 hc1 h
  refine .then (.Z0 4 rfl H fun b3 σ H => (.move (v := (vi a)) rfl rfl (.conv (m := a) rfl rfl rfl rfl (.neg (m := (IntKind.u64.wrap a)) rfl rfl (.assign (v := (vu (IntKind.u64.wrap (0 - (IntKind.u64.wrap a))))) rfl rfl ?_)))))
  refine .nila H fun H => (.ret ?_)
  subst h
  exact (Ends.H (xs := [(vu (IntKind.u64.wrap (0 - (IntKind.u64.wrap a))))]) (.inr rfl) H (.tmp (v := (vu (IntKind.u64.wrap (0 - (IntKind.u64.wrap a))))) rfl .nil) (.one (.c (.v _))))
 ·replace h := Z6 hc1 h
  refine .skip (.then (.Z0 3 rfl H fun b4 σ H => (.move (v := (vi a)) rfl rfl (.conv (m := a) rfl rfl rfl rfl (.assign (v := (vu (IntKind.u64.wrap a))) rfl rfl ?_)))))
  refine .nila H fun H => (.ret ?_)
  subst h
  exact (Ends.H (xs := [(vu (IntKind.u64.wrap a))]) (.inr rfl) H (.tmp (v := (vu (IntKind.u64.wrap a))) rfl .nil) (.one (.c (.v _))))

theorem Z6s {x' : Int} {y : Int} {r : Int × Int} (h : ZI x' y = r) : Fn CX 69 [(vu x'), (vu y)] (.tup [(vu r.1), (vu r.2)]) := by
 refine Fn.ends Try.func69 rfl rfl rfl rfl rfl rfl ?_
 have H : Hs (⟨0, fun _ => .none⟩ : Heap) [] := Has.nil (Nat.le_refl _)
 generalize (⟨0, fun _ => .none⟩ : Heap) = σ at H ⊢
 unfold ZI at h
 refine .then (.Z0 2 rfl H fun b1 σ H => (.assign (v := (vu 0)) rfl rfl (.assign (v := (vu 0)) rfl rfl (.nila H fun H => (.then ?_)))))
 refine .Z0 3 rfl H fun b2 σ H => (.move (v := (vu x')) rfl rfl (.int (m := x') (m' := 4294967295) (r := .int .u64 (iAnd .u64 x' 4294967295)) rfl rfl rfl rfl rfl (.assign (v := (vu (iAnd .u64 x' 4294967295))) rfl rfl (.nila H fun H => (.then ?_)))))
 refine .Z0 3 rfl H fun b3 σ H => (.move (v := (vu x')) rfl rfl (.shr (m := x') (m' := 32) rfl rfl (by decide) rfl (.assign (v := (vu (x'.fdiv (2 ^ 32)))) rfl rfl (.nila H fun H => (.then ?_)))))
 refine .Z0 3 rfl H fun b4 σ H => (.move (v := (vu y)) rfl rfl (.int (m := y) (m' := 4294967295) (r := .int .u64 (iAnd .u64 y 4294967295)) rfl rfl rfl rfl rfl (.assign (v := (vu (iAnd .u64 y 4294967295))) rfl rfl (.nila H fun H => (.then ?_)))))
 refine .Z0 3 rfl H fun b5 σ H => (.move (v := (vu y)) rfl rfl (.shr (m := y) (m' := 32) rfl rfl (by decide) rfl (.assign (v := (vu (y.fdiv (2 ^ 32)))) rfl rfl (.nila H fun H => (.then ?_)))))
 refine .Z0 4 rfl H fun b6 σ H => (.move (v := (vu (iAnd .u64 x' 4294967295))) rfl rfl (.move (v := (vu (iAnd .u64 y 4294967295))) rfl rfl (.int (m := (iAnd .u64 x' 4294967295)) (m' := (iAnd .u64 y 4294967295)) (r := .int .u64 (IntKind.u64.wrap ((iAnd .u64 x' 4294967295) * (iAnd .u64 y 4294967295)))) rfl rfl rfl rfl rfl (.assign (v := (vu (IntKind.u64.wrap ((iAnd .u64 x' 4294967295) * (iAnd .u64 y 4294967295))))) rfl rfl (.nila H fun H => ?_)))))
 refine .then (.Z0 7 rfl H fun b7 σ H => (.move (v := (vu (x'.fdiv (2 ^ 32)))) rfl rfl (.move (v := (vu (iAnd .u64 y 4294967295))) rfl rfl (.int (m := (x'.fdiv (2 ^ 32))) (m' := (iAnd .u64 y 4294967295)) (r := .int .u64 (IntKind.u64.wrap ((x'.fdiv (2 ^ 32)) * (iAnd .u64 y 4294967295)))) rfl rfl rfl rfl rfl (.move (v := (vu (IntKind.u64.wrap ((iAnd .u64 x' 4294967295) * (iAnd .u64 y 4294967295))))) rfl rfl ?_)))))
 refine .shr (m := (IntKind.u64.wrap ((iAnd .u64 x' 4294967295) * (iAnd .u64 y 4294967295)))) (m' := 32) rfl rfl (by decide) rfl (.int (m := (IntKind.u64.wrap ((x'.fdiv (2 ^ 32)) * (iAnd .u64 y 4294967295)))) (m' := ((IntKind.u64.wrap ((iAnd .u64 x' 4294967295) * (iAnd .u64 y 4294967295))).fdiv (2 ^ 32))) (r := .int .u64 (IntKind.u64.wrap ((IntKind.u64.wrap ((x'.fdiv (2 ^ 32)) * (iAnd .u64 y 4294967295))) + ((IntKind.u64.wrap ((iAnd .u64 x' 4294967295) * (iAnd .u64 y 4294967295))).fdiv (2 ^ 32))))) rfl rfl rfl rfl rfl (.assign (v := (vu (IntKind.u64.wrap ((IntKind.u64.wrap ((x'.fdiv (2 ^ 32)) * (iAnd .u64 y 4294967295))) + ((IntKind.u64.wrap ((iAnd .u64 x' 4294967295) * (iAnd .u64 y 4294967295))).fdiv (2 ^ 32)))))) rfl rfl (.nila H fun H => (.then (.Z0 3 rfl H fun b8 σ H => ?_)))))
 refine .move (v := (vu (IntKind.u64.wrap ((IntKind.u64.wrap ((x'.fdiv (2 ^ 32)) * (iAnd .u64 y 4294967295))) + ((IntKind.u64.wrap ((iAnd .u64 x' 4294967295) * (iAnd .u64 y 4294967295))).fdiv (2 ^ 32)))))) rfl rfl (.int (m := (IntKind.u64.wrap ((IntKind.u64.wrap ((x'.fdiv (2 ^ 32)) * (iAnd .u64 y 4294967295))) + ((IntKind.u64.wrap ((iAnd .u64 x' 4294967295) * (iAnd .u64 y 4294967295))).fdiv (2 ^ 32))))) (m' := 4294967295) (r := .int .u64 (iAnd .u64 (IntKind.u64.wrap ((IntKind.u64.wrap ((x'.fdiv (2 ^ 32)) * (iAnd .u64 y 4294967295))) + ((IntKind.u64.wrap ((iAnd .u64 x' 4294967295) * (iAnd .u64 y 4294967295))).fdiv (2 ^ 32)))) 4294967295)) rfl rfl rfl rfl rfl (.assign (v := (vu (iAnd .u64 (IntKind.u64.wrap ((IntKind.u64.wrap ((x'.fdiv (2 ^ 32)) * (iAnd .u64 y 4294967295))) + ((IntKind.u64.wrap ((iAnd .u64 x' 4294967295) * (iAnd .u64 y 4294967295))).fdiv (2 ^ 32)))) 4294967295))) rfl rfl (.nila H fun H => (.then (.Z0 3 rfl H fun b9 σ H => ?_)))))
 refine .move (v := (vu (IntKind.u64.wrap ((IntKind.u64.wrap ((x'.fdiv (2 ^ 32)) * (iAnd .u64 y 4294967295))) + ((IntKind.u64.wrap ((iAnd .u64 x' 4294967295) * (iAnd .u64 y 4294967295))).fdiv (2 ^ 32)))))) rfl rfl (.shr (m := (IntKind.u64.wrap ((IntKind.u64.wrap ((x'.fdiv (2 ^ 32)) * (iAnd .u64 y 4294967295))) + ((IntKind.u64.wrap ((iAnd .u64 x' 4294967295) * (iAnd .u64 y 4294967295))).fdiv (2 ^ 32))))) (m' := 32) rfl rfl (by decide) rfl (.assign (v := (vu ((IntKind.u64.wrap ((IntKind.u64.wrap ((x'.fdiv (2 ^ 32)) * (iAnd .u64 y 4294967295))) + ((IntKind.u64.wrap ((iAnd .u64 x' 4294967295) * (iAnd .u64 y 4294967295))).fdiv (2 ^ 32)))).fdiv (2 ^ 32)))) rfl rfl (.nila H fun H => (.then (.Z0 6 rfl H fun b10 σ H => ?_)))))
 refine .move (v := (vu (iAnd .u64 (IntKind.u64.wrap ((IntKind.u64.wrap ((x'.fdiv (2 ^ 32)) * (iAnd .u64 y 4294967295))) + ((IntKind.u64.wrap ((iAnd .u64 x' 4294967295) * (iAnd .u64 y 4294967295))).fdiv (2 ^ 32)))) 4294967295))) rfl rfl (.move (v := (vu (iAnd .u64 x' 4294967295))) rfl rfl (.move (v := (vu (y.fdiv (2 ^ 32)))) rfl rfl (.int (m := (iAnd .u64 x' 4294967295)) (m' := (y.fdiv (2 ^ 32))) (r := .int .u64 (IntKind.u64.wrap ((iAnd .u64 x' 4294967295) * (y.fdiv (2 ^ 32))))) rfl rfl rfl rfl rfl (.int (m := (iAnd .u64 (IntKind.u64.wrap ((IntKind.u64.wrap ((x'.fdiv (2 ^ 32)) * (iAnd .u64 y 4294967295))) + ((IntKind.u64.wrap ((iAnd .u64 x' 4294967295) * (iAnd .u64 y 4294967295))).fdiv (2 ^ 32)))) 4294967295)) (m' := (IntKind.u64.wrap ((iAnd .u64 x' 4294967295) * (y.fdiv (2 ^ 32))))) (r := .int .u64 (IntKind.u64.wrap ((iAnd .u64 (IntKind.u64.wrap ((IntKind.u64.wrap ((x'.fdiv (2 ^ 32)) * (iAnd .u64 y 4294967295))) + ((IntKind.u64.wrap ((iAnd .u64 x' 4294967295) * (iAnd .u64 y 4294967295))).fdiv (2 ^ 32)))) 4294967295) + (IntKind.u64.wrap ((iAnd .u64 x' 4294967295) * (y.fdiv (2 ^ 32))))))) rfl rfl rfl rfl rfl (.assign (v := (vu (IntKind.u64.wrap ((iAnd .u64 (IntKind.u64.wrap ((IntKind.u64.wrap ((x'.fdiv (2 ^ 32)) * (iAnd .u64 y 4294967295))) + ((IntKind.u64.wrap ((iAnd .u64 x' 4294967295) * (iAnd .u64 y 4294967295))).fdiv (2 ^ 32)))) 4294967295) + (IntKind.u64.wrap ((iAnd .u64 x' 4294967295) * (y.fdiv (2 ^ 32)))))))) rfl rfl ?_)))))
 refine .nila H fun H => (.then (.Z0 9 rfl H fun b11 σ H => (.move (v := (vu (x'.fdiv (2 ^ 32)))) rfl rfl (.move (v := (vu (y.fdiv (2 ^ 32)))) rfl rfl (.int (m := (x'.fdiv (2 ^ 32))) (m' := (y.fdiv (2 ^ 32))) (r := .int .u64 (IntKind.u64.wrap ((x'.fdiv (2 ^ 32)) * (y.fdiv (2 ^ 32))))) rfl rfl rfl rfl rfl ?_)))))
 refine .move (v := (vu ((IntKind.u64.wrap ((IntKind.u64.wrap ((x'.fdiv (2 ^ 32)) * (iAnd .u64 y 4294967295))) + ((IntKind.u64.wrap ((iAnd .u64 x' 4294967295) * (iAnd .u64 y 4294967295))).fdiv (2 ^ 32)))).fdiv (2 ^ 32)))) rfl rfl (.int (m := (IntKind.u64.wrap ((x'.fdiv (2 ^ 32)) * (y.fdiv (2 ^ 32))))) (m' := ((IntKind.u64.wrap ((IntKind.u64.wrap ((x'.fdiv (2 ^ 32)) * (iAnd .u64 y 4294967295))) + ((IntKind.u64.wrap ((iAnd .u64 x' 4294967295) * (iAnd .u64 y 4294967295))).fdiv (2 ^ 32)))).fdiv (2 ^ 32))) (r := .int .u64 (IntKind.u64.wrap ((IntKind.u64.wrap ((x'.fdiv (2 ^ 32)) * (y.fdiv (2 ^ 32)))) + ((IntKind.u64.wrap ((IntKind.u64.wrap ((x'.fdiv (2 ^ 32)) * (iAnd .u64 y 4294967295))) + ((IntKind.u64.wrap ((iAnd .u64 x' 4294967295) * (iAnd .u64 y 4294967295))).fdiv (2 ^ 32)))).fdiv (2 ^ 32))))) rfl rfl rfl rfl rfl (.move (v := (vu (IntKind.u64.wrap ((iAnd .u64 (IntKind.u64.wrap ((IntKind.u64.wrap ((x'.fdiv (2 ^ 32)) * (iAnd .u64 y 4294967295))) + ((IntKind.u64.wrap ((iAnd .u64 x' 4294967295) * (iAnd .u64 y 4294967295))).fdiv (2 ^ 32)))) 4294967295) + (IntKind.u64.wrap ((iAnd .u64 x' 4294967295) * (y.fdiv (2 ^ 32)))))))) rfl rfl (.shr (m := (IntKind.u64.wrap ((iAnd .u64 (IntKind.u64.wrap ((IntKind.u64.wrap ((x'.fdiv (2 ^ 32)) * (iAnd .u64 y 4294967295))) + ((IntKind.u64.wrap ((iAnd .u64 x' 4294967295) * (iAnd .u64 y 4294967295))).fdiv (2 ^ 32)))) 4294967295) + (IntKind.u64.wrap ((iAnd .u64 x' 4294967295) * (y.fdiv (2 ^ 32))))))) (m' := 32) rfl rfl (by decide) rfl (.int (m := (IntKind.u64.wrap ((IntKind.u64.wrap ((x'.fdiv (2 ^ 32)) * (y.fdiv (2 ^ 32)))) + ((IntKind.u64.wrap ((IntKind.u64.wrap ((x'.fdiv (2 ^ 32)) * (iAnd .u64 y 4294967295))) + ((IntKind.u64.wrap ((iAnd .u64 x' 4294967295) * (iAnd .u64 y 4294967295))).fdiv (2 ^ 32)))).fdiv (2 ^ 32))))) (m' := ((IntKind.u64.wrap ((iAnd .u64 (IntKind.u64.wrap ((IntKind.u64.wrap ((x'.fdiv (2 ^ 32)) * (iAnd .u64 y 4294967295))) + ((IntKind.u64.wrap ((iAnd .u64 x' 4294967295) * (iAnd .u64 y 4294967295))).fdiv (2 ^ 32)))) 4294967295) + (IntKind.u64.wrap ((iAnd .u64 x' 4294967295) * (y.fdiv (2 ^ 32)))))).fdiv (2 ^ 32))) (r := .int .u64 (IntKind.u64.wrap ((IntKind.u64.wrap ((IntKind.u64.wrap ((x'.fdiv (2 ^ 32)) * (y.fdiv (2 ^ 32)))) + ((IntKind.u64.wrap ((IntKind.u64.wrap ((x'.fdiv (2 ^ 32)) * (iAnd .u64 y 4294967295))) + ((IntKind.u64.wrap ((iAnd .u64 x' 4294967295) * (iAnd .u64 y 4294967295))).fdiv (2 ^ 32)))).fdiv (2 ^ 32)))) + ((IntKind.u64.wrap ((iAnd .u64 (IntKind.u64.wrap ((IntKind.u64.wrap ((x'.fdiv (2 ^ 32)) * (iAnd .u64 y 4294967295))) + ((IntKind.u64.wrap ((iAnd .u64 x' 4294967295) * (iAnd .u64 y 4294967295))).fdiv (2 ^ 32)))) 4294967295) + (IntKind.u64.wrap ((iAnd .u64 x' 4294967295) * (y.fdiv (2 ^ 32)))))).fdiv (2 ^ 32))))) rfl rfl rfl rfl rfl (.assign (v := (vu (IntKind.u64.wrap ((IntKind.u64.wrap ((IntKind.u64.wrap ((x'.fdiv (2 ^ 32)) * (y.fdiv (2 ^ 32)))) + ((IntKind.u64.wrap ((IntKind.u64.wrap ((x'.fdiv (2 ^ 32)) * (iAnd .u64 y 4294967295))) + ((IntKind.u64.wrap ((iAnd .u64 x' 4294967295) * (iAnd .u64 y 4294967295))).fdiv (2 ^ 32)))).fdiv (2 ^ 32)))) + ((IntKind.u64.wrap ((iAnd .u64 (IntKind.u64.wrap ((IntKind.u64.wrap ((x'.fdiv (2 ^ 32)) * (iAnd .u64 y 4294967295))) + ((IntKind.u64.wrap ((iAnd .u64 x' 4294967295) * (iAnd .u64 y 4294967295))).fdiv (2 ^ 32)))) 4294967295) + (IntKind.u64.wrap ((iAnd .u64 x' 4294967295) * (y.fdiv (2 ^ 32)))))).fdiv (2 ^ 32)))))) rfl rfl ?_)))))
 refine .nila H fun H => (.then (.Z0 4 rfl H fun b12 σ H => (.move (v := (vu x')) rfl rfl (.move (v := (vu y)) rfl rfl (.int (m := x') (m' := y) (r := .int .u64 (IntKind.u64.wrap (x' * y))) rfl rfl rfl rfl rfl ?_)))))
 refine .assign (v := (vu (IntKind.u64.wrap (x' * y)))) rfl rfl (.nila H fun H => (.ret ?_))
 subst h
 exact (Ends.H (xs := [(vu (IntKind.u64.wrap ((IntKind.u64.wrap ((IntKind.u64.wrap ((x'.fdiv (2 ^ 32)) * (y.fdiv (2 ^ 32)))) + ((IntKind.u64.wrap ((IntKind.u64.wrap ((x'.fdiv (2 ^ 32)) * (iAnd .u64 y 4294967295))) + ((IntKind.u64.wrap ((iAnd .u64 x' 4294967295) * (iAnd .u64 y 4294967295))).fdiv (2 ^ 32)))).fdiv (2 ^ 32)))) + ((IntKind.u64.wrap ((iAnd .u64 (IntKind.u64.wrap ((IntKind.u64.wrap ((x'.fdiv (2 ^ 32)) * (iAnd .u64 y 4294967295))) + ((IntKind.u64.wrap ((iAnd .u64 x' 4294967295) * (iAnd .u64 y 4294967295))).fdiv (2 ^ 32)))) 4294967295) + (IntKind.u64.wrap ((iAnd .u64 x' 4294967295) * (y.fdiv (2 ^ 32)))))).fdiv (2 ^ 32))))), (vu (IntKind.u64.wrap (x' * y)))]) (.inr rfl) H (.tmp (v := (vu (IntKind.u64.wrap ((IntKind.u64.wrap ((IntKind.u64.wrap ((x'.fdiv (2 ^ 32)) * (y.fdiv (2 ^ 32)))) + ((IntKind.u64.wrap ((IntKind.u64.wrap ((x'.fdiv (2 ^ 32)) * (iAnd .u64 y 4294967295))) + ((IntKind.u64.wrap ((iAnd .u64 x' 4294967295) * (iAnd .u64 y 4294967295))).fdiv (2 ^ 32)))).fdiv (2 ^ 32)))) + ((IntKind.u64.wrap ((iAnd .u64 (IntKind.u64.wrap ((IntKind.u64.wrap ((x'.fdiv (2 ^ 32)) * (iAnd .u64 y 4294967295))) + ((IntKind.u64.wrap ((iAnd .u64 x' 4294967295) * (iAnd .u64 y 4294967295))).fdiv (2 ^ 32)))) 4294967295) + (IntKind.u64.wrap ((iAnd .u64 x' 4294967295) * (y.fdiv (2 ^ 32)))))).fdiv (2 ^ 32)))))) rfl (.tmp (v := (vu (IntKind.u64.wrap (x' * y)))) rfl .nil)) (.two (.cons (.c (.v _)) (.cons (.c (.v _)) .nil))))

theorem Z8r {n : Int} {minus : Bool} {r : Int × Int} (h : Z0G n minus = r) : Fn CX 71 [(vu n), (vb minus)] (.tup [(vi r.1), (vi r.2)]) := by
 refine Fn.ends Try.func71 rfl rfl rfl rfl rfl rfl ?_
 have H : Hs (⟨0, fun _ => .none⟩ : Heap) [] := Has.nil (Nat.le_refl _)
 generalize (⟨0, fun _ => .none⟩ : Heap) = σ at H ⊢
 unfold Z0G at h
 refine .then (.Z0 2 rfl H fun b1 σ H => (.assign (v := (vi 0)) rfl rfl (.assign (v := (vi 0)) rfl rfl (.nila H fun H => (.then ?_)))))
 refine .inBlock (.then (.Z0 6 rfl H fun b2 σ H => (.move (v := (vb minus)) rfl rfl (.move (v := (vb minus)) rfl rfl ?_))))
 refine .mid 3 (K1 := fun e σ => Z5 e [(11, (vb (minus && (decide (n ≤ 9223372036854775808))))), (0, (vu n)), (1, (vb minus))] ∧ Has σ (b2 + 5) (b2 + 6) []) rfl ?_ ?_
 ·refine .split rfl rfl ?_ ?_ <;> intro hc1
  ·skip
   refine .wanted rfl rfl (.move (v := (vu n)) rfl rfl (.wanted rfl rfl (.int (m := n) (m' := 9223372036854775808) (r := .bool (decide (n ≤ 9223372036854775808))) rfl rfl rfl rfl rfl (.Zg (v := (vb (decide (n ≤ 9223372036854775808)))) rfl rfl rfl (.nil ?_)))))
   exact ⟨⟨Z1f hc1, rfl, rfl, trivial⟩, H.weak (by omega) (Nat.le_refl _)⟩
  ·skip
   refine .pass rfl rfl rfl (.pass rfl rfl rfl (.Zn (v := (vb false)) rfl rfl rfl (.nil ?_)))
   exact ⟨⟨Z1e hc1, rfl, rfl, trivial⟩, H.weak (by omega) (Nat.le_refl _)⟩
 ·rintro e σ ⟨he, H⟩
  obtain ⟨e, rfl⟩ := he.ex
  refine .assign (v := (vb (minus && (decide (n ≤ 9223372036854775808))))) rfl rfl (.nila H fun H => ?_)
  refine .whether (v := (minus && (decide (n ≤ 9223372036854775808)))) rfl ?_ ?_ <;> intro hc2
  ·replace h := Z9 hc2 h
   refine .then (.Z0 5 rfl H fun b3 σ H => (.move (v := (vu n)) rfl rfl (.neg (m := n) rfl rfl (.conv (m := (IntKind.u64.wrap (0 - n))) rfl rfl rfl rfl (.assign (v := (vi (w64 (IntKind.u64.wrap (0 - n))))) rfl rfl ?_)))))
   refine .assign (v := (vi 0)) rfl rfl (.nila H fun H => (.ret ?_))
   subst h
   exact (Ends.H (xs := [(vi (w64 (IntKind.u64.wrap (0 - n)))), (vi 0)]) (.inr rfl) H (.tmp (v := (vi (w64 (IntKind.u64.wrap (0 - n))))) rfl (.tmp (v := (vi 0)) rfl .nil)) (.two (.cons (.c (.v _)) (.cons (.c (.v _)) .nil))))
  ·replace h := Z6 hc2 h
   refine .then (.Z0 7 rfl H fun b4 σ H => (.move (v := (vb minus)) rfl rfl (.not (b := minus) rfl rfl (.move (v := (vb (!minus))) rfl rfl ?_))))
   refine .mid 3 (K1 := fun e σ => Z5 e [(21, (vb ((!minus) && (decide (n ≤ 9223372036854775807))))), (0, (vu n))] ∧ Has σ (b4 + 6) (b4 + 7) []) rfl ?_ ?_
   ·refine .split rfl rfl ?_ ?_ <;> intro hc3
    ·skip
     refine .wanted rfl rfl (.move (v := (vu n)) rfl rfl (.wanted rfl rfl (.int (m := n) (m' := 9223372036854775807) (r := .bool (decide (n ≤ 9223372036854775807))) rfl rfl rfl rfl rfl (.Zg (v := (vb (decide (n ≤ 9223372036854775807)))) rfl rfl rfl (.nil ?_)))))
     exact ⟨⟨Z1f hc3, rfl, trivial⟩, H.weak (by omega) (Nat.le_refl _)⟩
    ·skip
     refine .pass rfl rfl rfl (.pass rfl rfl rfl (.Zn (v := (vb false)) rfl rfl rfl (.nil ?_)))
     exact ⟨⟨Z1e hc3, rfl, trivial⟩, H.weak (by omega) (Nat.le_refl _)⟩
   ·rintro e σ ⟨he, H⟩
    obtain ⟨e, rfl⟩ := he.ex
    refine .assign (v := (vb ((!minus) && (decide (n ≤ 9223372036854775807))))) rfl rfl (.nila H fun H => ?_)
    refine .whether (v := ((!minus) && (decide (n ≤ 9223372036854775807)))) rfl ?_ ?_ <;> intro hc4
    ·replace h := Z9 hc4 h
     refine .then (.Z0 4 rfl H fun b5 σ H => (.move (v := (vu n)) rfl rfl (.conv (m := n) rfl rfl rfl rfl (.assign (v := (vi (w64 n))) rfl rfl (.assign (v := (vi 0)) rfl rfl ?_)))))
     refine .nila H fun H => (.ret ?_)
     subst h
     exact (Ends.H (xs := [(vi (w64 n)), (vi 0)]) (.inr rfl) H (.tmp (v := (vi (w64 n))) rfl (.tmp (v := (vi 0)) rfl .nil)) (.two (.cons (.c (.v _)) (.cons (.c (.v _)) .nil))))
    ·replace h := Z6 hc4 h
     refine .skip (.then (.Z0 2 rfl H fun b6 σ H => (.assign (v := (vi 0)) rfl rfl (.assign (v := (vi 10)) rfl rfl (.nila H fun H => ?_)))))
     refine .ret ?_
     subst h
     exact (Ends.H (xs := [(vi 0), (vi 10)]) (.inr rfl) H (.tmp (v := (vi 0)) rfl (.tmp (v := (vi 10)) rfl .nil)) (.two (.cons (.c (.v _)) (.cons (.c (.v _)) .nil))))

theorem safe_Mul_fn {a : Int} {b : Int} {r : Int × Int} (h : Z0J a b = r) : Fn CX 59 [(vi a), (vi b)] (.tup [(vi r.1), (vi r.2)]) := by
 refine Fn.ends Try.func59 rfl rfl rfl rfl rfl rfl ?_
 have H : Hs (⟨0, fun _ => .none⟩ : Heap) [] := Has.nil (Nat.le_refl _)
 generalize (⟨0, fun _ => .none⟩ : Heap) = σ at H ⊢
 unfold Z0J at h
 refine .then (.Z0 2 rfl H fun b1 σ H => (.assign (v := (vi 0)) rfl rfl (.assign (v := (vi 0)) rfl rfl (.nila H fun H => (.then ?_)))))
 refine .Z0 10 rfl H fun b2 σ H => (.move (v := (vi a)) rfl rfl (.call (ys := [(vi a)]) (r := (vu (ZD a))) rfl (Z7d rfl) rfl (.move (v := (vi b)) rfl rfl (.call (ys := [(vi b)]) (r := (vu (ZD b))) rfl (Z7d rfl) rfl (.call (ys := [(vu (ZD a)), (vu (ZD b))]) (r := (.tup [(vu (ZI (ZD a) (ZD b)).1), (vu (ZI (ZD a) (ZD b)).2)])) rfl (Z6s rfl) rfl ?_)))))
 refine .move (v := (.tup [(vu (ZI (ZD a) (ZD b)).1), (vu (ZI (ZD a) (ZD b)).2)])) rfl rfl (.extract (v := (vu (ZI (ZD a) (ZD b)).1)) rfl rfl rfl (.extract (v := (vu (ZI (ZD a) (ZD b)).2)) rfl rfl rfl (.assign (v := (vu (ZI (ZD a) (ZD b)).1)) rfl rfl (.assign (v := (vu (ZI (ZD a) (ZD b)).2)) rfl rfl (.nila H fun H => ?_)))))
 refine .then (.then (.Z0 2 rfl H fun b3 σ H => (.move (v := (vu (ZI (ZD a) (ZD b)).1)) rfl rfl (.int (m := (ZI (ZD a) (ZD b)).1) (m' := 0) (r := .bool (((ZI (ZD a) (ZD b)).1) != 0)) rfl rfl rfl rfl rfl (.nila H fun H => ?_)))))
 refine .whether (v := (((ZI (ZD a) (ZD b)).1) != 0)) rfl ?_ ?_ <;> intro hc1
 ·replace h := Z9 hc1 h
  refine .then (.Z0 2 rfl H fun b4 σ H => (.assign (v := (vi 0)) rfl rfl (.assign (v := (vi 10)) rfl rfl (.nila H fun H => (.ret ?_)))))
  subst h
  exact (Ends.H (xs := [(vi 0), (vi 10)]) (.inr rfl) H (.tmp (v := (vi 0)) rfl (.tmp (v := (vi 10)) rfl .nil)) (.two (.cons (.c (.v _)) (.cons (.c (.v _)) .nil))))
 ·replace h := Z6 hc1 h
  refine .skip (.then (.Z0 11 rfl H fun b5 σ H => (.move (v := (vu (ZI (ZD a) (ZD b)).2)) rfl rfl (.move (v := (vi a)) rfl rfl (.int (m := a) (m' := 0) (r := .bool (decide (a < 0))) rfl rfl rfl rfl rfl ?_)))))
  refine .move (v := (vi b)) rfl rfl (.int (m := b) (m' := 0) (r := .bool (decide (b < 0))) rfl rfl rfl rfl rfl (.neB (b := (decide (a < 0))) (b' := (decide (b < 0))) rfl rfl rfl rfl (.call (ys := [(vu (ZI (ZD a) (ZD b)).2), (vb ((decide (a < 0)) != (decide (b < 0))))]) (r := (.tup [(vi (Z0G ((ZI (ZD a) (ZD b)).2) ((decide (a < 0)) != (decide (b < 0)))).1), (vi (Z0G ((ZI (ZD a) (ZD b)).2) ((decide (a < 0)) != (decide (b < 0)))).2)])) rfl (Z8r rfl) rfl (.extract (v := (vi (Z0G ((ZI (ZD a) (ZD b)).2) ((decide (a < 0)) != (decide (b < 0)))).1)) rfl rfl rfl (.extract (v := (vi (Z0G ((ZI (ZD a) (ZD b)).2) ((decide (a < 0)) != (decide (b < 0)))).2)) rfl rfl rfl ?_)))))
  refine .assign (v := (vi (Z0G ((ZI (ZD a) (ZD b)).2) ((decide (a < 0)) != (decide (b < 0)))).1)) rfl rfl (.assign (v := (vi (Z0G ((ZI (ZD a) (ZD b)).2) ((decide (a < 0)) != (decide (b < 0)))).2)) rfl rfl (.nila H fun H => (.ret ?_)))
  subst h
  exact (Ends.H (xs := [(vi (Z0G ((ZI (ZD a) (ZD b)).2) ((decide (a < 0)) != (decide (b < 0)))).1), (vi (Z0G ((ZI (ZD a) (ZD b)).2) ((decide (a < 0)) != (decide (b < 0)))).2)]) (.inr rfl) H (.tmp (v := (vi (Z0G ((ZI (ZD a) (ZD b)).2) ((decide (a < 0)) != (decide (b < 0)))).1)) rfl (.tmp (v := (vi (Z0G ((ZI (ZD a) (ZD b)).2) ((decide (a < 0)) != (decide (b < 0)))).2)) rfl .nil)) (.two (.cons (.c (.v _)) (.cons (.c (.v _)) .nil))))

theorem Z7i {f : Form} {i : Int} {r : (List Span) × Int × Int} (h : Z1x f i = some r) : Fn CX 46 [(.agg (vs (Form.cs f))), (vi i)] (.tup [(vl Span.cs r.1), (vi r.2.1), (vi r.2.2)]) := by
 refine Fn.ends Try.func46 rfl rfl rfl rfl rfl rfl ?_
 have H : Hs (⟨0, fun _ => .none⟩ : Heap) [] := Has.nil (Nat.le_refl _)
 generalize (⟨0, fun _ => .none⟩ : Heap) = σ at H ⊢
 unfold Z1x at h
 refine .then (.Z0 4 rfl H fun b1 σ H => (.boxH (cs := (vF f)) H (by omega) (by omega) rfl rfl rfl fun σ H => (.assign (v := .nils) rfl rfl (.assign (v := (vi 0)) rfl rfl (.assign (v := (vi 0)) rfl rfl ?_)))))
 refine .nila H fun H => (.then (.then (.Z0 8 rfl H fun b2 σ H => (.ZP (off := 0) (cs := (vF f)) H 0 rfl rfl rfl rfl rfl rfl rfl nofun rfl (.move (v := (vi i)) rfl rfl ?_)))))
 obtain ⟨x1, q1, h⟩ := bind_some h
 refine .call (ys := [(.agg (vF f)), (vi i)]) (r := (.tup [(vi x1.1), (vb x1.2)])) rfl (Z8V q1) rfl (.move (v := (.tup [(vi x1.1), (vb x1.2)])) rfl rfl (.extract (v := (vi x1.1)) rfl rfl rfl (.extract (v := (vb x1.2)) rfl rfl rfl (.assign (v := (vi x1.1)) rfl rfl (.assign (v := (vb x1.2)) rfl rfl ?_)))))
 refine .nila H fun H => (.then (.Z0 1 rfl H fun b3 σ H => (.move (v := (vb x1.2)) rfl rfl (.nila H fun H => ?_))))
 refine .whether (v := x1.2) rfl ?_ ?_ <;> intro hc1
 ·replace h := Z9 hc1 h
  refine .then (.Z0 9 rfl H fun b4 σ H => (.Z2 (off := 0) (fo := 3) H 0 rfl rfl rfl rfl rfl nofun rfl (.ZR (off := 3) (v := (vl Granule.cs f.Odd)) H 0 rfl rfl rfl rfl rfl nofun rfl (.move (v := (vi x1.1)) rfl rfl ?_))))
  obtain ⟨x2, q2, h⟩ := bind_some h
  refine .Z0H (c := Granule.cs) (u := x2) rfl rfl q2 rfl rfl rfl rfl (.Z1D rfl rfl rfl rfl (.Z2M (u := (.sl (x2.Ticks.map Span.cs))) rfl rfl rfl rfl (.assign (v := (vl Span.cs x2.Ticks)) rfl rfl (.assign (v := (vi 0)) rfl rfl (.assign (v := (vi 0)) rfl rfl ?_)))))
  refine .nila H fun H => (.ret ?_)
  replace h := sj h; subst h
  exact (Ends.H (xs := [(vl Span.cs x2.Ticks), (vi 0), (vi 0)]) (.inr rfl) H (.tmp (v := (vl Span.cs x2.Ticks)) rfl (.tmp (v := (vi 0)) rfl (.tmp (v := (vi 0)) rfl .nil))) (.two (.cons (.c (.v _)) (.cons (.c (.v _)) (.cons (.c (.v _)) .nil)))))
 ·replace h := Z6 hc1 h
  refine .skip (.then (.then (.Z0 3 rfl H fun b5 σ H => (.Z2 (off := 0) (fo := 1) H 0 rfl rfl rfl rfl rfl nofun rfl (.ZR (off := 1) (v := (vi f.Count)) H 0 rfl rfl rfl rfl rfl nofun rfl ?_)))))
  refine .int (m := f.Count) (m' := 0) (r := .bool (f.Count == 0)) rfl rfl rfl rfl rfl (.nila H fun H => ?_)
  refine .whether (v := (f.Count == 0)) rfl ?_ ?_ <;> intro hc2
  ·replace h := Z9 hc2 h
   refine .then (.Z0 3 rfl H fun b6 σ H => (.assign (v := .nils) rfl rfl (.assign (v := (vi 0)) rfl rfl (.assign (v := (vi 0)) rfl rfl (.nila H fun H => ?_)))))
   refine .ret ?_
   replace h := sj h; subst h
   exact (Ends.H (xs := [.nils, (vi 0), (vi 0)]) (.inr rfl) H (.tmp (v := .nils) rfl (.tmp (v := (vi 0)) rfl (.tmp (v := (vi 0)) rfl .nil))) (.two (.cons (.c .n) (.cons (.c (.v _)) (.cons (.c (.v _)) .nil)))))
  ·replace h := Z6 hc2 h
   refine .skip (.then (.Z0 11 rfl H fun b7 σ H => (.move (v := (vi i)) rfl rfl (.Z2 (off := 0) (fo := 1) H 0 rfl rfl rfl rfl rfl nofun rfl (.ZR (off := 1) (v := (vi f.Count)) H 0 rfl rfl rfl rfl rfl nofun rfl ?_)))))
   obtain ⟨x3, q3, h⟩ := bind_some h
   refine .call (ys := [(vi i), (vi f.Count)]) (r := (.tup [(vi x3.1), (vi x3.2.1), (vi x3.2.2)])) rfl (Z6a q3) rfl (.move (v := (.tup [(vi x3.1), (vi x3.2.1), (vi x3.2.2)])) rfl rfl (.extract (v := (vi x3.1)) rfl rfl rfl (.extract (v := (vi x3.2.1)) rfl rfl rfl (.extract (v := (vi x3.2.2)) rfl rfl rfl (.assign (v := (vi x3.1)) rfl rfl ?_)))))
   refine .assign (v := (vi x3.2.1)) rfl rfl (.assign (v := (vi x3.2.2)) rfl rfl (.nila H fun H => (.then (.Z0 9 rfl H fun b8 σ H => (.move (v := (vi x3.1)) rfl rfl ?_)))))
   refine .Z2 (off := 0) (fo := 0) H 0 rfl rfl rfl rfl rfl nofun rfl (.ZR (off := 0) (v := (vi f.Period)) H 0 rfl rfl rfl rfl rfl nofun rfl (.call (ys := [(vi x3.1), (vi f.Period)]) (r := (.tup [(vi (Z0J x3.1 f.Period).1), (vi (Z0J x3.1 f.Period).2)])) rfl (safe_Mul_fn rfl) rfl (.move (v := (.tup [(vi (Z0J x3.1 f.Period).1), (vi (Z0J x3.1 f.Period).2)])) rfl rfl (.extract (v := (vi (Z0J x3.1 f.Period).1)) rfl rfl rfl (.extract (v := (vi (Z0J x3.1 f.Period).2)) rfl rfl rfl ?_)))))
   refine .assign (v := (vi (Z0J x3.1 f.Period).1)) rfl rfl (.assign (v := (vi (Z0J x3.1 f.Period).2)) rfl rfl (.nila H fun H => (.then (.Z0 10 rfl H fun b9 σ H => (.Z2 (off := 0) (fo := 2) H 0 rfl rfl rfl rfl rfl nofun rfl ?_)))))
   refine .ZR (off := 2) (v := (vl (cL Span.cs) f.Core)) H 0 rfl rfl rfl rfl rfl nofun rfl (.move (v := (vi x3.2.1)) rfl rfl ?_)
   obtain ⟨x4, q4, h⟩ := bind_some h
   refine .Z0H (c := (cL Span.cs)) (u := x4) rfl rfl q4 rfl rfl rfl rfl (.Z2M (u := (.sl (x4.map Span.cs))) rfl rfl rfl rfl (.move (v := (vi (Z0J x3.1 f.Period).1)) rfl rfl (.move (v := (vi (Z0J x3.1 f.Period).2)) rfl rfl (.assign (v := (vl Span.cs x4)) rfl rfl (.assign (v := (vi (Z0J x3.1 f.Period).1)) rfl rfl ?_)))))
   refine .assign (v := (vi (Z0J x3.1 f.Period).2)) rfl rfl (.nila H fun H => (.ret ?_))
   replace h := sj h; subst h
   exact (Ends.H (xs := [(vl Span.cs x4), (vi (Z0J x3.1 f.Period).1), (vi (Z0J x3.1 f.Period).2)]) (.inr rfl) H (.tmp (v := (vl Span.cs x4)) rfl (.tmp (v := (vi (Z0J x3.1 f.Period).1)) rfl (.tmp (v := (vi (Z0J x3.1 f.Period).2)) rfl .nil))) (.two (.cons (.c (.v _)) (.cons (.c (.v _)) (.cons (.c (.v _)) .nil)))))

theorem Z8O {a : Int} {b : Int} {r : Int × Int} (h : ZB a b = r) : Fn CX 60 [(vi a), (vi b)] (.tup [(vi r.1), (vi r.2)]) := by
 refine Fn.ends Try.func60 rfl rfl rfl rfl rfl rfl ?_
 have H : Hs (⟨0, fun _ => .none⟩ : Heap) [] := Has.nil (Nat.le_refl _)
 generalize (⟨0, fun _ => .none⟩ : Heap) = σ at H ⊢
 unfold ZB at h
 refine .then (.Z0 2 rfl H fun b1 σ H => (.assign (v := (vi 0)) rfl rfl (.assign (v := (vi 0)) rfl rfl (.nila H fun H => (.then ?_)))))
 refine .Z0 4 rfl H fun b2 σ H => (.move (v := (vi a)) rfl rfl (.move (v := (vi b)) rfl rfl (.int (m := a) (m' := b) (r := .int .i64 (w64 (a + b))) rfl rfl rfl rfl rfl (.assign (v := (vi (w64 (a + b)))) rfl rfl (.nila H fun H => ?_)))))
 refine .then (.then (.Z0 10 rfl H fun b3 σ H => (.move (v := (vi (w64 (a + b)))) rfl rfl (.move (v := (vi a)) rfl rfl (.int (m := (w64 (a + b))) (m' := a) (r := .bool (decide ((w64 (a + b)) > a))) rfl rfl rfl rfl rfl ?_)))))
 refine .move (v := (vi b)) rfl rfl (.int (m := b) (m' := 0) (r := .bool (decide (b > 0))) rfl rfl rfl rfl rfl (.neB (b := (decide ((w64 (a + b)) > a))) (b' := (decide (b > 0))) rfl rfl rfl rfl (.move (v := (vb ((decide ((w64 (a + b)) > a)) != (decide (b > 0))))) rfl rfl ?_)))
 refine .mid 3 (K1 := fun e σ => Z5 e [(19, (vb (((decide ((w64 (a + b)) > a)) != (decide (b > 0))) && (b != 0)))), (6, (vi (w64 (a + b))))] ∧ Has σ (b3 + 10) (b3 + 10) []) rfl ?_ ?_
 ·refine .split rfl rfl ?_ ?_ <;> intro hc1
  ·skip
   refine .wanted rfl rfl (.move (v := (vi b)) rfl rfl (.wanted rfl rfl (.int (m := b) (m' := 0) (r := .bool (b != 0)) rfl rfl rfl rfl rfl (.Zg (v := (vb (b != 0))) rfl rfl rfl (.nil ?_)))))
   exact ⟨⟨Z1f hc1, rfl, trivial⟩, H.weak (by omega) (Nat.le_refl _)⟩
  ·skip
   refine .pass rfl rfl rfl (.pass rfl rfl rfl (.Zn (v := (vb false)) rfl rfl rfl (.nil ?_)))
   exact ⟨⟨Z1e hc1, rfl, trivial⟩, H.weak (by omega) (Nat.le_refl _)⟩
 ·rintro e σ ⟨he, H⟩
  obtain ⟨e, rfl⟩ := he.ex
  refine .nila H fun H => ?_
  refine .whether (v := (((decide ((w64 (a + b)) > a)) != (decide (b > 0))) && (b != 0))) rfl ?_ ?_ <;> intro hc2
  ·replace h := Z9 hc2 h
   refine .then (.Z0 2 rfl H fun b4 σ H => (.assign (v := (vi 0)) rfl rfl (.assign (v := (vi 10)) rfl rfl (.nila H fun H => (.ret ?_)))))
   subst h
   exact (Ends.H (xs := [(vi 0), (vi 10)]) (.inr rfl) H (.tmp (v := (vi 0)) rfl (.tmp (v := (vi 10)) rfl .nil)) (.two (.cons (.c (.v _)) (.cons (.c (.v _)) .nil))))
  ·replace h := Z6 hc2 h
   refine .skip (.then (.Z0 3 rfl H fun b5 σ H => (.move (v := (vi (w64 (a + b)))) rfl rfl (.assign (v := (vi (w64 (a + b)))) rfl rfl (.assign (v := (vi 0)) rfl rfl ?_)))))
   refine .nila H fun H => (.ret ?_)
   subst h
   exact (Ends.H (xs := [(vi (w64 (a + b))), (vi 0)]) (.inr rfl) H (.tmp (v := (vi (w64 (a + b)))) rfl (.tmp (v := (vi 0)) rfl .nil)) (.two (.cons (.c (.v _)) (.cons (.c (.v _)) .nil))))

end Go.Dn

namespace Go.Dn
open Go Go.Proofs
set_option maxRecDepth 100000
set_option maxHeartbeats 4000000

theorem spans_Move_fn {l : (List Span)} {by' : Int} {r : (List Span) × Int} (h : Z0A l by' = some r) : Fn CX 47 [(vl Span.cs l), (vi by')] (.tup [(vl Span.cs r.1), (vi r.2)]) := by
 refine Fn.ends Try.func47 rfl rfl rfl rfl rfl rfl ?_
 have H : Hs (⟨0, fun _ => .none⟩ : Heap) [] := Has.nil (Nat.le_refl _)
 generalize (⟨0, fun _ => .none⟩ : Heap) = σ at H ⊢
 unfold Z0A at h
 refine .then (.Z0 2 rfl H fun b1 σ H => (.assign (v := .nils) rfl rfl (.assign (v := (vi 0)) rfl rfl (.nila H fun H => (.then ?_)))))
 refine .Z0 1 rfl H fun b2 σ H => (.assign (v := .nils) rfl rfl (.nila H fun H => (.then (.then (.Z0 3 rfl H fun b3 σ H => ?_)))))
 refine .move (v := (vl Span.cs l)) rfl rfl (.Z0T (c := Span.cs) (xs := l) rfl rfl rfl (.move (v := (vi 0)) rfl rfl (.nila H fun H => (.inBlock ?_))))
 replace H := H.pushNil 65 2 true
 obtain ⟨y1, hj1, h⟩ := bind_some h
 obtain ⟨n1, hj1⟩ := Ze.1 hj1
 refine .mono (Runs.ZK hj1 (fun s2 e σ => ∃ (w3 : PV), Z5 e [(1, (vi by')), (6, w3), (13, (vl Span.cs l)), (14, (vi (l.length : Int))), (15, (vi s2.1))] ∧ Hs σ [.sl w3 65 2 (s2.2.map Span.cs) true]) (fun y1 x e σ => (∃ a1, ∃ (w4 : PV), y1 = (.go a1) ∧ x = .exit 0 ∧ Z5 e [(6, w4)] ∧ Hs σ [.sl w4 65 2 (a1.map Span.cs) true]) ∨ (∃ r', y1 = (.ret r') ∧ x = .ret ∧ Ends CX Try.f47.results.toList (.tup [(vl Span.cs r'.1), (vi r'.2)]) x e σ)) ⟨.nils, ⟨rfl, rfl, rfl, rfl, rfl, trivial⟩, H⟩ ?_) ?_
 ·intro s2 e σ hI z h
  obtain ⟨w3, he, H⟩ := hI
  obtain ⟨e, rfl⟩ := he.ex
  unfold Z0A.s0 at h
  refine .then (.Z0 1 rfl H fun b4 σ H => (.int (m := s2.1) (m' := (l.length : Int)) (r := .bool (decide (s2.1 < (l.length : Int)))) rfl rfl rfl rfl rfl (.nila H fun H => (.then ?_))))
  refine .whether (v := (decide (s2.1 < (l.length : Int)))) rfl ?_ ?_ <;> intro hc1
  ·replace h := Z9 hc1 h
   refine .skip (.then (.inBlock (.then (.Z0 4 rfl H fun b5 σ H => ?_))))
   obtain ⟨x1, q1, h⟩ := bind_some h
   refine .Z0H (c := Span.cs) (u := x1) rfl rfl q1 rfl rfl rfl rfl (.Z2g (cs := [(.int .i64 x1.From), (.int .i64 x1.To)]) rfl rfl rfl rfl rfl rfl (.Z0p (cs := [(vi 0), (vi 0)]) H (by omega) (by omega) rfl rfl fun σ H => (.Z0e (off := 0) (cells' := [(vi x1.From), (vi x1.To)]) H 0 rfl rfl rfl rfl rfl rfl rfl rfl rfl nofun fun σ H => (.nila H fun H => (.then ?_)))))
   refine .Z0 9 rfl H fun b6 σ H => (.Z2 (off := 0) (fo := 0) H 0 rfl rfl rfl rfl rfl nofun rfl (.ZR (off := 0) (v := (vi x1.From)) H 0 rfl rfl rfl rfl rfl nofun rfl (.move (v := (vi by')) rfl rfl (.call (ys := [(vi x1.From), (vi by')]) (r := (.tup [(vi (ZB x1.From by').1), (vi (ZB x1.From by').2)])) rfl (Z8O rfl) rfl (.move (v := (.tup [(vi (ZB x1.From by').1), (vi (ZB x1.From by').2)])) rfl rfl ?_)))))
   refine .extract (v := (vi (ZB x1.From by').1)) rfl rfl rfl (.extract (v := (vi (ZB x1.From by').2)) rfl rfl rfl (.assign (v := (vi (ZB x1.From by').1)) rfl rfl (.assign (v := (vi (ZB x1.From by').2)) rfl rfl (.nila H fun H => (.then ?_)))))
   refine .Z0 9 rfl H fun b7 σ H => (.Z2 (off := 0) (fo := 1) H 0 rfl rfl rfl rfl rfl nofun rfl (.ZR (off := 1) (v := (vi x1.To)) H 0 rfl rfl rfl rfl rfl nofun rfl (.move (v := (vi by')) rfl rfl (.call (ys := [(vi x1.To), (vi by')]) (r := (.tup [(vi (ZB x1.To by').1), (vi (ZB x1.To by').2)])) rfl (Z8O rfl) rfl (.move (v := (.tup [(vi (ZB x1.To by').1), (vi (ZB x1.To by').2)])) rfl rfl ?_)))))
   refine .extract (v := (vi (ZB x1.To by').1)) rfl rfl rfl (.extract (v := (vi (ZB x1.To by').2)) rfl rfl rfl (.assign (v := (vi (ZB x1.To by').1)) rfl rfl (.assign (v := (vi (ZB x1.To by').2)) rfl rfl (.nila H fun H => (.then ?_)))))
   refine .then (.Z0 16 rfl H fun b8 σ H => (.move (v := (vi (ZB x1.From by').2)) rfl rfl (.int (m := (ZB x1.From by').2) (m' := 0) (r := .bool (((ZB x1.From by').2) != 0)) rfl rfl rfl rfl rfl (.move (v := (vb (((ZB x1.From by').2) != 0))) rfl rfl ?_))))
   refine .mid 3 (K1 := fun e σ => Z5 e [(38, (vb ((((ZB x1.From by').2) != 0) || (((ZB x1.To by').2) != 0)))), (1, (vi by')), (6, w3), (9, (vi (ZB x1.From by').1)), (11, (vi (ZB x1.To by').1)), (13, (vl Span.cs l)), (14, (vi (l.length : Int))), (15, (vi s2.1))] ∧ Has σ (b8 + 6) (b8 + 16) [.sl w3 65 2 (s2.2.map Span.cs) true]) rfl ?_ ?_
   ·refine .split rfl rfl ?_ ?_ <;> intro hc2
    ·skip
     refine .pass rfl rfl rfl (.pass rfl rfl rfl (.Zg (v := (vb true)) rfl rfl rfl (.nil ?_)))
     exact ⟨⟨or_T hc2, rfl, rfl, rfl, rfl, rfl, rfl, rfl, trivial⟩, (H.erase 0).weak (by omega) (Nat.le_refl _)⟩
    ·skip
     refine .wanted rfl rfl (.move (v := (vi (ZB x1.To by').2)) rfl rfl (.wanted rfl rfl (.int (m := (ZB x1.To by').2) (m' := 0) (r := .bool (((ZB x1.To by').2) != 0)) rfl rfl rfl rfl rfl (.Zn (v := (vb (((ZB x1.To by').2) != 0))) rfl rfl rfl (.nil ?_)))))
     exact ⟨⟨or_F hc2, rfl, rfl, rfl, rfl, rfl, rfl, rfl, trivial⟩, (H.erase 0).weak (by omega) (Nat.le_refl _)⟩
   ·rintro e σ ⟨he, H⟩
    obtain ⟨e, rfl⟩ := he.ex
    refine .move (v := (vb ((((ZB x1.From by').2) != 0) || (((ZB x1.To by').2) != 0)))) rfl rfl ?_
    refine .mid 4 (K1 := fun e σ => Z5 e [(43, (vb (((((ZB x1.From by').2) != 0) || (((ZB x1.To by').2) != 0)) || (!(ZW ((ZB x1.From by').1)))))), (1, (vi by')), (6, w3), (9, (vi (ZB x1.From by').1)), (11, (vi (ZB x1.To by').1)), (13, (vl Span.cs l)), (14, (vi (l.length : Int))), (15, (vi s2.1))] ∧ Has σ (b8 + 11) (b8 + 16) [.sl w3 65 2 (s2.2.map Span.cs) true]) rfl ?_ ?_
    ·refine .split rfl rfl ?_ ?_ <;> intro hc3
     ·skip
      refine .pass rfl rfl rfl (.pass rfl rfl rfl (.pass rfl rfl rfl (.Zg (v := (vb true)) rfl rfl rfl (.nil ?_))))
      exact ⟨⟨or_T hc3, rfl, rfl, rfl, rfl, rfl, rfl, rfl, trivial⟩, H.weak (by omega) (Nat.le_refl _)⟩
     ·skip
      refine .wanted rfl rfl (.move (v := (vi (ZB x1.From by').1)) rfl rfl (.wanted rfl rfl (.call (ys := [(vi (ZB x1.From by').1)]) (r := (vb (ZW ((ZB x1.From by').1)))) rfl (Z3X rfl) rfl (.wanted rfl rfl (.not (b := (ZW ((ZB x1.From by').1))) rfl rfl ?_)))))
      refine .Zn (v := (vb (!(ZW ((ZB x1.From by').1))))) rfl rfl rfl (.nil ?_)
      exact ⟨⟨or_F hc3, rfl, rfl, rfl, rfl, rfl, rfl, rfl, trivial⟩, H.weak (by omega) (Nat.le_refl _)⟩
    ·rintro e σ ⟨he, H⟩
     obtain ⟨e, rfl⟩ := he.ex
     refine .move (v := (vb (((((ZB x1.From by').2) != 0) || (((ZB x1.To by').2) != 0)) || (!(ZW ((ZB x1.From by').1)))))) rfl rfl ?_
     refine .mid 4 (K1 := fun e σ => Z5 e [(48, (vb ((((((ZB x1.From by').2) != 0) || (((ZB x1.To by').2) != 0)) || (!(ZW ((ZB x1.From by').1)))) || (!(ZW ((ZB x1.To by').1)))))), (1, (vi by')), (6, w3), (9, (vi (ZB x1.From by').1)), (11, (vi (ZB x1.To by').1)), (13, (vl Span.cs l)), (14, (vi (l.length : Int))), (15, (vi s2.1))] ∧ Has σ (b8 + 16) (b8 + 16) [.sl w3 65 2 (s2.2.map Span.cs) true]) rfl ?_ ?_
     ·refine .split rfl rfl ?_ ?_ <;> intro hc4
      ·skip
       refine .pass rfl rfl rfl (.pass rfl rfl rfl (.pass rfl rfl rfl (.Zg (v := (vb true)) rfl rfl rfl (.nil ?_))))
       exact ⟨⟨or_T hc4, rfl, rfl, rfl, rfl, rfl, rfl, rfl, trivial⟩, H.weak (by omega) (Nat.le_refl _)⟩
      ·skip
       refine .wanted rfl rfl (.move (v := (vi (ZB x1.To by').1)) rfl rfl (.wanted rfl rfl (.call (ys := [(vi (ZB x1.To by').1)]) (r := (vb (ZW ((ZB x1.To by').1)))) rfl (Z3X rfl) rfl (.wanted rfl rfl (.not (b := (ZW ((ZB x1.To by').1))) rfl rfl ?_)))))
       refine .Zn (v := (vb (!(ZW ((ZB x1.To by').1))))) rfl rfl rfl (.nil ?_)
       exact ⟨⟨or_F hc4, rfl, rfl, rfl, rfl, rfl, rfl, rfl, trivial⟩, H.weak (by omega) (Nat.le_refl _)⟩
     ·rintro e σ ⟨he, H⟩
      obtain ⟨e, rfl⟩ := he.ex
      refine .nila H fun H => ?_
      refine .whether (v := ((((((ZB x1.From by').2) != 0) || (((ZB x1.To by').2) != 0)) || (!(ZW ((ZB x1.From by').1)))) || (!(ZW ((ZB x1.To by').1))))) rfl ?_ ?_ <;> intro hc5
      ·replace h := Z9 hc5 h
       refine .then (.Z0 2 rfl H fun b9 σ H => (.assign (v := .nils) rfl rfl (.assign (v := (vi 20)) rfl rfl (.nila H fun H => (.ret ?_)))))
       replace h := sj h; subst h
       exact ⟨nofun, (.inr ⟨_, rfl, rfl, (Ends.H (xs := [.nils, (vi 20)]) (.inr rfl) H (.tmp (v := .nils) rfl (.tmp (v := (vi 20)) rfl .nil)) (.two (.cons (.c .n) (.cons (.c (.v _)) .nil))))⟩)⟩
      ·replace h := Z6 hc5 h
       refine .skip (.Z0 7 rfl H fun b10 σ H => (.move (v := w3) rfl rfl (.move (v := (vi (ZB x1.From by').1)) rfl rfl (.move (v := (vi (ZB x1.To by').1)) rfl rfl (.Z0q (cs := [(vi (ZB x1.From by').1), (vi (ZB x1.To by').1)]) rfl rfl ?_)))))
       refine .Z3K (sz := 2) ([(Span.mk ((ZB x1.From by').1) ((ZB x1.To by').1))].map Span.cs) H (by omega) (by omega) rfl rfl rfl rfl rfl rfl rfl rfl rfl fun σ H => ?_
       obtain ⟨x2, q2, h⟩ := bind_some h
       refine .appendSt (c := Span.cs) (v := w3) (w := (.buf (b10 + 4) 1 2)) (xs := s2.2) (ys := [(Span.mk ((ZB x1.From by').1) ((ZB x1.To by').1))]) H (by omega) (by omega) 1 rfl rfl rfl (.s 0 rfl) q2 rfl rfl rfl rfl rfl nofun rfl fun w5 σ H => (.assign (v := w5) rfl rfl (.nila H fun H => (.Z0 2 rfl H fun b11 σ H => (.int (m := s2.1) (m' := 1) (r := .int .i64 (w64 (s2.1 + 1))) rfl rfl rfl rfl rfl (.move (v := (vi (w64 (s2.1 + 1)))) rfl rfl ?_)))))
       refine .nila H fun H => ?_
       replace h := sj h; subst h
       exact ⟨rfl, w5, ⟨rfl, rfl, rfl, rfl, rfl, trivial⟩, (H.erase 0)⟩
  ·replace h := Z6 hc1 h
   refine .exit ?_
   replace h := sj h; subst h
   exact ⟨nofun, (.inl ⟨_, w3, rfl, rfl, ⟨rfl, trivial⟩, H⟩)⟩
 ·rintro x e σ (⟨a2, w6, rfl, rfl, he, H⟩ | ⟨r', rfl, rfl, hE⟩)
  ·skip
   replace h := jgo h
   obtain ⟨e, rfl⟩ := he.ex
   refine .then (.Z0 3 rfl H fun b12 σ H => (.move (v := w6) rfl rfl (.assign (v := w6) rfl rfl (.assign (v := (vi 0)) rfl rfl (.nila H fun H => ?_)))))
   refine .ret ?_
   replace h := sj h; subst h
   exact (Ends.H (xs := [w6, (vi 0)]) (.inr rfl) H (.tmp (v := w6) rfl (.tmp (v := (vi 0)) rfl .nil)) (.two (.cons (.c (.s 0 rfl)) (.cons (.c (.v _)) .nil))))
  ·skip
   replace h := jret h
   replace h := sj h; subst h
   exact hE

theorem Z3b {f : Form} {i : Int} {r : (List Span) × Int} (h : Z0F f i = some r) : Fn CX 29 [(.agg (vs (Form.cs f))), (vi i)] (.tup [(vl Span.cs r.1), (vi r.2)]) := by
 refine Fn.ends Try.func29 rfl rfl rfl rfl rfl rfl ?_
 have H : Hs (⟨0, fun _ => .none⟩ : Heap) [] := Has.nil (Nat.le_refl _)
 generalize (⟨0, fun _ => .none⟩ : Heap) = σ at H ⊢
 unfold Z0F at h
 refine .then (.Z0 3 rfl H fun b1 σ H => (.boxH (cs := (vF f)) H (by omega) (by omega) rfl rfl rfl fun σ H => (.assign (v := .nils) rfl rfl (.assign (v := (vi 0)) rfl rfl (.nila H fun H => ?_)))))
 refine .then (.then (.Z0 3 rfl H fun b2 σ H => (.move (v := (vi i)) rfl rfl (.call (ys := [(vi i)]) (r := (vb (Zh i))) rfl (Z3q rfl) rfl (.not (b := (Zh i)) rfl rfl ?_)))))
 refine .nila H fun H => ?_
 refine .whether (v := (!(Zh i))) rfl ?_ ?_ <;> intro hc1
 ·replace h := Z9 hc1 h
  refine .then (.Z0 2 rfl H fun b3 σ H => (.assign (v := .nils) rfl rfl (.assign (v := (vi 20)) rfl rfl (.nila H fun H => (.ret ?_)))))
  replace h := sj h; subst h
  exact (Ends.H (xs := [.nils, (vi 20)]) (.inr rfl) H (.tmp (v := .nils) rfl (.tmp (v := (vi 20)) rfl .nil)) (.two (.cons (.c .n) (.cons (.c (.v _)) .nil))))
 ·replace h := Z6 hc1 h
  refine .skip (.then (.Z0 10 rfl H fun b4 σ H => (.ZP (off := 0) (cs := (vF f)) H 0 rfl rfl rfl rfl rfl rfl rfl nofun rfl (.move (v := (vi i)) rfl rfl ?_))))
  obtain ⟨x1, q1, h⟩ := bind_some h
  refine .call (ys := [(.agg (vF f)), (vi i)]) (r := (.tup [(vl Span.cs x1.1), (vi x1.2.1), (vi x1.2.2)])) rfl (Z7i q1) rfl (.move (v := (.tup [(vl Span.cs x1.1), (vi x1.2.1), (vi x1.2.2)])) rfl rfl (.extract (v := (vl Span.cs x1.1)) rfl rfl rfl (.extract (v := (vi x1.2.1)) rfl rfl rfl (.extract (v := (vi x1.2.2)) rfl rfl rfl (.assign (v := (vl Span.cs x1.1)) rfl rfl ?_)))))
  refine .assign (v := (vi x1.2.1)) rfl rfl (.assign (v := (vi x1.2.2)) rfl rfl (.nila H fun H => (.then (.then (.Z0 3 rfl H fun b5 σ H => ?_)))))
  refine .move (v := (vl Span.cs x1.1)) rfl rfl (.Z0T (c := Span.cs) (xs := x1.1) rfl rfl rfl (.int (m := (x1.1.length : Int)) (m' := 0) (r := .bool ((x1.1.length : Int) == 0)) rfl rfl rfl rfl rfl (.nila H fun H => ?_)))
  refine .whether (v := ((x1.1.length : Int) == 0)) rfl ?_ ?_ <;> intro hc2
  ·replace h := Z9 hc2 h
   refine .then (.Z0 2 rfl H fun b6 σ H => (.assign (v := .nils) rfl rfl (.assign (v := (vi 0)) rfl rfl (.nila H fun H => (.ret ?_)))))
   replace h := sj h; subst h
   exact (Ends.H (xs := [.nils, (vi 0)]) (.inr rfl) H (.tmp (v := .nils) rfl (.tmp (v := (vi 0)) rfl .nil)) (.two (.cons (.c .n) (.cons (.c (.v _)) .nil))))
  ·replace h := Z6 hc2 h
   refine .skip (.then (.then (.Z0 2 rfl H fun b7 σ H => (.move (v := (vi x1.2.2)) rfl rfl (.int (m := x1.2.2) (m' := 0) (r := .bool (x1.2.2 != 0)) rfl rfl rfl rfl rfl ?_)))))
   refine .nila H fun H => ?_
   refine .whether (v := (x1.2.2 != 0)) rfl ?_ ?_ <;> intro hc3
   ·replace h := Z9 hc3 h
    refine .then (.Z0 2 rfl H fun b8 σ H => (.assign (v := .nils) rfl rfl (.assign (v := (vi 20)) rfl rfl (.nila H fun H => (.ret ?_)))))
    replace h := sj h; subst h
    exact (Ends.H (xs := [.nils, (vi 20)]) (.inr rfl) H (.tmp (v := .nils) rfl (.tmp (v := (vi 20)) rfl .nil)) (.two (.cons (.c .n) (.cons (.c (.v _)) .nil))))
   ·replace h := Z6 hc3 h
    refine .skip (.then (.Z0 7 rfl H fun b9 σ H => (.move (v := (vl Span.cs x1.1)) rfl rfl (.move (v := (vi x1.2.1)) rfl rfl ?_))))
    obtain ⟨x2, q2, h⟩ := bind_some h
    refine .call (ys := [(vl Span.cs x1.1), (vi x1.2.1)]) (r := (.tup [(vl Span.cs x2.1), (vi x2.2)])) rfl (spans_Move_fn q2) rfl (.extract (v := (vl Span.cs x2.1)) rfl rfl rfl (.extract (v := (vi x2.2)) rfl rfl rfl (.assign (v := (vl Span.cs x2.1)) rfl rfl (.assign (v := (vi x2.2)) rfl rfl (.nila H fun H => ?_)))))
    refine .ret ?_
    replace h := sj h; subst h
    exact (Ends.H (xs := [(vl Span.cs x2.1), (vi x2.2)]) (.inr rfl) H (.tmp (v := (vl Span.cs x2.1)) rfl (.tmp (v := (vi x2.2)) rfl .nil)) (.two (.cons (.c (.v _)) (.cons (.c (.v _)) .nil))))

theorem Z2r {s : (List (List Span))} {f : (List Span) → Option Bool} {C : List Res} {cv0 : PV} (hs0 : cv0.still = true) (hp0 : cv0.pure = true → C = []) (hf0 : ∀ z0 y, f z0 = some y → CloH CX cv0 [(vl Span.cs z0)] (vb y) C) {r : Int} (h : ZF s f = some r) : FnH CX 76 [(vl (cL Span.cs) s), cv0] (vi r) C := by
 refine FnH.of Try.func76 rfl rfl rfl rfl (Z2O rfl (Z2O hs0 all_nil)) rfl (fun h => hp0 (Z2y h 1 rfl)) ?_
 intro σ L hC H
 unfold ZF at h
 refine .then (.Z0 1 rfl H fun b1 σ H => (.assign (v := (vi 0)) rfl rfl (.nila H fun H => (.then (.then ?_)))))
 refine .Z0 3 rfl H fun b2 σ H => (.move (v := (vl (cL Span.cs) s)) rfl rfl (.Z0T (c := (cL Span.cs)) (xs := s) rfl rfl rfl (.move (v := (vi 0)) rfl rfl (.nila H fun H => (.inBlock ?_)))))
 obtain ⟨y1, hj1, h⟩ := bind_some h
 obtain ⟨n1, hj1⟩ := Ze.1 hj1
 refine .mono (Runs.ZK hj1 (fun s1 e σ => Z5 e [(0, (vl (cL Span.cs) s)), (1, cv0), (7, (vi (s.length : Int))), (8, (vi s1))] ∧ Hs σ (L)) (fun y1 x e σ => (∃ a1, y1 = (.go a1) ∧ x = .exit 0 ∧ Z5 e [] ∧ Hs σ (L)) ∨ (∃ r', y1 = (.ret r') ∧ x = .ret ∧ EndsH CX Try.f76.results.toList (vi r') L x e σ)) ⟨⟨rfl, rfl, rfl, rfl, trivial⟩, H⟩ ?_) ?_
 ·intro s1 e σ hI z h
  obtain ⟨he, H⟩ := hI
  obtain ⟨e, rfl⟩ := he.ex
  unfold ZF.s0 at h
  refine .then (.Z0 1 rfl H fun b3 σ H => (.int (m := s1) (m' := (s.length : Int)) (r := .bool (decide (s1 < (s.length : Int)))) rfl rfl rfl rfl rfl (.nila H fun H => (.then ?_))))
  refine .whether (v := (decide (s1 < (s.length : Int)))) rfl ?_ ?_ <;> intro hc1
  ·replace h := Z9 hc1 h
   refine .skip (.then (.inBlock (.then (.Z0 2 rfl H fun b4 σ H => (.move (v := (vi s1)) rfl rfl ?_)))))
   refine .assign (v := (vi s1)) rfl rfl (.nila H fun H => (.then (.Z0 6 rfl H fun b5 σ H => (.move (v := cv0) rfl rfl (.move (v := (vl (cL Span.cs) s)) rfl rfl ?_)))))
   refine .move (v := (vi s1)) rfl rfl ?_
   obtain ⟨x1, q1, h⟩ := bind_some h
   refine .Z0H (c := (cL Span.cs)) (u := x1) rfl rfl q1 rfl rfl rfl rfl (.Z2M (u := (.sl (x1.map Span.cs))) rfl rfl rfl rfl ?_)
   obtain ⟨x2, q2, h⟩ := bind_some h
   refine .callV (cv := cv0) (ys := [(vl Span.cs x1)]) (r := (vb x2)) H rfl rfl (hf0 x1 _ q2) hC nofun rfl fun σ H => (.nila H fun H => ?_)
   refine .whether (v := x2) rfl ?_ ?_ <;> intro hc2
   ·replace h := Z9 hc2 h
    refine .then (.Z0 2 rfl H fun b6 σ H => (.move (v := (vi s1)) rfl rfl (.assign (v := (vi s1)) rfl rfl (.nila H fun H => (.ret ?_)))))
    replace h := sj h; subst h
    exact ⟨nofun, (.inr ⟨_, rfl, rfl, (EndsH.H (xs := [(vi s1)]) (.inr rfl) H (.tmp (v := (vi s1)) rfl .nil) (.one (.c (.v _))) 0 rfl)⟩)⟩
   ·replace h := Z6 hc2 h
    refine .skip (.Z0 2 rfl H fun b7 σ H => (.int (m := s1) (m' := 1) (r := .int .i64 (w64 (s1 + 1))) rfl rfl rfl rfl rfl (.move (v := (vi (w64 (s1 + 1)))) rfl rfl (.nila H fun H => ?_))))
    replace h := sj h; subst h
    exact ⟨rfl, ⟨rfl, rfl, rfl, rfl, trivial⟩, H⟩
  ·replace h := Z6 hc1 h
   refine .exit ?_
   replace h := sj h; subst h
   exact ⟨nofun, (.inl ⟨_, rfl, rfl, trivial, H⟩)⟩
 ·rintro x e σ (⟨a2, rfl, rfl, he, H⟩ | ⟨r', rfl, rfl, hE⟩)
  ·skip
   replace h := jgo h
   obtain ⟨e, rfl⟩ := he.ex
   refine .then (.Z0 1 rfl H fun b8 σ H => (.assign (v := (vi (-1))) rfl rfl (.nila H fun H => (.ret ?_))))
   replace h := sj h; subst h
   exact (EndsH.H (xs := [(vi (-1))]) (.inr rfl) H (.tmp (v := (vi (-1))) rfl .nil) (.one (.c (.v _))) 0 rfl)
  ·skip
   replace h := jret h
   replace h := sj h; subst h
   exact hE

theorem Z2R {s : (List (List Span))} {f : (List Span) → Option Bool} {C : List Res} {cv0 : PV} (hs0 : cv0.still = true) (hp0 : cv0.pure = true → C = []) (hf0 : ∀ z0 y, f z0 = some y → CloH CX cv0 [(vl Span.cs z0)] (vb y) C) {r : Bool} (h : ZY s f = some r) : FnH CX 72 [(vl (cL Span.cs) s), cv0] (vb r) C := by
 refine FnH.of Try.func72 rfl rfl rfl rfl (Z2O rfl (Z2O hs0 all_nil)) rfl (fun h => hp0 (Z2y h 1 rfl)) ?_
 intro σ L hC H
 unfold ZY at h
 refine .then (.Z0 1 rfl H fun b1 σ H => (.assign (v := (vb false)) rfl rfl (.nila H fun H => (.then (.Z0 5 rfl H fun b2 σ H => ?_)))))
 refine .move (v := (vl (cL Span.cs) s)) rfl rfl (.move (v := cv0) rfl rfl ?_)
 obtain ⟨x1, q1, h⟩ := bind_some h
 refine .Z6h (ys := [(vl (cL Span.cs) s), cv0]) (r := (vi x1)) H rfl (Z2r (C := C) hs0 hp0 hf0 q1) hC nofun rfl fun σ H => (.int (m := x1) (m' := 0) (r := .bool (decide (x1 ≥ 0))) rfl rfl rfl rfl rfl (.assign (v := (vb (decide (x1 ≥ 0)))) rfl rfl (.nila H fun H => (.ret ?_))))
 replace h := sj h; subst h
 exact (EndsH.H (xs := [(vb (decide (x1 ≥ 0)))]) (.inr rfl) H (.tmp (v := (vb (decide (x1 ≥ 0)))) rfl .nil) (.one (.c (.v _))) 0 rfl)

theorem Z9K {l : (List Span)} {r : Bool} (h : Z3c l = r) : Fn CX 73 [(vl Span.cs l)] (vb r) := by
 refine Fn.ends Try.func73 rfl rfl rfl rfl rfl rfl ?_
 have H : Hs (⟨0, fun _ => .none⟩ : Heap) [] := Has.nil (Nat.le_refl _)
 generalize (⟨0, fun _ => .none⟩ : Heap) = σ at H ⊢
 unfold Z3c at h
 refine .then (.Z0 1 rfl H fun b1 σ H => (.assign (v := (vb false)) rfl rfl (.nila H fun H => (.then (.Z0 4 rfl H fun b2 σ H => ?_)))))
 refine .move (v := (vl Span.cs l)) rfl rfl (.Z0T (c := Span.cs) (xs := l) rfl rfl rfl (.int (m := (l.length : Int)) (m' := 0) (r := .bool (decide ((l.length : Int) > 0))) rfl rfl rfl rfl rfl (.assign (v := (vb (decide ((l.length : Int) > 0)))) rfl rfl (.nila H fun H => (.ret ?_)))))
 subst h
 exact (Ends.H (xs := [(vb (decide ((l.length : Int) > 0)))]) (.inr rfl) H (.tmp (v := (vb (decide ((l.length : Int) > 0)))) rfl .nil) (.one (.c (.v _))))

theorem gran_bare_fn {f : Form} {r : Bool} (h : Z3O f = some r) : Fn CX 61 [(.agg (vs (Form.cs f)))] (vb r) := by
 refine Fn.ends Try.func61 rfl rfl rfl rfl rfl rfl ?_
 have H : Hs (⟨0, fun _ => .none⟩ : Heap) [] := Has.nil (Nat.le_refl _)
 generalize (⟨0, fun _ => .none⟩ : Heap) = σ at H ⊢
 unfold Z3O at h
 refine .then (.Z0 2 rfl H fun b1 σ H => (.boxH (cs := (vF f)) H (by omega) (by omega) rfl rfl rfl fun σ H => (.assign (v := (vb false)) rfl rfl (.nila H fun H => (.then ?_)))))
 refine .Z0 5 rfl H fun b2 σ H => (.Z2 (off := 0) (fo := 2) H 0 rfl rfl rfl rfl rfl nofun rfl (.ZR (off := 2) (v := (vl (cL Span.cs) f.Core)) H 0 rfl rfl rfl rfl rfl nofun rfl ?_))
 obtain ⟨x1, q1, h⟩ := bind_some h
 refine .Z6h (ys := [(vl (cL Span.cs) f.Core), (.v (.fn 73))]) (r := (vb x1)) H rfl (Z2R (C := []) rfl (fun _ => rfl) (fun z0 y hz => (CloH.fn (Fn.toH (Z9K (Option.some.inj hz)) _))) q1) .nil nofun rfl fun σ H => (.not (b := x1) rfl rfl (.assign (v := (vb (!x1))) rfl rfl (.nila H fun H => (.ret ?_))))
 replace h := sj h; subst h
 exact (Ends.H (xs := [(vb (!x1))]) (.inr rfl) H (.tmp (v := (vb (!x1))) rfl .nil) (.one (.c (.v _))))

theorem gran_some_fn {f : Form} {i : Int} {r : Bool} (h : Z3J f i = some r) : Fn CX 62 [(.agg (vs (Form.cs f))), (vi i)] (vb r) := by
 refine Fn.ends Try.func62 rfl rfl rfl rfl rfl rfl ?_
 have H : Hs (⟨0, fun _ => .none⟩ : Heap) [] := Has.nil (Nat.le_refl _)
 generalize (⟨0, fun _ => .none⟩ : Heap) = σ at H ⊢
 unfold Z3J at h
 refine .then (.Z0 2 rfl H fun b1 σ H => (.boxH (cs := (vF f)) H (by omega) (by omega) rfl rfl rfl fun σ H => (.assign (v := (vb false)) rfl rfl (.nila H fun H => (.then ?_)))))
 refine .Z0 10 rfl H fun b2 σ H => (.ZP (off := 0) (cs := (vF f)) H 0 rfl rfl rfl rfl rfl rfl rfl nofun rfl (.move (v := (vi i)) rfl rfl ?_))
 obtain ⟨x1, q1, h⟩ := bind_some h
 refine .call (ys := [(.agg (vF f)), (vi i)]) (r := (.tup [(vl Span.cs x1.1), (vi x1.2.1), (vi x1.2.2)])) rfl (Z7i q1) rfl (.move (v := (.tup [(vl Span.cs x1.1), (vi x1.2.1), (vi x1.2.2)])) rfl rfl (.extract (v := (vl Span.cs x1.1)) rfl rfl rfl (.extract (v := (vi x1.2.1)) rfl rfl rfl (.extract (v := (vi x1.2.2)) rfl rfl rfl (.assign (v := (vl Span.cs x1.1)) rfl rfl ?_)))))
 refine .assign (v := (vi x1.2.1)) rfl rfl (.assign (v := (vi x1.2.2)) rfl rfl (.nila H fun H => (.then (.Z0 4 rfl H fun b3 σ H => (.move (v := (vl Span.cs x1.1)) rfl rfl ?_)))))
 refine .Z0T (c := Span.cs) (xs := x1.1) rfl rfl rfl (.int (m := (x1.1.length : Int)) (m' := 0) (r := .bool (decide ((x1.1.length : Int) > 0))) rfl rfl rfl rfl rfl (.assign (v := (vb (decide ((x1.1.length : Int) > 0)))) rfl rfl (.nila H fun H => (.ret ?_))))
 replace h := sj h; subst h
 exact (Ends.H (xs := [(vb (decide ((x1.1.length : Int) > 0)))]) (.inr rfl) H (.tmp (v := (vb (decide ((x1.1.length : Int) > 0)))) rfl .nil) (.one (.c (.v _))))

theorem Z7F {f : Form} {from' : Int} {by' : Int} {r : Int × Bool} (h : Zq f from' by' = some r) : Fn CX 48 [(.agg (vs (Form.cs f))), (vi from'), (vi by')] (.tup [(vi r.1), (vb r.2)]) := by
 refine Fn.ends Try.func48 rfl rfl rfl rfl rfl rfl ?_
 have H : Hs (⟨0, fun _ => .none⟩ : Heap) [] := Has.nil (Nat.le_refl _)
 generalize (⟨0, fun _ => .none⟩ : Heap) = σ at H ⊢
 unfold Zq at h
 refine .then (.Z0 3 rfl H fun b1 σ H => (.boxH (cs := (vF f)) H (by omega) (by omega) rfl rfl rfl fun σ H => (.assign (v := (vi 0)) rfl rfl (.assign (v := (vb false)) rfl rfl (.nila H fun H => ?_)))))
 refine .then (.then (.Z0 2 rfl H fun b2 σ H => (.ZP (off := 0) (cs := (vF f)) H 0 rfl rfl rfl rfl rfl rfl rfl nofun rfl ?_)))
 obtain ⟨x1, q1, h⟩ := bind_some h
 refine .call (ys := [(.agg (vF f))]) (r := (vb x1)) rfl (gran_bare_fn q1) rfl (.nila H fun H => ?_)
 refine .whether (v := x1) rfl ?_ ?_ <;> intro hc1
 ·replace h := Z9 hc1 h
  refine .then (.Z0 8 rfl H fun b3 σ H => (.ZP (off := 0) (cs := (vF f)) H 0 rfl rfl rfl rfl rfl rfl rfl nofun rfl (.move (v := (vi from')) rfl rfl ?_)))
  obtain ⟨x2, q2, h⟩ := bind_some h
  refine .call (ys := [(.agg (vF f)), (vi from')]) (r := (.tup [(vi x2.1), (vb x2.2)])) rfl (Z8V q2) rfl (.move (v := (.tup [(vi x2.1), (vb x2.2)])) rfl rfl (.extract (v := (vi x2.1)) rfl rfl rfl (.extract (v := (vb x2.2)) rfl rfl rfl (.assign (v := (vi x2.1)) rfl rfl (.assign (v := (vb x2.2)) rfl rfl ?_)))))
  refine .nila H fun H => (.then ?_)
  obtain ⟨y1, hj1, h⟩ := bind_some h
  refine .mono (Q := fun x e σ => x = .normal ∧ Z5 e [(2, (vi by')), (3, (.ptr (b1 + 0) 4 0)), (8, (vi y1))] ∧ Hs σ [.blk (b1 + 0) 25 (vF f)]) ?_ ?_
  ·replace h := hj1
   refine .then (.Z0 6 rfl H fun b4 σ H => (.move (v := (vi by')) rfl rfl (.int (m := by') (m' := 0) (r := .bool (decide (by' < 0))) rfl rfl rfl rfl rfl (.move (v := (vb (decide (by' < 0)))) rfl rfl ?_))))
   refine .mid 3 (K1 := fun e σ => Z5 e [(24, (vb ((decide (by' < 0)) && (!x2.2)))), (2, (vi by')), (3, (.ptr (b1 + 0) 4 0)), (8, (vi x2.1))] ∧ Has σ (b4 + 6) (b4 + 6) [.blk (b1 + 0) 25 (vF f)]) rfl ?_ ?_
   ·refine .split rfl rfl ?_ ?_ <;> intro hc2
    ·skip
     refine .wanted rfl rfl (.move (v := (vb x2.2)) rfl rfl (.wanted rfl rfl (.not (b := x2.2) rfl rfl (.Zg (v := (vb (!x2.2))) rfl rfl rfl (.nil ?_)))))
     exact ⟨⟨Z1f hc2, rfl, rfl, rfl, trivial⟩, H.weak (by omega) (Nat.le_refl _)⟩
    ·skip
     refine .pass rfl rfl rfl (.pass rfl rfl rfl (.Zn (v := (vb false)) rfl rfl rfl (.nil ?_)))
     exact ⟨⟨Z1e hc2, rfl, rfl, rfl, trivial⟩, H.weak (by omega) (Nat.le_refl _)⟩
   ·rintro e σ ⟨he, H⟩
    obtain ⟨e, rfl⟩ := he.ex
    refine .nila H fun H => ?_
    refine .whether (v := ((decide (by' < 0)) && (!x2.2))) rfl ?_ ?_ <;> intro hc3
    ·replace h := Z9 hc3 h
     refine .Z0 3 rfl H fun b5 σ H => (.move (v := (vi x2.1)) rfl rfl (.int (m := x2.1) (m' := 1) (r := .int .i64 (w64 (x2.1 - 1))) rfl rfl rfl rfl rfl (.assign (v := (vi (w64 (x2.1 - 1)))) rfl rfl (.nila H fun H => ?_))))
     replace h := sj h; subst h
     exact ⟨rfl, ⟨rfl, rfl, rfl, trivial⟩, H⟩
    ·replace h := Z6 hc3 h
     refine .skip ?_
     replace h := sj h; subst h
     exact ⟨rfl, ⟨rfl, rfl, rfl, trivial⟩, H⟩
  ·rintro x e σ ⟨rfl, he, H⟩
   obtain ⟨e, rfl⟩ := he.ex
   refine .then (.inBlock ?_)
   obtain ⟨y2, hj2, h⟩ := bind_some h
   obtain ⟨n1, hj2⟩ := Ze.1 hj2
   refine .mono (Runs.ZK hj2 (fun s1 e σ => Z5 e [(2, (vi by')), (3, (.ptr (b1 + 0) 4 0)), (8, (vi s1))] ∧ Hs σ [.blk (b1 + 0) 25 (vF f)]) (fun y2 x e σ => (∃ a1, y2 = (.go a1) ∧ x = .exit 0 ∧ Z5 e [] ∧ Hs σ []) ∨ (∃ r', y2 = (.ret r') ∧ x = .ret ∧ Ends CX Try.f48.results.toList (.tup [(vi r'.1), (vb r'.2)]) x e σ)) ⟨⟨rfl, rfl, rfl, trivial⟩, H⟩ ?_) ?_
   ·intro s1 e σ hI z h
    obtain ⟨he, H⟩ := hI
    obtain ⟨e, rfl⟩ := he.ex
    unfold Zq.s0 at h
    refine .then (.then (.Z0 9 rfl H fun b6 σ H => (.move (v := (vi s1)) rfl rfl (.int (m := s1) (m' := 0) (r := .bool (decide (s1 ≥ 0))) rfl rfl rfl rfl rfl (.move (v := (vb (decide (s1 ≥ 0)))) rfl rfl ?_)))))
    refine .mid 6 (K1 := fun e σ => Z5 e [(35, (vb ((decide (s1 ≥ 0)) && (decide (s1 < (f.Odd.length : Int)))))), (2, (vi by')), (3, (.ptr (b1 + 0) 4 0)), (8, (vi s1))] ∧ Has σ (b6 + 9) (b6 + 9) [.blk (b1 + 0) 25 (vF f)]) rfl ?_ ?_
    ·refine .split rfl rfl ?_ ?_ <;> intro hc4
     ·skip
      refine .wanted rfl rfl (.move (v := (vi s1)) rfl rfl (.wanted rfl rfl (.Z2 (off := 0) (fo := 3) H 0 rfl rfl rfl rfl rfl nofun rfl (.wanted rfl rfl (.ZR (off := 3) (v := (vl Granule.cs f.Odd)) H 0 rfl rfl rfl rfl rfl nofun rfl ?_)))))
      refine .wanted rfl rfl (.Z0T (c := Granule.cs) (xs := f.Odd) rfl rfl rfl (.wanted rfl rfl (.int (m := s1) (m' := (f.Odd.length : Int)) (r := .bool (decide (s1 < (f.Odd.length : Int)))) rfl rfl rfl rfl rfl (.Zg (v := (vb (decide (s1 < (f.Odd.length : Int))))) rfl rfl rfl (.nil ?_)))))
      exact ⟨⟨Z1f hc4, rfl, rfl, rfl, trivial⟩, H.weak (by omega) (Nat.le_refl _)⟩
     ·skip
      refine .pass rfl rfl rfl (.pass rfl rfl rfl (.pass rfl rfl rfl (.pass rfl rfl rfl (.pass rfl rfl rfl (.Zn (v := (vb false)) rfl rfl rfl ?_)))))
      refine .nil ?_
      exact ⟨⟨Z1e hc4, rfl, rfl, rfl, trivial⟩, H.weak (by omega) (Nat.le_refl _)⟩
    ·rintro e σ ⟨he, H⟩
     obtain ⟨e, rfl⟩ := he.ex
     refine .nila H fun H => ?_
     refine .whether (v := ((decide (s1 ≥ 0)) && (decide (s1 < (f.Odd.length : Int))))) rfl ?_ ?_ <;> intro hc5
     ·replace h := Z9 hc5 h
      refine .skip (.then (.inBlock (.then (.Z0 8 rfl H fun b7 σ H => (.Z2 (off := 0) (fo := 3) H 0 rfl rfl rfl rfl rfl nofun rfl ?_)))))
      refine .ZR (off := 3) (v := (vl Granule.cs f.Odd)) H 0 rfl rfl rfl rfl rfl nofun rfl (.move (v := (vi s1)) rfl rfl ?_)
      obtain ⟨x3, q3, h⟩ := bind_some h
      refine .Z0H (c := Granule.cs) (u := x3) rfl rfl q3 rfl rfl rfl rfl (.Z1D rfl rfl rfl rfl (.Z2M (u := (.sl (x3.Ticks.map Span.cs))) rfl rfl rfl rfl (.Z0T (c := Span.cs) (xs := x3.Ticks) rfl rfl rfl (.int (m := (x3.Ticks.length : Int)) (m' := 0) (r := .bool (decide ((x3.Ticks.length : Int) > 0))) rfl rfl rfl rfl rfl (.nila H fun H => ?_)))))
      refine .whether (v := (decide ((x3.Ticks.length : Int) > 0))) rfl ?_ ?_ <;> intro hc6
      ·replace h := Z9 hc6 h
       refine .then (.Z0 8 rfl H fun b8 σ H => (.Z2 (off := 0) (fo := 3) H 0 rfl rfl rfl rfl rfl nofun rfl (.ZR (off := 3) (v := (vl Granule.cs f.Odd)) H 0 rfl rfl rfl rfl rfl nofun rfl (.move (v := (vi s1)) rfl rfl ?_))))
       obtain ⟨x4, q4, h⟩ := bind_some h
       refine .Z0H (c := Granule.cs) (u := x4) rfl rfl q4 rfl rfl rfl rfl (.Z1D rfl rfl rfl rfl (.Z2M (u := (.int .i64 x4.Index)) rfl rfl rfl rfl (.assign (v := (vi x4.Index)) rfl rfl (.assign (v := (vb true)) rfl rfl (.nila H fun H => ?_)))))
       refine .ret ?_
       replace h := sj h; subst h
       exact ⟨nofun, (.inr ⟨_, rfl, rfl, (Ends.H (xs := [(vi x4.Index), (vb true)]) (.inr rfl) H (.tmp (v := (vi x4.Index)) rfl (.tmp (v := (vb true)) rfl .nil)) (.two (.cons (.c (.v _)) (.cons (.c (.v _)) .nil))))⟩)⟩
      ·replace h := Z6 hc6 h
       refine .skip (.Z0 4 rfl H fun b9 σ H => (.move (v := (vi s1)) rfl rfl (.move (v := (vi by')) rfl rfl (.int (m := s1) (m' := by') (r := .int .i64 (w64 (s1 + by'))) rfl rfl rfl rfl rfl (.assign (v := (vi (w64 (s1 + by')))) rfl rfl ?_)))))
       refine .nila H fun H => ?_
       replace h := sj h; subst h
       exact ⟨rfl, ⟨rfl, rfl, rfl, trivial⟩, H⟩
     ·replace h := Z6 hc5 h
      refine .exit ?_
      replace h := sj h; subst h
      exact ⟨nofun, (.inl ⟨_, rfl, rfl, trivial, (H.erase 0)⟩)⟩
   ·rintro x e σ (⟨a2, rfl, rfl, he, H⟩ | ⟨r', rfl, rfl, hE⟩)
    ·skip
     replace h := jgo h
     obtain ⟨e, rfl⟩ := he.ex
     refine .then (.Z0 2 rfl H fun b10 σ H => (.assign (v := (vi 0)) rfl rfl (.assign (v := (vb false)) rfl rfl (.nila H fun H => (.ret ?_)))))
     replace h := sj h; subst h
     exact (Ends.H (xs := [(vi 0), (vb false)]) (.inr rfl) H (.tmp (v := (vi 0)) rfl (.tmp (v := (vb false)) rfl .nil)) (.two (.cons (.c (.v _)) (.cons (.c (.v _)) .nil))))
    ·skip
     replace h := jret h
     replace h := sj h; subst h
     exact hE
 ·replace h := Z6 hc1 h
  refine .skip (.then (.then (.Z0 2 rfl H fun b11 σ H => (.move (v := (vi from')) rfl rfl (.assign (v := (vi from')) rfl rfl ?_)))))
  refine .nila H fun H => (.inBlock ?_)
  obtain ⟨y3, hj3, h⟩ := bind_some h
  obtain ⟨n2, hj3⟩ := Ze.1 hj3
  refine .mono (Runs.ZK hj3 (fun s2 e σ => Z5 e [(2, (vi by')), (3, (.ptr (b1 + 0) 4 0)), (10, (vi s2))] ∧ Hs σ [.blk (b1 + 0) 25 (vF f)]) (fun y3 x e σ => (∃ a3, y3 = (.go a3) ∧ x = .exit 2 ∧ Z5 e [] ∧ Hs σ []) ∨ (∃ r', y3 = (.ret r') ∧ x = .ret ∧ Ends CX Try.f48.results.toList (.tup [(vi r'.1), (vb r'.2)]) x e σ)) ⟨⟨rfl, rfl, rfl, trivial⟩, H⟩ ?_) ?_
  ·intro s2 e σ hI z h
   obtain ⟨he, H⟩ := hI
   obtain ⟨e, rfl⟩ := he.ex
   unfold Zq.s1 at h
   refine .then (.then (.Z0 2 rfl H fun b12 σ H => (.move (v := (vi s2)) rfl rfl (.call (ys := [(vi s2)]) (r := (vb (Zh s2))) rfl (Z3q rfl) rfl (.nila H fun H => ?_)))))
   refine .whether (v := (Zh s2)) rfl ?_ ?_ <;> intro hc7
   ·replace h := Z9 hc7 h
    refine .skip (.then (.inBlock (.then (.Z0 3 rfl H fun b13 σ H => (.ZP (off := 0) (cs := (vF f)) H 0 rfl rfl rfl rfl rfl rfl rfl nofun rfl ?_)))))
    refine .move (v := (vi s2)) rfl rfl ?_
    obtain ⟨x5, q5, h⟩ := bind_some h
    refine .call (ys := [(.agg (vF f)), (vi s2)]) (r := (vb x5)) rfl (gran_some_fn q5) rfl (.nila H fun H => ?_)
    refine .whether (v := x5) rfl ?_ ?_ <;> intro hc8
    ·replace h := Z9 hc8 h
     refine .then (.Z0 3 rfl H fun b14 σ H => (.move (v := (vi s2)) rfl rfl (.assign (v := (vi s2)) rfl rfl (.assign (v := (vb true)) rfl rfl (.nila H fun H => ?_)))))
     refine .ret ?_
     replace h := sj h; subst h
     exact ⟨nofun, (.inr ⟨_, rfl, rfl, (Ends.H (xs := [(vi s2), (vb true)]) (.inr rfl) H (.tmp (v := (vi s2)) rfl (.tmp (v := (vb true)) rfl .nil)) (.two (.cons (.c (.v _)) (.cons (.c (.v _)) .nil))))⟩)⟩
    ·replace h := Z6 hc8 h
     refine .skip (.Z0 4 rfl H fun b15 σ H => (.move (v := (vi s2)) rfl rfl (.move (v := (vi by')) rfl rfl (.int (m := s2) (m' := by') (r := .int .i64 (w64 (s2 + by'))) rfl rfl rfl rfl rfl (.assign (v := (vi (w64 (s2 + by')))) rfl rfl ?_)))))
     refine .nila H fun H => ?_
     replace h := sj h; subst h
     exact ⟨rfl, ⟨rfl, rfl, rfl, trivial⟩, H⟩
   ·replace h := Z6 hc7 h
    refine .exit ?_
    replace h := sj h; subst h
    exact ⟨nofun, (.inl ⟨_, rfl, rfl, trivial, (H.erase 0)⟩)⟩
  ·rintro x e σ (⟨a4, rfl, rfl, he, H⟩ | ⟨r', rfl, rfl, hE⟩)
   ·skip
    replace h := jgo h
    obtain ⟨e, rfl⟩ := he.ex
    refine .then (.Z0 2 rfl H fun b16 σ H => (.assign (v := (vi 0)) rfl rfl (.assign (v := (vb false)) rfl rfl (.nila H fun H => (.ret ?_)))))
    replace h := sj h; subst h
    exact (Ends.H (xs := [(vi 0), (vb false)]) (.inr rfl) H (.tmp (v := (vi 0)) rfl (.tmp (v := (vb false)) rfl .nil)) (.two (.cons (.c (.v _)) (.cons (.c (.v _)) .nil))))
   ·skip
    replace h := jret h
    replace h := sj h; subst h
    exact hE

theorem Z9N {f : Form} {i : Int} {r : Int × Bool} (h : Z15 f i = some r) : Fn CX 30 [(.agg (vs (Form.cs f))), (vi i)] (.tup [(vi r.1), (vb r.2)]) := by
 refine Fn.ends Try.func30 rfl rfl rfl rfl rfl rfl ?_
 have H : Hs (⟨0, fun _ => .none⟩ : Heap) [] := Has.nil (Nat.le_refl _)
 generalize (⟨0, fun _ => .none⟩ : Heap) = σ at H ⊢
 unfold Z15 at h
 refine .then (.Z0 3 rfl H fun b1 σ H => (.boxH (cs := (vF f)) H (by omega) (by omega) rfl rfl rfl fun σ H => (.assign (v := (vi 0)) rfl rfl (.assign (v := (vb false)) rfl rfl (.nila H fun H => ?_)))))
 refine .then (.then (.Z0 2 rfl H fun b2 σ H => (.move (v := (vi i)) rfl rfl (.int (m := i) (m' := (-1099511627776)) (r := .bool (decide (i ≤ (-1099511627776)))) rfl rfl rfl rfl rfl (.nila H fun H => ?_)))))
 refine .whether (v := (decide (i ≤ (-1099511627776)))) rfl ?_ ?_ <;> intro hc1
 ·replace h := Z9 hc1 h
  refine .then (.Z0 2 rfl H fun b3 σ H => (.assign (v := (vi 0)) rfl rfl (.assign (v := (vb false)) rfl rfl (.nila H fun H => (.ret ?_)))))
  replace h := sj h; subst h
  exact (Ends.H (xs := [(vi 0), (vb false)]) (.inr rfl) H (.tmp (v := (vi 0)) rfl (.tmp (v := (vb false)) rfl .nil)) (.two (.cons (.c (.v _)) (.cons (.c (.v _)) .nil))))
 ·replace h := Z6 hc1 h
  refine .skip (.then (.Z0 9 rfl H fun b4 σ H => (.ZP (off := 0) (cs := (vF f)) H 0 rfl rfl rfl rfl rfl rfl rfl nofun rfl (.move (v := (vi i)) rfl rfl (.int (m := i) (m' := 1) (r := .int .i64 (w64 (i - 1))) rfl rfl rfl rfl rfl ?_)))))
  refine .min2 rfl rfl rfl ?_
  obtain ⟨x1, q1, h⟩ := bind_some h
  refine .call (ys := [(.agg (vF f)), (vi (iMin (w64 (i - 1)) 1099511627776)), (vi (-1))]) (r := (.tup [(vi x1.1), (vb x1.2)])) rfl (Z7F q1) rfl (.extract (v := (vi x1.1)) rfl rfl rfl (.extract (v := (vb x1.2)) rfl rfl rfl (.assign (v := (vi x1.1)) rfl rfl (.assign (v := (vb x1.2)) rfl rfl (.nila H fun H => ?_)))))
  refine .ret ?_
  replace h := sj h; subst h
  exact (Ends.H (xs := [(vi x1.1), (vb x1.2)]) (.inr rfl) H (.tmp (v := (vi x1.1)) rfl (.tmp (v := (vb x1.2)) rfl .nil)) (.two (.cons (.c (.v _)) (.cons (.c (.v _)) .nil))))

theorem Z4Y {f : Form} {i : Int} {r : Int × Bool} (h : Z0t f i = some r) : Fn CX 31 [(.agg (vs (Form.cs f))), (vi i)] (.tup [(vi r.1), (vb r.2)]) := by
 refine Fn.ends Try.func31 rfl rfl rfl rfl rfl rfl ?_
 have H : Hs (⟨0, fun _ => .none⟩ : Heap) [] := Has.nil (Nat.le_refl _)
 generalize (⟨0, fun _ => .none⟩ : Heap) = σ at H ⊢
 unfold Z0t at h
 refine .then (.Z0 3 rfl H fun b1 σ H => (.boxH (cs := (vF f)) H (by omega) (by omega) rfl rfl rfl fun σ H => (.assign (v := (vi 0)) rfl rfl (.assign (v := (vb false)) rfl rfl (.nila H fun H => ?_)))))
 refine .then (.then (.Z0 2 rfl H fun b2 σ H => (.move (v := (vi i)) rfl rfl (.int (m := i) (m' := 1099511627776) (r := .bool (decide (i ≥ 1099511627776))) rfl rfl rfl rfl rfl (.nila H fun H => ?_)))))
 refine .whether (v := (decide (i ≥ 1099511627776))) rfl ?_ ?_ <;> intro hc1
 ·replace h := Z9 hc1 h
  refine .then (.Z0 2 rfl H fun b3 σ H => (.assign (v := (vi 0)) rfl rfl (.assign (v := (vb false)) rfl rfl (.nila H fun H => (.ret ?_)))))
  replace h := sj h; subst h
  exact (Ends.H (xs := [(vi 0), (vb false)]) (.inr rfl) H (.tmp (v := (vi 0)) rfl (.tmp (v := (vb false)) rfl .nil)) (.two (.cons (.c (.v _)) (.cons (.c (.v _)) .nil))))
 ·replace h := Z6 hc1 h
  refine .skip (.then (.Z0 9 rfl H fun b4 σ H => (.ZP (off := 0) (cs := (vF f)) H 0 rfl rfl rfl rfl rfl rfl rfl nofun rfl (.move (v := (vi i)) rfl rfl (.int (m := i) (m' := 1) (r := .int .i64 (w64 (i + 1))) rfl rfl rfl rfl rfl ?_)))))
  refine .max2 rfl rfl rfl ?_
  obtain ⟨x1, q1, h⟩ := bind_some h
  refine .call (ys := [(.agg (vF f)), (vi (iMax (w64 (i + 1)) (-1099511627776))), (vi 1)]) (r := (.tup [(vi x1.1), (vb x1.2)])) rfl (Z7F q1) rfl (.extract (v := (vi x1.1)) rfl rfl rfl (.extract (v := (vb x1.2)) rfl rfl rfl (.assign (v := (vi x1.1)) rfl rfl (.assign (v := (vb x1.2)) rfl rfl (.nila H fun H => ?_)))))
  refine .ret ?_
  replace h := sj h; subst h
  exact (Ends.H (xs := [(vi x1.1), (vb x1.2)]) (.inr rfl) H (.tmp (v := (vi x1.1)) rfl (.tmp (v := (vb x1.2)) rfl .nil)) (.two (.cons (.c (.v _)) (.cons (.c (.v _)) .nil))))

theorem Z4D {a : (List Span)} {b : (List Span)} {r : Bool} (h : Z0W a b = some r) : Fn CX 32 [(vl Span.cs a), (vl Span.cs b)] (vb r) := by
 refine Fn.ends Try.func32 rfl rfl rfl rfl rfl rfl ?_
 have H : Hs (⟨0, fun _ => .none⟩ : Heap) [] := Has.nil (Nat.le_refl _)
 generalize (⟨0, fun _ => .none⟩ : Heap) = σ at H ⊢
 unfold Z0W at h
 refine .then (.Z0 1 rfl H fun b1 σ H => (.assign (v := (vb false)) rfl rfl (.nila H fun H => (.then (.Z3n 23 rfl (by kernel_rfl) H fun b2 σ H B2 => ?_)))))
 refine .move (v := (vl Span.cs a)) rfl rfl (.Z0T (c := Span.cs) (xs := a) rfl rfl rfl (.int (m := (a.length : Int)) (m' := 0) (r := .bool ((a.length : Int) == 0)) rfl rfl rfl rfl rfl (.move (v := (vb ((a.length : Int) == 0))) rfl rfl ?_)))
 refine .mid 4 (K1 := fun e σ => Z5 e [(12, (vb (((a.length : Int) == 0) || ((b.length : Int) == 0)))), (0, (vl Span.cs a)), (1, (vl Span.cs b))] ∧ Has σ (b2 + 8) (b2 + 23) []) rfl ?_ ?_
 ·refine .split rfl rfl ?_ ?_ <;> intro hc1
  ·skip
   refine .pass rfl rfl rfl (.pass rfl rfl rfl (.pass rfl rfl rfl (.Zg (v := (vb true)) rfl rfl rfl (.nil ?_))))
   exact ⟨⟨or_T hc1, rfl, rfl, trivial⟩, H.weak (by omega) (Nat.le_refl _)⟩
  ·skip
   refine .wanted rfl rfl (.move (v := (vl Span.cs b)) rfl rfl (.wanted rfl rfl (.Z0T (c := Span.cs) (xs := b) rfl rfl rfl (.wanted rfl rfl (.int (m := (b.length : Int)) (m' := 0) (r := .bool ((b.length : Int) == 0)) rfl rfl rfl rfl rfl ?_)))))
   refine .Zn (v := (vb ((b.length : Int) == 0))) rfl rfl rfl (.nil ?_)
   exact ⟨⟨or_F hc1, rfl, rfl, trivial⟩, H.weak (by omega) (Nat.le_refl _)⟩
 ·rintro e σ ⟨he, H⟩
  obtain ⟨e, rfl⟩ := he.ex
  refine .move (v := (vb (((a.length : Int) == 0) || ((b.length : Int) == 0)))) rfl rfl ?_
  obtain ⟨y1, hj1, h⟩ := bind_some h
  refine .mid 13 (K1 := fun e σ => Z5 e [(26, (vb y1))] ∧ Has σ (b2 + 22) (b2 + 23) []) rfl ?_ ?_
  ·refine .split rfl rfl ?_ ?_ <;> intro hc2
   ·replace h := Z9 hc2 hj1
    refine .pass rfl rfl rfl (.pass rfl rfl rfl (.pass rfl rfl rfl (.pass rfl rfl rfl (.pass rfl rfl rfl (.pass rfl rfl rfl ?_)))))
    refine .pass rfl rfl rfl (.pass rfl rfl rfl (.pass rfl rfl rfl (.pass rfl rfl rfl (.pass rfl rfl rfl (.pass rfl rfl rfl ?_)))))
    refine .Zg (v := (vb true)) rfl rfl rfl (.nil ?_)
    replace h := sj h; subst h
    exact ⟨⟨rfl, trivial⟩, H.weak (by omega) (Nat.le_refl _)⟩
   ·replace h := Z6 hc2 hj1
    refine .wanted rfl rfl (.move (v := (vl Span.cs a)) rfl rfl (.wanted rfl rfl (.move (v := (vl Span.cs a)) rfl rfl (.wanted rfl rfl (.Z0T (c := Span.cs) (xs := a) rfl rfl rfl ?_)))))
    refine .wanted rfl rfl (.int (m := (a.length : Int)) (m' := 1) (r := .int .i64 (w64 ((a.length : Int) - 1))) rfl rfl rfl rfl rfl (.wanted rfl rfl ?_))
    obtain ⟨x1, q1, h⟩ := bind_some h
    refine .Z0H (c := Span.cs) (u := x1) rfl rfl q1 rfl rfl rfl rfl (.wanted rfl rfl (.Z1D rfl rfl rfl rfl (.wanted rfl rfl (.Z2M (u := (.int .i64 x1.To)) rfl rfl rfl rfl (.wanted rfl rfl ?_)))))
    refine .move (v := (vl Span.cs b)) rfl rfl (.wanted rfl rfl ?_)
    obtain ⟨x2, q2, h⟩ := bind_some h
    refine .Z0H (c := Span.cs) (u := x2) rfl rfl q2 rfl rfl rfl rfl (.wanted rfl rfl (.Z1D rfl rfl rfl rfl (.wanted rfl rfl (.Z2M (u := (.int .i64 x2.From)) rfl rfl rfl rfl (.wanted rfl rfl ?_)))))
    refine .int (m := x1.To) (m' := x2.From) (r := .bool (decide (x1.To < x2.From))) rfl rfl rfl rfl rfl (.Zn (v := (vb (decide (x1.To < x2.From)))) rfl rfl rfl (.nil ?_))
    replace h := sj h; subst h
    exact ⟨⟨rfl, trivial⟩, H.weak (by omega) (Nat.le_refl _)⟩
  ·rintro e σ ⟨he, H⟩
   obtain ⟨e, rfl⟩ := he.ex
   refine .assign (v := (vb y1)) rfl rfl (.nila H fun H => (.ret ?_))
   replace h := sj h; subst h
   exact (Ends.H (xs := [(vb y1)]) (.inr rfl) H (.tmp (v := (vb y1)) rfl .nil) (.one (.c (.v _))))

theorem Z97 {f : Form} {i : Int} {r : Bool} (h : Z1J f i = some r) : Fn CX 19 [(.agg (vs (Form.cs f))), (vi i)] (vb r) := by
 refine Fn.ends Try.func19 rfl rfl rfl rfl rfl rfl ?_
 have H : Hs (⟨0, fun _ => .none⟩ : Heap) [] := Has.nil (Nat.le_refl _)
 generalize (⟨0, fun _ => .none⟩ : Heap) = σ at H ⊢
 unfold Z1J at h
 refine .then (.Z0 2 rfl H fun b1 σ H => (.boxH (cs := (vF f)) H (by omega) (by omega) rfl rfl rfl fun σ H => (.assign (v := (vb false)) rfl rfl (.nila H fun H => (.then ?_)))))
 refine .Z0 8 rfl H fun b2 σ H => (.ZP (off := 0) (cs := (vF f)) H 0 rfl rfl rfl rfl rfl rfl rfl nofun rfl (.move (v := (vi i)) rfl rfl ?_))
 obtain ⟨x1, q1, h⟩ := bind_some h
 refine .call (ys := [(.agg (vF f)), (vi i)]) (r := (.tup [(vl Span.cs x1.1), (vi x1.2)])) rfl (Z3b q1) rfl (.move (v := (.tup [(vl Span.cs x1.1), (vi x1.2)])) rfl rfl (.extract (v := (vl Span.cs x1.1)) rfl rfl rfl (.extract (v := (vi x1.2)) rfl rfl rfl (.assign (v := (vl Span.cs x1.1)) rfl rfl (.assign (v := (vi x1.2)) rfl rfl ?_)))))
 refine .nila H fun H => (.then (.then (.Z0 2 rfl H fun b3 σ H => (.move (v := (vi x1.2)) rfl rfl (.int (m := x1.2) (m' := 0) (r := .bool (x1.2 != 0)) rfl rfl rfl rfl rfl ?_)))))
 refine .nila H fun H => ?_
 refine .whether (v := (x1.2 != 0)) rfl ?_ ?_ <;> intro hc1
 ·replace h := Z9 hc1 h
  refine .then (.Z0 1 rfl H fun b4 σ H => (.assign (v := (vb false)) rfl rfl (.nila H fun H => (.ret ?_))))
  replace h := sj h; subst h
  exact (Ends.H (xs := [(vb false)]) (.inr rfl) H (.tmp (v := (vb false)) rfl .nil) (.one (.c (.v _))))
 ·replace h := Z6 hc1 h
  refine .skip (.then (.Z0 8 rfl H fun b5 σ H => (.ZP (off := 0) (cs := (vF f)) H 0 rfl rfl rfl rfl rfl rfl rfl nofun rfl (.move (v := (vi i)) rfl rfl ?_))))
  obtain ⟨x2, q2, h⟩ := bind_some h
  refine .call (ys := [(.agg (vF f)), (vi i)]) (r := (.tup [(vi x2.1), (vb x2.2)])) rfl (Z9N q2) rfl (.move (v := (.tup [(vi x2.1), (vb x2.2)])) rfl rfl (.extract (v := (vi x2.1)) rfl rfl rfl (.extract (v := (vb x2.2)) rfl rfl rfl (.assign (v := (vi x2.1)) rfl rfl (.assign (v := (vb x2.2)) rfl rfl ?_)))))
  refine .nila H fun H => (.then (.Z0 8 rfl H fun b6 σ H => (.ZP (off := 0) (cs := (vF f)) H 0 rfl rfl rfl rfl rfl rfl rfl nofun rfl (.move (v := (vi i)) rfl rfl ?_))))
  obtain ⟨x3, q3, h⟩ := bind_some h
  refine .call (ys := [(.agg (vF f)), (vi i)]) (r := (.tup [(vi x3.1), (vb x3.2)])) rfl (Z4Y q3) rfl (.move (v := (.tup [(vi x3.1), (vb x3.2)])) rfl rfl (.extract (v := (vi x3.1)) rfl rfl rfl (.extract (v := (vb x3.2)) rfl rfl rfl (.assign (v := (vi x3.1)) rfl rfl (.assign (v := (vb x3.2)) rfl rfl ?_)))))
  refine .nila H fun H => (.then (.Z0 2 rfl H fun b7 σ H => (.assign (v := .nils) rfl rfl (.assign (v := .nils) rfl rfl (.nila H fun H => ?_)))))
  refine .then ?_
  obtain ⟨y1, hj1, h⟩ := bind_some h
  refine .mono (Q := fun x e σ => (∃ a1, ∃ (w1 : PV), RO w1 (a1.map Span.cs) ∧ y1 = (.go a1) ∧ x = .normal ∧ Z5 e [(2, (.ptr (b1 + 0) 4 0)), (5, (vl Span.cs x1.1)), (9, (vi x3.1)), (10, (vb x3.2)), (11, w1), (12, .nils)] ∧ Hs σ [.blk (b1 + 0) 25 (vF f)]) ∨ (∃ r', y1 = (.ret r') ∧ x = .ret ∧ Ends CX Try.f19.results.toList (vb r') x e σ)) ?_ ?_
  ·replace h := hj1
   refine .then (.Z0 1 rfl H fun b8 σ H => (.move (v := (vb x2.2)) rfl rfl (.nila H fun H => ?_)))
   refine .whether (v := x2.2) rfl ?_ ?_ <;> intro hc2
   ·replace h := Z9 hc2 h
    refine .then (.Z0 8 rfl H fun b9 σ H => (.ZP (off := 0) (cs := (vF f)) H 0 rfl rfl rfl rfl rfl rfl rfl nofun rfl (.move (v := (vi x2.1)) rfl rfl ?_)))
    obtain ⟨x4, q4, h⟩ := bind_some h
    refine .call (ys := [(.agg (vF f)), (vi x2.1)]) (r := (.tup [(vl Span.cs x4.1), (vi x4.2)])) rfl (Z3b q4) rfl (.move (v := (.tup [(vl Span.cs x4.1), (vi x4.2)])) rfl rfl (.extract (v := (vl Span.cs x4.1)) rfl rfl rfl (.extract (v := (vi x4.2)) rfl rfl rfl (.assign (v := (vl Span.cs x4.1)) rfl rfl (.assign (v := (vi x4.2)) rfl rfl ?_)))))
    refine .nila H fun H => (.then (.Z0 2 rfl H fun b10 σ H => (.move (v := (vi x4.2)) rfl rfl (.int (m := x4.2) (m' := 0) (r := .bool (x4.2 != 0)) rfl rfl rfl rfl rfl (.nila H fun H => ?_)))))
    refine .whether (v := (x4.2 != 0)) rfl ?_ ?_ <;> intro hc3
    ·replace h := Z9 hc3 h
     refine .then (.Z0 1 rfl H fun b11 σ H => (.assign (v := (vb false)) rfl rfl (.nila H fun H => (.ret ?_))))
     replace h := sj h; subst h
     exact (.inr ⟨_, rfl, rfl, (Ends.H (xs := [(vb false)]) (.inr rfl) H (.tmp (v := (vb false)) rfl .nil) (.one (.c (.v _))))⟩)
    ·replace h := Z6 hc3 h
     refine .skip ?_
     replace h := sj h; subst h
     exact (.inl ⟨_, (vl Span.cs x4.1), .inr rfl, rfl, rfl, ⟨rfl, rfl, rfl, rfl, rfl, rfl, trivial⟩, H⟩)
   ·replace h := Z6 hc2 h
    refine .skip ?_
    replace h := sj h; subst h
    exact (.inl ⟨_, .nils, .inl ⟨rfl, rfl⟩, rfl, rfl, ⟨rfl, rfl, rfl, rfl, rfl, rfl, trivial⟩, H⟩)
  ·rintro x e σ (⟨a2, w2, hw2, rfl, rfl, he, H⟩ | ⟨r', rfl, rfl, hE⟩)
   ·skip
    replace h := jgo h
    obtain ⟨e, rfl⟩ := he.ex
    refine .then ?_
    obtain ⟨y2, hj2, h⟩ := bind_some h
    refine .mono (Q := fun x e σ => (∃ a3, ∃ (w3 : PV), RO w3 (a3.map Span.cs) ∧ y2 = (.go a3) ∧ x = .normal ∧ Z5 e [(5, (vl Span.cs x1.1)), (11, w2), (12, w3)] ∧ Hs σ []) ∨ (∃ r', y2 = (.ret r') ∧ x = .ret ∧ Ends CX Try.f19.results.toList (vb r') x e σ)) ?_ ?_
    ·replace h := hj2
     refine .then (.Z0 1 rfl H fun b12 σ H => (.move (v := (vb x3.2)) rfl rfl (.nila H fun H => ?_)))
     refine .whether (v := x3.2) rfl ?_ ?_ <;> intro hc4
     ·replace h := Z9 hc4 h
      refine .then (.Z0 8 rfl H fun b13 σ H => (.ZP (off := 0) (cs := (vF f)) H 0 rfl rfl rfl rfl rfl rfl rfl nofun rfl (.move (v := (vi x3.1)) rfl rfl ?_)))
      obtain ⟨x5, q5, h⟩ := bind_some h
      refine .call (ys := [(.agg (vF f)), (vi x3.1)]) (r := (.tup [(vl Span.cs x5.1), (vi x5.2)])) rfl (Z3b q5) rfl (.move (v := (.tup [(vl Span.cs x5.1), (vi x5.2)])) rfl rfl (.extract (v := (vl Span.cs x5.1)) rfl rfl rfl (.extract (v := (vi x5.2)) rfl rfl rfl (.assign (v := (vl Span.cs x5.1)) rfl rfl (.assign (v := (vi x5.2)) rfl rfl ?_)))))
      refine .nila H fun H => (.then (.Z0 2 rfl H fun b14 σ H => (.move (v := (vi x5.2)) rfl rfl (.int (m := x5.2) (m' := 0) (r := .bool (x5.2 != 0)) rfl rfl rfl rfl rfl (.nila H fun H => ?_)))))
      refine .whether (v := (x5.2 != 0)) rfl ?_ ?_ <;> intro hc5
      ·replace h := Z9 hc5 h
       refine .then (.Z0 1 rfl H fun b15 σ H => (.assign (v := (vb false)) rfl rfl (.nila H fun H => (.ret ?_))))
       replace h := sj h; subst h
       exact (.inr ⟨_, rfl, rfl, (Ends.H (xs := [(vb false)]) (.inr rfl) H (.tmp (v := (vb false)) rfl .nil) (.one (.c (.v _))))⟩)
      ·replace h := Z6 hc5 h
       refine .skip ?_
       replace h := sj h; subst h
       exact (.inl ⟨_, (vl Span.cs x5.1), .inr rfl, rfl, rfl, ⟨rfl, rfl, rfl, trivial⟩, (H.erase 0)⟩)
     ·replace h := Z6 hc4 h
      refine .skip ?_
      replace h := sj h; subst h
      exact (.inl ⟨_, .nils, .inl ⟨rfl, rfl⟩, rfl, rfl, ⟨rfl, rfl, rfl, trivial⟩, (H.erase 0)⟩)
    ·rintro x e σ (⟨a4, w4, hw4, rfl, rfl, he, H⟩ | ⟨r', rfl, rfl, hE⟩)
     ·skip
      replace h := jgo h
      obtain ⟨e, rfl⟩ := he.ex
      refine .then (.Z0 14 rfl H fun b16 σ H => (.move (v := w2) rfl rfl (.move (v := (vl Span.cs x1.1)) rfl rfl ?_)))
      obtain ⟨x6, q6, h⟩ := bind_some h
      refine .Z32 (xs := [w2, (vl Span.cs x1.1)]) (ys := [(vl Span.cs a2), (vl Span.cs x1.1)]) H rfl (.cons (.c (.ro hw2)) (.cons (.c (.v _)) .nil)) (Z4D q6) rfl rfl nofun rfl fun σ H => (.move (v := (vb x6)) rfl rfl ?_)
      obtain ⟨y3, hj3, h⟩ := bind_some h
      refine .mid 4 (K1 := fun e σ => Z5 e [(58, (vb y3)), (11, w2), (12, w4)] ∧ Has σ (b16 + 8) (b16 + 14) []) rfl ?_ ?_
      ·refine .split rfl rfl ?_ ?_ <;> intro hc6
       ·replace h := Z9 hc6 hj3
        refine .wanted rfl rfl (.move (v := (vl Span.cs x1.1)) rfl rfl (.wanted rfl rfl (.move (v := w4) rfl rfl (.wanted rfl rfl ?_))))
        obtain ⟨x7, q7, h⟩ := bind_some h
        refine .Z32 (xs := [(vl Span.cs x1.1), w4]) (ys := [(vl Span.cs x1.1), (vl Span.cs a4)]) H rfl (.cons (.c (.v _)) (.cons (.c (.ro hw4)) .nil)) (Z4D q7) rfl rfl nofun rfl fun σ H => (.Zg (v := (vb x7)) rfl rfl rfl (.nil ?_))
        replace h := sj h; subst h
        exact ⟨⟨rfl, rfl, rfl, trivial⟩, H.weak (by omega) (Nat.le_refl _)⟩
       ·replace h := Z6 hc6 hj3
        refine .pass rfl rfl rfl (.pass rfl rfl rfl (.pass rfl rfl rfl (.Zn (v := (vb false)) rfl rfl rfl (.nil ?_))))
        replace h := sj h; subst h
        exact ⟨⟨rfl, rfl, rfl, trivial⟩, H.weak (by omega) (Nat.le_refl _)⟩
      ·rintro e σ ⟨he, H⟩
       obtain ⟨e, rfl⟩ := he.ex
       refine .move (v := (vb y3)) rfl rfl ?_
       obtain ⟨y4, hj4, h⟩ := bind_some h
       refine .mid 4 (K1 := fun e σ => Z5 e [(63, (vb y4))] ∧ Has σ (b16 + 13) (b16 + 14) []) rfl ?_ ?_
       ·refine .split rfl rfl ?_ ?_ <;> intro hc7
        ·replace h := Z9 hc7 hj4
         refine .wanted rfl rfl (.move (v := w2) rfl rfl (.wanted rfl rfl (.move (v := w4) rfl rfl (.wanted rfl rfl ?_))))
         obtain ⟨x8, q8, h⟩ := bind_some h
         refine .Z32 (xs := [w2, w4]) (ys := [(vl Span.cs a2), (vl Span.cs a4)]) H rfl (.cons (.c (.ro hw2)) (.cons (.c (.ro hw4)) .nil)) (Z4D q8) rfl rfl nofun rfl fun σ H => (.Zg (v := (vb x8)) rfl rfl rfl (.nil ?_))
         replace h := sj h; subst h
         exact ⟨⟨rfl, trivial⟩, H.weak (by omega) (Nat.le_refl _)⟩
        ·replace h := Z6 hc7 hj4
         refine .pass rfl rfl rfl (.pass rfl rfl rfl (.pass rfl rfl rfl (.Zn (v := (vb false)) rfl rfl rfl (.nil ?_))))
         replace h := sj h; subst h
         exact ⟨⟨rfl, trivial⟩, H.weak (by omega) (Nat.le_refl _)⟩
       ·rintro e σ ⟨he, H⟩
        obtain ⟨e, rfl⟩ := he.ex
        refine .assign (v := (vb y4)) rfl rfl (.nila H fun H => (.ret ?_))
        replace h := sj h; subst h
        exact (Ends.H (xs := [(vb y4)]) (.inr rfl) H (.tmp (v := (vb y4)) rfl .nil) (.one (.c (.v _))))
     ·skip
      replace h := jret h
      replace h := sj h; subst h
      exact hE
   ·skip
    replace h := jret h
    replace h := sj h; subst h
    exact hE

theorem Z6V {f : Form} {r : Int} (h : Zl f = some r) : Fn CX 7 [(.agg (vs (Form.cs f)))] (vi r) := by
 refine Fn.ends Try.func7 rfl rfl rfl rfl rfl rfl ?_
 have H : Hs (⟨0, fun _ => .none⟩ : Heap) [] := Has.nil (Nat.le_refl _)
 generalize (⟨0, fun _ => .none⟩ : Heap) = σ at H ⊢
 unfold Zl at h
 refine .then (.Z0 2 rfl H fun b1 σ H => (.boxH (cs := (vF f)) H (by omega) (by omega) rfl rfl rfl fun σ H => (.assign (v := (vi 0)) rfl rfl (.nila H fun H => (.then ?_)))))
 refine .then (.Z0 15 rfl H fun b2 σ H => (.Z2 (off := 0) (fo := 2) H 0 rfl rfl rfl rfl rfl nofun rfl (.ZR (off := 2) (v := (vl (cL Span.cs) f.Core)) H 0 rfl rfl rfl rfl rfl nofun rfl (.Z0T (c := (cL Span.cs)) (xs := f.Core) rfl rfl rfl (.int (m := (f.Core.length : Int)) (m' := 6000) (r := .bool (decide ((f.Core.length : Int) > 6000))) rfl rfl rfl rfl rfl ?_)))))
 refine .move (v := (vb (decide ((f.Core.length : Int) > 6000)))) rfl rfl ?_
 refine .mid 5 (K1 := fun e σ => Z5 e [(14, (vb ((decide ((f.Core.length : Int) > 6000)) || (decide ((f.Odd.length : Int) > 6000))))), (1, (.ptr (b1 + 0) 4 0))] ∧ Has σ (b2 + 10) (b2 + 15) [.blk (b1 + 0) 25 (vF f)]) rfl ?_ ?_
 ·refine .split rfl rfl ?_ ?_ <;> intro hc1
  ·skip
   refine .pass rfl rfl rfl (.pass rfl rfl rfl (.pass rfl rfl rfl (.pass rfl rfl rfl (.Zg (v := (vb true)) rfl rfl rfl (.nil ?_)))))
   exact ⟨⟨or_T hc1, rfl, trivial⟩, H.weak (by omega) (Nat.le_refl _)⟩
  ·skip
   refine .wanted rfl rfl (.Z2 (off := 0) (fo := 3) H 0 rfl rfl rfl rfl rfl nofun rfl (.wanted rfl rfl (.ZR (off := 3) (v := (vl Granule.cs f.Odd)) H 0 rfl rfl rfl rfl rfl nofun rfl (.wanted rfl rfl (.Z0T (c := Granule.cs) (xs := f.Odd) rfl rfl rfl ?_)))))
   refine .wanted rfl rfl (.int (m := (f.Odd.length : Int)) (m' := 6000) (r := .bool (decide ((f.Odd.length : Int) > 6000))) rfl rfl rfl rfl rfl (.Zn (v := (vb (decide ((f.Odd.length : Int) > 6000)))) rfl rfl rfl (.nil ?_)))
   exact ⟨⟨or_F hc1, rfl, trivial⟩, H.weak (by omega) (Nat.le_refl _)⟩
 ·rintro e σ ⟨he, H⟩
  obtain ⟨e, rfl⟩ := he.ex
  refine .move (v := (vb ((decide ((f.Core.length : Int) > 6000)) || (decide ((f.Odd.length : Int) > 6000))))) rfl rfl ?_
  obtain ⟨y1, hj1, h⟩ := bind_some h
  refine .mid 4 (K1 := fun e σ => Z5 e [(19, (vb y1)), (1, (.ptr (b1 + 0) 4 0))] ∧ Has σ (b2 + 15) (b2 + 15) [.blk (b1 + 0) 25 (vF f)]) rfl ?_ ?_
  ·refine .split rfl rfl ?_ ?_ <;> intro hc2
   ·replace h := Z9 hc2 hj1
    refine .pass rfl rfl rfl (.pass rfl rfl rfl (.pass rfl rfl rfl (.Zg (v := (vb true)) rfl rfl rfl (.nil ?_))))
    replace h := sj h; subst h
    exact ⟨⟨rfl, rfl, trivial⟩, H.weak (by omega) (Nat.le_refl _)⟩
   ·replace h := Z6 hc2 hj1
    refine .wanted rfl rfl (.ZP (off := 0) (cs := (vF f)) H 0 rfl rfl rfl rfl rfl rfl rfl nofun rfl (.wanted rfl rfl ?_))
    obtain ⟨x1, q1, h⟩ := bind_some h
    refine .call (ys := [(.agg (vF f))]) (r := (vi x1)) rfl (Z7T q1) rfl (.wanted rfl rfl (.int (m := x1) (m' := 60000) (r := .bool (decide (x1 > 60000))) rfl rfl rfl rfl rfl (.Zn (v := (vb (decide (x1 > 60000)))) rfl rfl rfl (.nil ?_))))
    replace h := sj h; subst h
    exact ⟨⟨rfl, rfl, trivial⟩, H.weak (by omega) (Nat.le_refl _)⟩
  ·rintro e σ ⟨he, H⟩
   obtain ⟨e, rfl⟩ := he.ex
   refine .nila H fun H => ?_
   refine .whether (v := y1) rfl ?_ ?_ <;> intro hc3
   ·replace h := Z9 hc3 h
    refine .then (.Z0 1 rfl H fun b3 σ H => (.assign (v := (vi 3)) rfl rfl (.nila H fun H => (.ret ?_))))
    replace h := sj h; subst h
    exact (Ends.H (xs := [(vi 3)]) (.inr rfl) H (.tmp (v := (vi 3)) rfl .nil) (.one (.c (.v _))))
   ·replace h := Z6 hc3 h
    refine .skip (.then (.then (.Z0 8 rfl H fun b4 σ H => (.ZP (off := 0) (cs := (vF f)) H 0 rfl rfl rfl rfl rfl rfl rfl nofun rfl ?_))))
    obtain ⟨x2, q2, h⟩ := bind_some h
    refine .call (ys := [(.agg (vF f))]) (r := (vb x2)) rfl (gran_shape_fn q2) rfl (.not (b := x2) rfl rfl (.move (v := (vb (!x2))) rfl rfl ?_))
    obtain ⟨y2, hj2, h⟩ := bind_some h
    refine .mid 4 (K1 := fun e σ => Z5 e [(27, (vb y2)), (1, (.ptr (b1 + 0) 4 0))] ∧ Has σ (b4 + 8) (b4 + 8) [.blk (b1 + 0) 25 (vF f)]) rfl ?_ ?_
    ·refine .split rfl rfl ?_ ?_ <;> intro hc4
     ·replace h := Z9 hc4 hj2
      refine .pass rfl rfl rfl (.pass rfl rfl rfl (.pass rfl rfl rfl (.Zg (v := (vb true)) rfl rfl rfl (.nil ?_))))
      replace h := sj h; subst h
      exact ⟨⟨rfl, rfl, trivial⟩, H.weak (by omega) (Nat.le_refl _)⟩
     ·replace h := Z6 hc4 hj2
      refine .wanted rfl rfl (.ZP (off := 0) (cs := (vF f)) H 0 rfl rfl rfl rfl rfl rfl rfl nofun rfl (.wanted rfl rfl ?_))
      obtain ⟨x3, q3, h⟩ := bind_some h
      refine .call (ys := [(.agg (vF f))]) (r := (vb x3)) rfl (gran_turns_fn q3) rfl (.wanted rfl rfl (.not (b := x3) rfl rfl (.Zn (v := (vb (!x3))) rfl rfl rfl (.nil ?_))))
      replace h := sj h; subst h
      exact ⟨⟨rfl, rfl, trivial⟩, H.weak (by omega) (Nat.le_refl _)⟩
    ·rintro e σ ⟨he, H⟩
     obtain ⟨e, rfl⟩ := he.ex
     refine .nila H fun H => ?_
     refine .whether (v := y2) rfl ?_ ?_ <;> intro hc5
     ·replace h := Z9 hc5 h
      refine .then (.Z0 1 rfl H fun b5 σ H => (.assign (v := (vi 50)) rfl rfl (.nila H fun H => (.ret ?_))))
      replace h := sj h; subst h
      exact (Ends.H (xs := [(vi 50)]) (.inr rfl) H (.tmp (v := (vi 50)) rfl .nil) (.one (.c (.v _))))
     ·replace h := Z6 hc5 h
      refine .skip (.then (.then (.Z0 4 rfl H fun b6 σ H => (.Z2 (off := 0) (fo := 3) H 0 rfl rfl rfl rfl rfl nofun rfl (.ZR (off := 3) (v := (vl Granule.cs f.Odd)) H 0 rfl rfl rfl rfl rfl nofun rfl ?_)))))
      refine .Z0T (c := Granule.cs) (xs := f.Odd) rfl rfl rfl (.move (v := (vi 0)) rfl rfl (.nila H fun H => (.inBlock ?_)))
      obtain ⟨y3, hj3, h⟩ := bind_some h
      obtain ⟨n1, hj3⟩ := Ze.1 hj3
      refine .mono (Runs.ZK hj3 (fun s1 e σ => Z5 e [(1, (.ptr (b1 + 0) 4 0)), (29, (vl Granule.cs f.Odd)), (30, (vi (f.Odd.length : Int))), (31, (vi s1))] ∧ Hs σ [.blk (b1 + 0) 25 (vF f)]) (fun y3 x e σ => (∃ a1, y3 = (.go a1) ∧ x = .exit 0 ∧ Z5 e [] ∧ Hs σ []) ∨ (∃ r', y3 = (.ret r') ∧ x = .ret ∧ Ends CX Try.f7.results.toList (vi r') x e σ)) ⟨⟨rfl, rfl, rfl, rfl, trivial⟩, H⟩ ?_) ?_
      ·intro s1 e σ hI z h
       obtain ⟨he, H⟩ := hI
       obtain ⟨e, rfl⟩ := he.ex
       unfold Zl.s0 at h
       refine .then (.Z0 1 rfl H fun b7 σ H => (.int (m := s1) (m' := (f.Odd.length : Int)) (r := .bool (decide (s1 < (f.Odd.length : Int)))) rfl rfl rfl rfl rfl (.nila H fun H => (.then ?_))))
       refine .whether (v := (decide (s1 < (f.Odd.length : Int)))) rfl ?_ ?_ <;> intro hc6
       ·replace h := Z9 hc6 h
        refine .skip (.then (.inBlock (.then (.Z0 4 rfl H fun b8 σ H => ?_))))
        obtain ⟨x4, q4, h⟩ := bind_some h
        refine .Z0H (c := Granule.cs) (u := x4) rfl rfl q4 rfl rfl rfl rfl (.Z2g (cs := [(.int .i64 x4.Index), (.sl (x4.Ticks.map Span.cs))]) rfl rfl rfl rfl rfl rfl (.Z0p (cs := [(vi 0), .nils]) H (by omega) (by omega) rfl rfl fun σ H => (.Z0e (off := 0) (cells' := [(vi x4.Index), (vl Span.cs x4.Ticks)]) H 0 rfl rfl rfl rfl rfl rfl rfl rfl rfl nofun fun σ H => (.nila H fun H => (.then ?_)))))
        refine .Z0 5 rfl H fun b9 σ H => (.ZP (off := 0) (cs := (vF f)) H 1 rfl rfl rfl rfl rfl rfl rfl nofun rfl (.Z2 (off := 0) (fo := 0) H 0 rfl rfl rfl rfl rfl nofun rfl (.ZR (off := 0) (v := (vi x4.Index)) H 0 rfl rfl rfl rfl rfl nofun rfl ?_)))
        obtain ⟨x5, q5, h⟩ := bind_some h
        refine .call (ys := [(.agg (vF f)), (vi x4.Index)]) (r := (vb x5)) rfl (Z97 q5) rfl (.not (b := x5) rfl rfl (.nila H fun H => ?_))
        refine .whether (v := (!x5)) rfl ?_ ?_ <;> intro hc7
        ·replace h := Z9 hc7 h
         refine .then (.Z0 1 rfl H fun b10 σ H => (.assign (v := (vi 50)) rfl rfl (.nila H fun H => (.ret ?_))))
         replace h := sj h; subst h
         exact ⟨nofun, (.inr ⟨_, rfl, rfl, (Ends.H (xs := [(vi 50)]) (.inr rfl) H (.tmp (v := (vi 50)) rfl .nil) (.one (.c (.v _))))⟩)⟩
        ·replace h := Z6 hc7 h
         refine .skip (.Z0 2 rfl H fun b11 σ H => (.int (m := s1) (m' := 1) (r := .int .i64 (w64 (s1 + 1))) rfl rfl rfl rfl rfl (.move (v := (vi (w64 (s1 + 1)))) rfl rfl (.nila H fun H => ?_))))
         replace h := sj h; subst h
         exact ⟨rfl, ⟨rfl, rfl, rfl, rfl, trivial⟩, (H.erase 0)⟩
       ·replace h := Z6 hc6 h
        refine .exit ?_
        replace h := sj h; subst h
        exact ⟨nofun, (.inl ⟨_, rfl, rfl, trivial, (H.erase 0)⟩)⟩
      ·rintro x e σ (⟨a2, rfl, rfl, he, H⟩ | ⟨r', rfl, rfl, hE⟩)
       ·skip
        replace h := jgo h
        obtain ⟨e, rfl⟩ := he.ex
        refine .then (.Z0 1 rfl H fun b12 σ H => (.assign (v := (vi 0)) rfl rfl (.nila H fun H => (.ret ?_))))
        replace h := sj h; subst h
        exact (Ends.H (xs := [(vi 0)]) (.inr rfl) H (.tmp (v := (vi 0)) rfl .nil) (.one (.c (.v _))))
       ·skip
        replace h := jret h
        replace h := sj h; subst h
        exact hE

theorem Z6S {r : Form} (h : ZH = r) : Fn CX 20 [] (.agg (vs (Form.cs r))) := by
 refine Fn.ends Try.func20 rfl rfl rfl rfl rfl rfl ?_
 have H : Hs (⟨0, fun _ => .none⟩ : Heap) [] := Has.nil (Nat.le_refl _)
 generalize (⟨0, fun _ => .none⟩ : Heap) = σ at H ⊢
 unfold ZH at h
 refine .then (.Z0 1 rfl H fun b1 σ H => (.Z0p (cs := [(vi 0), (vi 0), .nils, .nils]) H (by omega) (by omega) rfl rfl fun σ H => (.nila H fun H => (.then (.Z0 5 rfl H fun b2 σ H => ?_)))))
 refine .Z0q (cs := [(vi 0), (vi 4)]) rfl rfl (.Z3K (sz := 2) ([(Span.mk 0 4)].map Span.cs) H (by omega) (by omega) rfl rfl rfl rfl rfl rfl rfl rfl rfl fun σ H => (.buildSF (sz := 1) ([[(Span.mk 0 4)]].map (cL Span.cs)) H (by omega) (by omega) rfl rfl (.exp (.c (.s 0 rfl)) .nil) rfl rfl rfl rfl rfl rfl rfl nofun fun σ H => (.Z0q (cs := [(vi 7), (vi 1), (.buf (b2 + 2) 1 1), .nils]) rfl rfl (.Z0e (off := 0) (cells' := [(vi 7), (vi 1), (.buf (b2 + 2) 1 1), .nils]) H 2 rfl rfl rfl rfl rfl rfl rfl rfl rfl nofun fun σ H => (.nila H fun H => ?_)))))
 refine .ret ?_
 subst h
 exact (Ends.H (xs := [(.agg [(vi 7), (vi 1), (.buf (b2 + 2) 1 1), .nils])]) (.inr rfl) H (.agg (cs := [(vi 7), (vi 1), (.buf (b2 + 2) 1 1), .nils]) (off := 0) 2 rfl rfl rfl rfl rfl rfl rfl .nil) (.one (.a (.cons (.v _) (.cons (.v _) (.cons (.s 0 rfl) (.cons .n .nil)))))))

theorem find_up_fn {r : Unit} (h : find_up = r) : Fn CX 53 [] (.agg [(vi 1), (.v (.fn 31)), (.v (.fn 64)), (.v (.fn 65))]) := by
 refine Fn.ends Try.func53 rfl rfl rfl rfl rfl rfl ?_
 have H : Hs (⟨0, fun _ => .none⟩ : Heap) [] := Has.nil (Nat.le_refl _)
 generalize (⟨0, fun _ => .none⟩ : Heap) = σ at H ⊢
 unfold find_up at h
 refine .then (.Z0 1 rfl H fun b1 σ H => (.Z0p (cs := [(vi 0), (.v .nilf), (.v .nilf), (.v .nilf)]) H (by omega) (by omega) rfl rfl fun σ H => (.nila H fun H => (.then (.Z0 2 rfl H fun b2 σ H => ?_)))))
 refine .Z0q (cs := [(vi 1), (.v (.fn 31)), (.v (.fn 64)), (.v (.fn 65))]) rfl rfl (.Z0e (off := 0) (cells' := [(vi 1), (.v (.fn 31)), (.v (.fn 64)), (.v (.fn 65))]) H 0 rfl rfl rfl rfl rfl rfl rfl rfl rfl nofun fun σ H => (.nila H fun H => (.ret ?_)))
 subst h
 exact (Ends.H (xs := [(.agg [(vi 1), (.v (.fn 31)), (.v (.fn 64)), (.v (.fn 65))])]) (.inr rfl) H (.agg (cs := [(vi 1), (.v (.fn 31)), (.v (.fn 64)), (.v (.fn 65))]) (off := 0) 0 rfl rfl rfl rfl rfl rfl rfl .nil) (.one (.p rfl)))

theorem Z6g {l : (List Span)} {r : Span × Bool} (h : Z17 l = some r) : Fn CX 41 [(vl Span.cs l)] (.tup [(.agg (vs (Span.cs r.1))), (vb r.2)]) := by
 refine Fn.ends Try.func41 rfl rfl rfl rfl rfl rfl ?_
 have H : Hs (⟨0, fun _ => .none⟩ : Heap) [] := Has.nil (Nat.le_refl _)
 generalize (⟨0, fun _ => .none⟩ : Heap) = σ at H ⊢
 unfold Z17 at h
 refine .then (.Z0 2 rfl H fun b1 σ H => (.Z0p (cs := [(vi 0), (vi 0)]) H (by omega) (by omega) rfl rfl fun σ H => (.assign (v := (vb false)) rfl rfl (.nila H fun H => (.then ?_)))))
 refine .then (.Z0 3 rfl H fun b2 σ H => (.move (v := (vl Span.cs l)) rfl rfl (.Z0T (c := Span.cs) (xs := l) rfl rfl rfl (.int (m := (l.length : Int)) (m' := 0) (r := .bool ((l.length : Int) == 0)) rfl rfl rfl rfl rfl (.nila H fun H => ?_)))))
 refine .whether (v := ((l.length : Int) == 0)) rfl ?_ ?_ <;> intro hc1
 ·replace h := Z9 hc1 h
  refine .then (.Z0 3 rfl H fun b3 σ H => (.Z0q (cs := [(vi 0), (vi 0)]) rfl rfl (.Z0e (off := 0) (cells' := [(vi 0), (vi 0)]) H 0 rfl rfl rfl rfl rfl rfl rfl rfl rfl nofun fun σ H => (.assign (v := (vb false)) rfl rfl (.nila H fun H => ?_)))))
  refine .ret ?_
  replace h := sj h; subst h
  exact (Ends.H (xs := [(.agg [(vi 0), (vi 0)]), (vb false)]) (.inr rfl) H (.agg (cs := [(vi 0), (vi 0)]) (off := 0) 0 rfl rfl rfl rfl rfl rfl rfl (.tmp (v := (vb false)) rfl .nil)) (.two (.cons (.p rfl) (.cons (.c (.v _)) .nil))))
 ·replace h := Z6 hc1 h
  refine .skip (.then (.Z3n 14 rfl (by kernel_rfl) H fun b4 σ H B4 => (.move (v := (vl Span.cs l)) rfl rfl ?_)))
  obtain ⟨x1, q1, h⟩ := bind_some h
  refine .Z0H (c := Span.cs) (u := x1) rfl rfl q1 rfl rfl rfl rfl (.Z1D rfl rfl rfl rfl (.Z2M (u := (.int .i64 x1.From)) rfl rfl rfl rfl (.move (v := (vl Span.cs l)) rfl rfl (.move (v := (vl Span.cs l)) rfl rfl (.Z0T (c := Span.cs) (xs := l) rfl rfl rfl ?_)))))
  refine .int (m := (l.length : Int)) (m' := 1) (r := .int .i64 (w64 ((l.length : Int) - 1))) rfl rfl rfl rfl rfl ?_
  obtain ⟨x2, q2, h⟩ := bind_some h
  refine .Z0H (c := Span.cs) (u := x2) rfl rfl q2 rfl rfl rfl rfl (.Z1D rfl rfl rfl rfl (.Z2M (u := (.int .i64 x2.To)) rfl rfl rfl rfl (.Z0q (cs := [(vi x1.From), (vi x2.To)]) rfl rfl (.Z0e (off := 0) (cells' := [(vi x1.From), (vi x2.To)]) H 0 rfl rfl rfl rfl rfl rfl rfl rfl rfl (fun _ => .inl ⟨B4 0 _ rfl _ rfl, (Z7B (by kernel_rfl))⟩) fun σ H => (.assign (v := (vb true)) rfl rfl ?_)))))
  refine .nila H fun H => (.ret ?_)
  replace h := sj h; subst h
  exact (Ends.H (xs := [(.agg [(vi x1.From), (vi x2.To)]), (vb true)]) (.inr rfl) H (.agg (cs := [(vi x1.From), (vi x2.To)]) (off := 0) 0 rfl rfl rfl rfl rfl rfl rfl (.tmp (v := (vb true)) rfl .nil)) (.two (.cons (.p rfl) (.cons (.c (.v _)) .nil))))

theorem find_up_1_fn {h' : Span} {t : Int} {period : Int} {r : Int} (h : Z6L h' t period = some r) : Fn CX 64 [(.agg (vs (Span.cs h'))), (vi t), (vi period)] (vi r) := by
 refine Fn.ends Try.func64 rfl rfl rfl rfl rfl rfl ?_
 have H : Hs (⟨0, fun _ => .none⟩ : Heap) [] := Has.nil (Nat.le_refl _)
 generalize (⟨0, fun _ => .none⟩ : Heap) = σ at H ⊢
 unfold Z6L at h
 refine .then (.Z0 2 rfl H fun b1 σ H => (.boxH (cs := [(vi h'.From), (vi h'.To)]) H (by omega) (by omega) rfl rfl rfl fun σ H => (.assign (v := (vi 0)) rfl rfl (.nila H fun H => (.then ?_)))))
 refine .Z0 13 rfl H fun b2 σ H => (.Z2 (off := 0) (fo := 1) H 0 rfl rfl rfl rfl rfl nofun rfl (.ZR (off := 1) (v := (vi h'.To)) H 0 rfl rfl rfl rfl rfl nofun rfl (.move (v := (vi t)) rfl rfl (.int (m := h'.To) (m' := t) (r := .int .i64 (w64 (h'.To - t))) rfl rfl rfl rfl rfl (.move (v := (vi period)) rfl rfl ?_)))))
 obtain ⟨x1, q1, h⟩ := bind_some h
 refine .call (ys := [(vi (w64 (h'.To - t))), (vi period)]) (r := (.tup [(vi x1.1), (vi x1.2.1), (vi x1.2.2)])) rfl (Z6a q1) rfl (.move (v := (.tup [(vi x1.1), (vi x1.2.1), (vi x1.2.2)])) rfl rfl (.extract (v := (vi x1.1)) rfl rfl rfl (.extract (v := (vi x1.2.1)) rfl rfl rfl (.extract (v := (vi x1.2.2)) rfl rfl rfl (.assign (v := (vi x1.1)) rfl rfl ?_)))))
 refine .assign (v := (vi x1.2.1)) rfl rfl (.assign (v := (vi x1.2.2)) rfl rfl (.nila H fun H => (.then (.Z0 3 rfl H fun b3 σ H => (.move (v := (vi x1.1)) rfl rfl ?_)))))
 refine .neg (m := x1.1) rfl rfl (.assign (v := (vi (w64 (0 - x1.1)))) rfl rfl (.nila H fun H => (.ret ?_)))
 replace h := sj h; subst h
 exact (Ends.H (xs := [(vi (w64 (0 - x1.1)))]) (.inr rfl) H (.tmp (v := (vi (w64 (0 - x1.1)))) rfl .nil) (.one (.c (.v _))))

theorem Z21 {f : Form} {t : Int} {r : Int × Bool} (h : ZA f t = some r) : Fn CX 74 [(.agg (vs (Form.cs f))), (vi t), (.agg [(vi 1), (.v (.fn 31)), (.v (.fn 64)), (.v (.fn 65))])] (.tup [(vi r.1), (vb r.2)]) := by
 refine Fn.ends Try.func74 rfl rfl rfl rfl rfl rfl ?_
 have H : Hs (⟨0, fun _ => .none⟩ : Heap) [] := Has.nil (Nat.le_refl _)
 generalize (⟨0, fun _ => .none⟩ : Heap) = σ at H ⊢
 unfold ZA at h
 refine .then (.Z0 4 rfl H fun b1 σ H => (.boxH (cs := (vF f)) H (by omega) (by omega) rfl rfl rfl fun σ H => (.boxH (cs := [(vi 1), (.v (.fn 31)), (.v (.fn 64)), (.v (.fn 65))]) H (by omega) (by omega) rfl rfl rfl fun σ H => (.assign (v := (vi 0)) rfl rfl (.assign (v := (vb false)) rfl rfl ?_)))))
 refine .nila H fun H => (.then (.Z0 2 rfl H fun b2 σ H => (.assign (v := (vi 0)) rfl rfl (.assign (v := (vb false)) rfl rfl (.nila H fun H => ?_)))))
 refine .then (.then (.Z0 4 rfl H fun b3 σ H => (.Z2 (off := 0) (fo := 2) H 1 rfl rfl rfl rfl rfl nofun rfl (.ZR (off := 2) (v := (vl (cL Span.cs) f.Core)) H 1 rfl rfl rfl rfl rfl nofun rfl (.Z0T (c := (cL Span.cs)) (xs := f.Core) rfl rfl rfl ?_)))))
 refine .move (v := (vi 0)) rfl rfl (.nila H fun H => (.inBlock ?_))
 obtain ⟨y1, hj1, h⟩ := bind_some h
 obtain ⟨n1, hj1⟩ := Ze.1 hj1
 refine .mono (Runs.ZK hj1 (fun s1 e σ => Z5 e [(1, (vi t)), (3, (.ptr (b1 + 0) 4 0)), (5, (.ptr (b1 + 1) 4 0)), (8, (vi s1.1)), (9, (vb s1.2.1)), (16, (vl (cL Span.cs) f.Core)), (17, (vi (f.Core.length : Int))), (18, (vi s1.2.2))] ∧ Hs σ [.blk (b1 + 1) 87 [(vi 1), (.v (.fn 31)), (.v (.fn 64)), (.v (.fn 65))], .blk (b1 + 0) 25 (vF f)]) (fun y1 x e σ => x = .exit 0 ∧ Z5 e [(8, (vi y1.1)), (9, (vb y1.2))] ∧ Hs σ []) ⟨⟨rfl, rfl, rfl, rfl, rfl, rfl, rfl, rfl, trivial⟩, H⟩ ?_) ?_
 ·intro s1 e σ hI z h
  obtain ⟨he, H⟩ := hI
  obtain ⟨e, rfl⟩ := he.ex
  unfold ZA.s0 at h
  refine .then (.Z0 1 rfl H fun b4 σ H => (.int (m := s1.2.2) (m' := (f.Core.length : Int)) (r := .bool (decide (s1.2.2 < (f.Core.length : Int)))) rfl rfl rfl rfl rfl (.nila H fun H => (.then ?_))))
  refine .whether (v := (decide (s1.2.2 < (f.Core.length : Int)))) rfl ?_ ?_ <;> intro hc1
  ·replace h := Z9 hc1 h
   refine .skip (.then ?_)
   obtain ⟨y2, hj2, h⟩ := bind_some h
   refine .mono (Q := fun x e σ => x = .normal ∧ Z5 e [(1, (vi t)), (3, (.ptr (b1 + 0) 4 0)), (5, (.ptr (b1 + 1) 4 0)), (8, (vi y2.1)), (9, (vb y2.2)), (16, (vl (cL Span.cs) f.Core)), (17, (vi (f.Core.length : Int))), (18, (vi s1.2.2))] ∧ Hs σ [.blk (b1 + 1) 87 [(vi 1), (.v (.fn 31)), (.v (.fn 64)), (.v (.fn 65))], .blk (b1 + 0) 25 (vF f)]) ?_ ?_
   ·replace h := hj2
    refine .inBlock ?_
    obtain ⟨y3, hj3, h⟩ := bind_some h
    refine .mono (Q := fun x e σ => (∃ a1, y3 = (.go a1) ∧ x = .normal ∧ Z5 e [(1, (vi t)), (3, (.ptr (b1 + 0) 4 0)), (5, (.ptr (b1 + 1) 4 0)), (8, (vi a1.1)), (9, (vb a1.2)), (16, (vl (cL Span.cs) f.Core)), (17, (vi (f.Core.length : Int))), (18, (vi s1.2.2))] ∧ Hs σ [.blk (b1 + 1) 87 [(vi 1), (.v (.fn 31)), (.v (.fn 64)), (.v (.fn 65))], .blk (b1 + 0) 25 (vF f)]) ∨ (∃ a2, y3 = (.ret a2) ∧ x = .exit 1 ∧ Z5 e [(1, (vi t)), (3, (.ptr (b1 + 0) 4 0)), (5, (.ptr (b1 + 1) 4 0)), (8, (vi s1.1)), (9, (vb s1.2.1)), (16, (vl (cL Span.cs) f.Core)), (17, (vi (f.Core.length : Int))), (18, (vi s1.2.2))] ∧ Hs σ [.blk (b1 + 1) 87 [(vi 1), (.v (.fn 31)), (.v (.fn 64)), (.v (.fn 65))], .blk (b1 + 0) 25 (vF f)])) ?_ ?_
    ·replace h := hj3
     refine .then (.Z0 5 rfl H fun b5 σ H => (.move (v := (vi s1.2.2)) rfl rfl ?_))
     obtain ⟨x1, q1, h⟩ := bind_some h
     refine .Z0H (c := (cL Span.cs)) (u := x1) rfl rfl q1 rfl rfl rfl rfl (.Z2M (u := (.sl (x1.map Span.cs))) rfl rfl rfl rfl (.assign (v := (vi s1.2.2)) rfl rfl (.assign (v := (vl Span.cs x1)) rfl rfl (.nila H fun H => (.then ?_)))))
     refine .Z0 8 rfl H fun b6 σ H => (.move (v := (vl Span.cs x1)) rfl rfl ?_)
     obtain ⟨x2, q2, h⟩ := bind_some h
     refine .call (ys := [(vl Span.cs x1)]) (r := (.tup [(.agg [(vi x2.1.From), (vi x2.1.To)]), (vb x2.2)])) rfl (Z6g q2) rfl (.move (v := (.tup [(.agg [(vi x2.1.From), (vi x2.1.To)]), (vb x2.2)])) rfl rfl (.extract (v := (.agg [(vi x2.1.From), (vi x2.1.To)])) rfl rfl rfl (.extract (v := (vb x2.2)) rfl rfl rfl (.Z0p (cs := [(vi 0), (vi 0)]) H (by omega) (by omega) rfl rfl fun σ H => (.Z0e (off := 0) (cells' := [(vi x2.1.From), (vi x2.1.To)]) H 0 rfl rfl rfl rfl rfl rfl rfl rfl rfl nofun fun σ H => ?_)))))
     refine .assign (v := (vb x2.2)) rfl rfl (.nila H fun H => (.then (.then (.Z0 2 rfl H fun b7 σ H => (.move (v := (vb x2.2)) rfl rfl ?_)))))
     refine .not (b := x2.2) rfl rfl (.nila H fun H => ?_)
     refine .whether (v := (!x2.2)) rfl ?_ ?_ <;> intro hc2
     ·replace h := Z9 hc2 h
      refine .exit ?_
      replace h := sj h; subst h
      exact (.inr ⟨_, rfl, rfl, ⟨rfl, rfl, rfl, rfl, rfl, rfl, rfl, rfl, trivial⟩, (H.erase 0)⟩)
     ·replace h := Z6 hc2 h
      refine .skip (.then (.Z3n 13 rfl (by kernel_rfl) H fun b8 σ H B8 => (.Z2 (off := 0) (fo := 2) H 1 rfl rfl rfl rfl rfl (fun _ => .inl ⟨B8 1 _ rfl _ rfl, nofun, (fun _ => by kernel_rfl)⟩) rfl (.ZR (off := 2) (v := (.v (.fn 64))) H 1 rfl rfl rfl rfl rfl (fun _ => .inl ⟨B8 1 _ rfl _ rfl, nofun, (fun _ => by kernel_rfl)⟩) rfl (.ZP (off := 0) (cs := [(vi x2.1.From), (vi x2.1.To)]) H 0 rfl rfl rfl rfl rfl rfl rfl (fun _ => .inl ⟨B8 0 _ rfl _ rfl, nofun, (fun _ => by kernel_rfl)⟩) rfl ?_)))))
      refine .move (v := (vi t)) rfl rfl (.Z2 (off := 0) (fo := 0) H 2 rfl rfl rfl rfl rfl (fun _ => .inl ⟨B8 2 _ rfl _ rfl, nofun, (fun _ => by kernel_rfl)⟩) rfl (.ZR (off := 0) (v := (vi f.Period)) H 2 rfl rfl rfl rfl rfl (fun _ => .inl ⟨B8 2 _ rfl _ rfl, nofun, (fun _ => by kernel_rfl)⟩) rfl ?_))
      obtain ⟨x3, q3, h⟩ := bind_some h
      refine .callF (ys := [(.agg [(vi x2.1.From), (vi x2.1.To)]), (vi t), (vi f.Period)]) (r := (vi x3)) rfl rfl (find_up_1_fn q3) rfl (.Z2 (off := 0) (fo := 1) H 2 rfl rfl rfl rfl rfl (fun _ => .inl ⟨B8 2 _ rfl _ rfl, nofun, (fun _ => by kernel_rfl)⟩) rfl (.ZR (off := 1) (v := (vi f.Count)) H 2 rfl rfl rfl rfl rfl (fun _ => .inl ⟨B8 2 _ rfl _ rfl, nofun, (fun _ => by kernel_rfl)⟩) rfl (.int (m := x3) (m' := f.Count) (r := .int .i64 (w64 (x3 * f.Count))) rfl rfl rfl rfl rfl (.move (v := (vi s1.2.2)) rfl rfl (.int (m := (w64 (x3 * f.Count))) (m' := s1.2.2) (r := .int .i64 (w64 ((w64 (x3 * f.Count)) + s1.2.2))) rfl rfl rfl rfl rfl ?_)))))
      refine .assign (v := (vi (w64 ((w64 (x3 * f.Count)) + s1.2.2)))) rfl rfl (.nila H fun H => (.then (.Z0 11 rfl H fun b9 σ H => (.move (v := (vb s1.2.1)) rfl rfl (.not (b := s1.2.1) rfl rfl ?_)))))
      refine .move (v := (vb (!s1.2.1))) rfl rfl ?_
      refine .mid 8 (K1 := fun e σ => Z5 e [(52, (vb ((!s1.2.1) || (decide ((w64 ((w64 ((w64 ((w64 (x3 * f.Count)) + s1.2.2)) - s1.1)) * 1)) < 0))))), (1, (vi t)), (3, (.ptr (b1 + 0) 4 0)), (5, (.ptr (b1 + 1) 4 0)), (8, (vi s1.1)), (9, (vb s1.2.1)), (14, (vi (w64 ((w64 (x3 * f.Count)) + s1.2.2)))), (16, (vl (cL Span.cs) f.Core)), (17, (vi (f.Core.length : Int))), (18, (vi s1.2.2))] ∧ Has σ (b9 + 11) (b9 + 11) [.blk (b1 + 1) 87 [(vi 1), (.v (.fn 31)), (.v (.fn 64)), (.v (.fn 65))], .blk (b1 + 0) 25 (vF f)]) rfl ?_ ?_
      ·refine .split rfl rfl ?_ ?_ <;> intro hc3
       ·skip
        refine .pass rfl rfl rfl (.pass rfl rfl rfl (.pass rfl rfl rfl (.pass rfl rfl rfl (.pass rfl rfl rfl (.pass rfl rfl rfl ?_)))))
        refine .pass rfl rfl rfl (.Zg (v := (vb true)) rfl rfl rfl (.nil ?_))
        exact ⟨⟨or_T hc3, rfl, rfl, rfl, rfl, rfl, rfl, rfl, rfl, rfl, trivial⟩, (H.erase 0).weak (by omega) (Nat.le_refl _)⟩
       ·skip
        refine .wanted rfl rfl (.move (v := (vi (w64 ((w64 (x3 * f.Count)) + s1.2.2)))) rfl rfl (.wanted rfl rfl (.move (v := (vi s1.1)) rfl rfl (.wanted rfl rfl (.int (m := (w64 ((w64 (x3 * f.Count)) + s1.2.2))) (m' := s1.1) (r := .int .i64 (w64 ((w64 ((w64 (x3 * f.Count)) + s1.2.2)) - s1.1))) rfl rfl rfl rfl rfl ?_)))))
        refine .wanted rfl rfl (.Z2 (off := 0) (fo := 0) H 1 rfl rfl rfl rfl rfl nofun rfl (.wanted rfl rfl (.ZR (off := 0) (v := (vi 1)) H 1 rfl rfl rfl rfl rfl nofun rfl (.wanted rfl rfl (.int (m := (w64 ((w64 ((w64 (x3 * f.Count)) + s1.2.2)) - s1.1))) (m' := 1) (r := .int .i64 (w64 ((w64 ((w64 ((w64 (x3 * f.Count)) + s1.2.2)) - s1.1)) * 1))) rfl rfl rfl rfl rfl ?_)))))
        refine .wanted rfl rfl (.int (m := (w64 ((w64 ((w64 ((w64 (x3 * f.Count)) + s1.2.2)) - s1.1)) * 1))) (m' := 0) (r := .bool (decide ((w64 ((w64 ((w64 ((w64 (x3 * f.Count)) + s1.2.2)) - s1.1)) * 1)) < 0))) rfl rfl rfl rfl rfl (.Zn (v := (vb (decide ((w64 ((w64 ((w64 ((w64 (x3 * f.Count)) + s1.2.2)) - s1.1)) * 1)) < 0)))) rfl rfl rfl (.nil ?_)))
        exact ⟨⟨or_F hc3, rfl, rfl, rfl, rfl, rfl, rfl, rfl, rfl, rfl, trivial⟩, (H.erase 0).weak (by omega) (Nat.le_refl _)⟩
      ·rintro e σ ⟨he, H⟩
       obtain ⟨e, rfl⟩ := he.ex
       refine .nila H fun H => ?_
       refine .whether (v := ((!s1.2.1) || (decide ((w64 ((w64 ((w64 ((w64 (x3 * f.Count)) + s1.2.2)) - s1.1)) * 1)) < 0)))) rfl ?_ ?_ <;> intro hc4
       ·replace h := Z9 hc4 h
        refine .Z0 3 rfl H fun b10 σ H => (.move (v := (vi (w64 ((w64 (x3 * f.Count)) + s1.2.2)))) rfl rfl (.assign (v := (vi (w64 ((w64 (x3 * f.Count)) + s1.2.2)))) rfl rfl (.assign (v := (vb true)) rfl rfl (.nila H fun H => ?_))))
        replace h := sj h; subst h
        exact (.inl ⟨_, rfl, rfl, ⟨rfl, rfl, rfl, rfl, rfl, rfl, rfl, rfl, trivial⟩, H⟩)
       ·replace h := Z6 hc4 h
        refine .skip ?_
        replace h := sj h; subst h
        exact (.inl ⟨_, rfl, rfl, ⟨rfl, rfl, rfl, rfl, rfl, rfl, rfl, rfl, trivial⟩, H⟩)
    ·rintro x e σ (⟨a3, rfl, rfl, he, H⟩ | ⟨a4, rfl, rfl, he, H⟩)
     ·skip
      replace h := jgo h
      obtain ⟨e, rfl⟩ := he.ex
      replace h := sj h; subst h
      exact ⟨rfl, ⟨rfl, rfl, rfl, rfl, rfl, rfl, rfl, rfl, trivial⟩, H⟩
     ·skip
      replace h := jret h
      obtain ⟨e, rfl⟩ := he.ex
      replace h := sj h; subst h
      exact ⟨rfl, ⟨rfl, rfl, rfl, rfl, rfl, rfl, rfl, rfl, trivial⟩, H⟩
   ·rintro x e σ ⟨rfl, he, H⟩
    obtain ⟨e, rfl⟩ := he.ex
    refine .Z0 2 rfl H fun b11 σ H => (.int (m := s1.2.2) (m' := 1) (r := .int .i64 (w64 (s1.2.2 + 1))) rfl rfl rfl rfl rfl (.move (v := (vi (w64 (s1.2.2 + 1)))) rfl rfl (.nila H fun H => ?_)))
    replace h := sj h; subst h
    exact ⟨rfl, ⟨rfl, rfl, rfl, rfl, rfl, rfl, rfl, rfl, trivial⟩, H⟩
  ·replace h := Z6 hc1 h
   refine .exit ?_
   replace h := sj h; subst h
   exact ⟨nofun, ⟨rfl, ⟨rfl, rfl, trivial⟩, ((H.erase 1).erase 0)⟩⟩
 ·rintro x e σ ⟨rfl, he, H⟩
  obtain ⟨e, rfl⟩ := he.ex
  refine .then (.Z0 4 rfl H fun b12 σ H => (.move (v := (vi y1.1)) rfl rfl (.move (v := (vb y1.2)) rfl rfl (.assign (v := (vi y1.1)) rfl rfl (.assign (v := (vb y1.2)) rfl rfl ?_)))))
  refine .nila H fun H => (.ret ?_)
  replace h := sj h; subst h
  exact (Ends.H (xs := [(vi y1.1), (vb y1.2)]) (.inr rfl) H (.tmp (v := (vi y1.1)) rfl (.tmp (v := (vb y1.2)) rfl .nil)) (.two (.cons (.c (.v _)) (.cons (.c (.v _)) .nil))))

theorem Z22 {f : Form} {t : Int} {r : Int × Bool} (h : Z3 f t = some r) : Fn CX 63 [(.agg (vs (Form.cs f))), (vi t), (.agg [(vi 1), (.v (.fn 31)), (.v (.fn 64)), (.v (.fn 65))])] (.tup [(vi r.1), (vb r.2)]) := by
 refine Fn.ends Try.func63 rfl rfl rfl rfl rfl rfl ?_
 have H : Hs (⟨0, fun _ => .none⟩ : Heap) [] := Has.nil (Nat.le_refl _)
 generalize (⟨0, fun _ => .none⟩ : Heap) = σ at H ⊢
 unfold Z3 at h
 refine .then (.Z0 4 rfl H fun b1 σ H => (.boxH (cs := (vF f)) H (by omega) (by omega) rfl rfl rfl fun σ H => (.boxH (cs := [(vi 1), (.v (.fn 31)), (.v (.fn 64)), (.v (.fn 65))]) H (by omega) (by omega) rfl rfl rfl fun σ H => (.assign (v := (vi 0)) rfl rfl (.assign (v := (vb false)) rfl rfl ?_)))))
 refine .nila H fun H => (.then (.Z0 9 rfl H fun b2 σ H => (.Z2 (off := 0) (fo := 0) H 1 rfl rfl rfl rfl rfl nofun rfl (.ZR (off := 0) (v := (vi f.Period)) H 1 rfl rfl rfl rfl rfl nofun rfl (.Z2 (off := 0) (fo := 1) H 1 rfl rfl rfl rfl rfl nofun rfl ?_)))))
 refine .ZR (off := 1) (v := (vi f.Count)) H 1 rfl rfl rfl rfl rfl nofun rfl (.Z2 (off := 0) (fo := 2) H 1 rfl rfl rfl rfl rfl nofun rfl (.ZR (off := 2) (v := (vl (cL Span.cs) f.Core)) H 1 rfl rfl rfl rfl rfl nofun rfl (.Z0q (cs := [(vi f.Period), (vi f.Count), (vl (cL Span.cs) f.Core), .nils]) rfl rfl (.Z0p (cs := [(vi 0), (vi 0), .nils, .nils]) H (by omega) (by omega) rfl rfl fun σ H => (.Z0e (off := 0) (cells' := [(vi f.Period), (vi f.Count), (vl (cL Span.cs) f.Core), .nils]) H 0 rfl rfl rfl rfl rfl rfl rfl rfl rfl nofun fun σ H => ?_)))))
 refine .nila H fun H => (.then (.Z0 9 rfl H fun b3 σ H => (.ZP (off := 0) (cs := (vF f)) H 2 rfl rfl rfl rfl rfl rfl rfl nofun rfl (.move (v := (vi t)) rfl rfl (.ZP (off := 0) (cs := [(vi 1), (.v (.fn 31)), (.v (.fn 64)), (.v (.fn 65))]) H 1 rfl rfl rfl rfl rfl rfl rfl nofun rfl ?_)))))
 obtain ⟨x1, q1, h⟩ := bind_some h
 refine .call (ys := [(.agg (vF f)), (vi t), (.agg [(vi 1), (.v (.fn 31)), (.v (.fn 64)), (.v (.fn 65))])]) (r := (.tup [(vi x1.1), (vb x1.2)])) rfl (Z21 q1) rfl (.move (v := (.tup [(vi x1.1), (vb x1.2)])) rfl rfl (.extract (v := (vi x1.1)) rfl rfl rfl (.extract (v := (vb x1.2)) rfl rfl rfl (.assign (v := (vi x1.1)) rfl rfl (.assign (v := (vb x1.2)) rfl rfl ?_)))))
 refine .nila H fun H => (.then (.then (.Z0 2 rfl H fun b4 σ H => (.move (v := (vb x1.2)) rfl rfl (.not (b := x1.2) rfl rfl ?_)))))
 refine .nila H fun H => ?_
 refine .whether (v := (!x1.2)) rfl ?_ ?_ <;> intro hc1
 ·replace h := Z9 hc1 h
  refine .then (.Z0 2 rfl H fun b5 σ H => (.assign (v := (vi 0)) rfl rfl (.assign (v := (vb false)) rfl rfl (.nila H fun H => (.ret ?_)))))
  replace h := sj h; subst h
  exact (Ends.H (xs := [(vi 0), (vb false)]) (.inr rfl) H (.tmp (v := (vi 0)) rfl (.tmp (v := (vb false)) rfl .nil)) (.two (.cons (.c (.v _)) (.cons (.c (.v _)) .nil))))
 ·replace h := Z6 hc1 h
  refine .skip (.then (.Z0 2 rfl H fun b6 σ H => (.makeMapH H (by omega) (by omega) rfl rfl fun σ H => (.assign (v := (.mp (b6 + 0))) rfl rfl (.nila H fun H => ?_)))))
  refine .then (.then (.Z0 4 rfl H fun b7 σ H => (.Z2 (off := 0) (fo := 3) H 3 rfl rfl rfl rfl rfl nofun rfl (.ZR (off := 3) (v := (vl Granule.cs f.Odd)) H 3 rfl rfl rfl rfl rfl nofun rfl (.Z0T (c := Granule.cs) (xs := f.Odd) rfl rfl rfl ?_)))))
  refine .move (v := (vi 0)) rfl rfl (.nila H fun H => (.inBlock ?_))
  obtain ⟨y1, hj1, h⟩ := bind_some h
  obtain ⟨n1, hj1⟩ := Ze.1 hj1
  refine .mono (Runs.ZK hj1 (fun s1 e σ => Z5 e [(5, (.ptr (b1 + 1) 4 0)), (8, (.ptr (b2 + 7) 4 0)), (9, (vi x1.1)), (11, (.mp (b6 + 0))), (35, (vl Granule.cs f.Odd)), (36, (vi (f.Odd.length : Int))), (37, (vi s1.1))] ∧ Hs σ [.mp (b6 + 0) s1.2, .blk (b2 + 7) 25 [(vi f.Period), (vi f.Count), (vl (cL Span.cs) f.Core), .nils], .blk (b1 + 1) 87 [(vi 1), (.v (.fn 31)), (.v (.fn 64)), (.v (.fn 65))]]) (fun y1 x e σ => x = .exit 0 ∧ Z5 e [(5, (.ptr (b1 + 1) 4 0)), (8, (.ptr (b2 + 7) 4 0)), (9, (vi x1.1)), (11, (.mp (b6 + 0)))] ∧ Hs σ [.mp (b6 + 0) y1, .blk (b2 + 7) 25 [(vi f.Period), (vi f.Count), (vl (cL Span.cs) f.Core), .nils], .blk (b1 + 1) 87 [(vi 1), (.v (.fn 31)), (.v (.fn 64)), (.v (.fn 65))]]) ⟨⟨rfl, rfl, rfl, rfl, rfl, rfl, rfl, trivial⟩, (H.erase 3)⟩ ?_) ?_
  ·intro s1 e σ hI z h
   obtain ⟨he, H⟩ := hI
   obtain ⟨e, rfl⟩ := he.ex
   unfold Z3.s0 at h
   refine .then (.Z0 1 rfl H fun b8 σ H => (.int (m := s1.1) (m' := (f.Odd.length : Int)) (r := .bool (decide (s1.1 < (f.Odd.length : Int)))) rfl rfl rfl rfl rfl (.nila H fun H => (.then ?_))))
   refine .whether (v := (decide (s1.1 < (f.Odd.length : Int)))) rfl ?_ ?_ <;> intro hc2
   ·replace h := Z9 hc2 h
    refine .skip (.then (.inBlock (.then (.Z0 4 rfl H fun b9 σ H => ?_))))
    obtain ⟨x2, q2, h⟩ := bind_some h
    refine .Z0H (c := Granule.cs) (u := x2) rfl rfl q2 rfl rfl rfl rfl (.Z2g (cs := [(.int .i64 x2.Index), (.sl (x2.Ticks.map Span.cs))]) rfl rfl rfl rfl rfl rfl (.Z0p (cs := [(vi 0), .nils]) H (by omega) (by omega) rfl rfl fun σ H => (.Z0e (off := 0) (cells' := [(vi x2.Index), (vl Span.cs x2.Ticks)]) H 0 rfl rfl rfl rfl rfl rfl rfl rfl rfl nofun fun σ H => (.nila H fun H => (.Z0 6 rfl H fun b10 σ H => ?_)))))
    refine .move (v := (.mp (b6 + 0))) rfl rfl (.Z2 (off := 0) (fo := 0) H 0 rfl rfl rfl rfl rfl nofun rfl (.ZR (off := 0) (v := (vi x2.Index)) H 0 rfl rfl rfl rfl rfl nofun rfl (.lookupH (a := x2.Index) H 1 rfl rfl rfl rfl rfl (.int (m := (mget s1.2 x2.Index)) (m' := 1) (r := .int .i64 (w64 ((mget s1.2 x2.Index) + 1))) rfl rfl rfl rfl rfl (.mapUpdateH (a := x2.Index) (b := (w64 ((mget s1.2 x2.Index) + 1))) H 1 rfl rfl rfl rfl rfl fun σ H => ?_)))))
    refine .nila H fun H => (.Z0 2 rfl H fun b11 σ H => (.int (m := s1.1) (m' := 1) (r := .int .i64 (w64 (s1.1 + 1))) rfl rfl rfl rfl rfl (.move (v := (vi (w64 (s1.1 + 1)))) rfl rfl (.nila H fun H => ?_))))
    replace h := sj h; subst h
    exact ⟨rfl, ⟨rfl, rfl, rfl, rfl, rfl, rfl, rfl, trivial⟩, (H.erase 0)⟩
   ·replace h := Z6 hc2 h
    refine .exit ?_
    replace h := sj h; subst h
    exact ⟨nofun, ⟨rfl, ⟨rfl, rfl, rfl, rfl, trivial⟩, H⟩⟩
  ·rintro x e σ ⟨rfl, he, H⟩
   obtain ⟨e, rfl⟩ := he.ex
   refine .then (.Z0 1 rfl H fun b12 σ H => (.assign (v := (vi 0)) rfl rfl (.nila H fun H => (.then (.then ?_)))))
   refine .Z0 13 rfl H fun b13 σ H => (.Z2 (off := 0) (fo := 1) H 2 rfl rfl rfl rfl rfl nofun rfl (.ZR (off := 1) (v := (.v (.fn 31))) H 2 rfl rfl rfl rfl rfl nofun rfl (.ZP (off := 0) (cs := [(vi f.Period), (vi f.Count), (vl (cL Span.cs) f.Core), .nils]) H 1 rfl rfl rfl rfl rfl rfl rfl nofun rfl (.move (v := (vi x1.1)) rfl rfl (.Z2 (off := 0) (fo := 0) H 2 rfl rfl rfl rfl rfl nofun rfl ?_)))))
   refine .ZR (off := 0) (v := (vi 1)) H 2 rfl rfl rfl rfl rfl nofun rfl (.int (m := x1.1) (m' := 1) (r := .int .i64 (w64 (x1.1 - 1))) rfl rfl rfl rfl rfl ?_)
   obtain ⟨x3, q3, h⟩ := bind_some h
   refine .callFX (xs := [(.agg [(vi f.Period), (vi f.Count), (vl (cL Span.cs) f.Core), .nils]), (vi (w64 (x1.1 - 1)))]) (ys := [(.agg (vs (Form.cs (Form.mk f.Period f.Count f.Core [])))), (vi (w64 (x1.1 - 1)))]) H rfl rfl (.cons (.a (.cons (.v _) (.cons (.v _) (.cons (.v _) (.cons (.n) .nil))))) (.cons (.c (.v _)) .nil)) (Z4Y q3) rfl rfl nofun rfl fun σ H => (.move (v := (.tup [(vi x3.1), (vb x3.2)])) rfl rfl (.extract (v := (vi x3.1)) rfl rfl rfl (.extract (v := (vb x3.2)) rfl rfl rfl (.assign (v := (vi x3.1)) rfl rfl (.assign (v := (vb x3.2)) rfl rfl ?_)))))
   refine .nila H fun H => (.inBlock ?_)
   obtain ⟨y2, hj2, h⟩ := bind_some h
   obtain ⟨n2, hj2⟩ := Ze.1 hj2
   refine .mono (Runs.ZK hj2 (fun s2 e σ => Z5 e [(5, (.ptr (b1 + 1) 4 0)), (8, (.ptr (b2 + 7) 4 0)), (9, (vi s2.1)), (10, (vb s2.2.1)), (11, (.mp (b6 + 0))), (14, (vi s2.2.2))] ∧ Hs σ [.mp (b6 + 0) y1, .blk (b2 + 7) 25 [(vi f.Period), (vi f.Count), (vl (cL Span.cs) f.Core), .nils], .blk (b1 + 1) 87 [(vi 1), (.v (.fn 31)), (.v (.fn 64)), (.v (.fn 65))]]) (fun y2 x e σ => (∃ a1, y2 = (.go a1) ∧ x = .exit 2 ∧ Z5 e [] ∧ Hs σ []) ∨ (∃ r', y2 = (.ret r') ∧ x = .ret ∧ Ends CX Try.f63.results.toList (.tup [(vi r'.1), (vb r'.2)]) x e σ)) ⟨⟨rfl, rfl, rfl, rfl, rfl, rfl, trivial⟩, H⟩ ?_) ?_
   ·intro s2 e σ hI z h
    obtain ⟨he, H⟩ := hI
    obtain ⟨e, rfl⟩ := he.ex
    unfold Z3.s1 at h
    refine .then (.then (.Z0 5 rfl H fun b14 σ H => (.move (v := (vb s2.2.1)) rfl rfl (.move (v := (vb s2.2.1)) rfl rfl ?_))))
    refine .mid 3 (K1 := fun e σ => Z5 e [(62, (vb (s2.2.1 && (decide (s2.2.2 < 2))))), (5, (.ptr (b1 + 1) 4 0)), (8, (.ptr (b2 + 7) 4 0)), (9, (vi s2.1)), (11, (.mp (b6 + 0))), (14, (vi s2.2.2))] ∧ Has σ (b14 + 5) (b14 + 5) [.mp (b6 + 0) y1, .blk (b2 + 7) 25 [(vi f.Period), (vi f.Count), (vl (cL Span.cs) f.Core), .nils], .blk (b1 + 1) 87 [(vi 1), (.v (.fn 31)), (.v (.fn 64)), (.v (.fn 65))]]) rfl ?_ ?_
    ·refine .split rfl rfl ?_ ?_ <;> intro hc3
     ·skip
      refine .wanted rfl rfl (.move (v := (vi s2.2.2)) rfl rfl (.wanted rfl rfl (.int (m := s2.2.2) (m' := 2) (r := .bool (decide (s2.2.2 < 2))) rfl rfl rfl rfl rfl (.Zg (v := (vb (decide (s2.2.2 < 2)))) rfl rfl rfl (.nil ?_)))))
      exact ⟨⟨Z1f hc3, rfl, rfl, rfl, rfl, rfl, trivial⟩, H.weak (by omega) (Nat.le_refl _)⟩
     ·skip
      refine .pass rfl rfl rfl (.pass rfl rfl rfl (.Zn (v := (vb false)) rfl rfl rfl (.nil ?_)))
      exact ⟨⟨Z1e hc3, rfl, rfl, rfl, rfl, rfl, trivial⟩, H.weak (by omega) (Nat.le_refl _)⟩
    ·rintro e σ ⟨he, H⟩
     obtain ⟨e, rfl⟩ := he.ex
     refine .nila H fun H => ?_
     refine .whether (v := (s2.2.1 && (decide (s2.2.2 < 2)))) rfl ?_ ?_ <;> intro hc4
     ·replace h := Z9 hc4 h
      refine .skip (.then ?_)
      obtain ⟨y3, hj3, h⟩ := bind_some h
      refine .mono (Q := fun x e σ => (∃ a2, y3 = (.go a2) ∧ x = .normal ∧ Z5 e [(5, (.ptr (b1 + 1) 4 0)), (8, (.ptr (b2 + 7) 4 0)), (9, (vi s2.1)), (11, (.mp (b6 + 0))), (14, (vi a2))] ∧ Hs σ [.mp (b6 + 0) y1, .blk (b2 + 7) 25 [(vi f.Period), (vi f.Count), (vl (cL Span.cs) f.Core), .nils], .blk (b1 + 1) 87 [(vi 1), (.v (.fn 31)), (.v (.fn 64)), (.v (.fn 65))]]) ∨ (∃ r', y3 = (.ret r') ∧ x = .ret ∧ Ends CX Try.f63.results.toList (.tup [(vi r'.1), (vb r'.2)]) x e σ)) ?_ ?_
      ·replace h := hj3
       refine .inBlock ?_
       obtain ⟨y4, hj4, h⟩ := bind_some h
       refine .mono (Q := fun x e σ => (∃ a3, y4 = (.go a3) ∧ x = .normal ∧ Z5 e [(5, (.ptr (b1 + 1) 4 0)), (8, (.ptr (b2 + 7) 4 0)), (9, (vi s2.1)), (11, (.mp (b6 + 0))), (14, (vi a3))] ∧ Hs σ [.mp (b6 + 0) y1, .blk (b2 + 7) 25 [(vi f.Period), (vi f.Count), (vl (cL Span.cs) f.Core), .nils], .blk (b1 + 1) 87 [(vi 1), (.v (.fn 31)), (.v (.fn 64)), (.v (.fn 65))]]) ∨ (∃ r', y4 = (.ret r') ∧ x = .ret ∧ Ends CX Try.f63.results.toList (.tup [(vi r'.1), (vb r'.2)]) x e σ)) ?_ ?_
       ·replace h := hj4
        refine .then (.Z0 8 rfl H fun b15 σ H => (.ZP (off := 0) (cs := [(vi f.Period), (vi f.Count), (vl (cL Span.cs) f.Core), .nils]) H 1 rfl rfl rfl rfl rfl rfl rfl nofun rfl (.move (v := (vi s2.1)) rfl rfl ?_)))
        obtain ⟨x4, q4, h⟩ := bind_some h
        refine .Z32 (xs := [(.agg [(vi f.Period), (vi f.Count), (vl (cL Span.cs) f.Core), .nils]), (vi s2.1)]) (ys := [(.agg (vs (Form.cs (Form.mk f.Period f.Count f.Core [])))), (vi s2.1)]) H rfl (.cons (.a (.cons (.v _) (.cons (.v _) (.cons (.v _) (.cons (.n) .nil))))) (.cons (.c (.v _)) .nil)) (Z3b q4) rfl rfl nofun rfl fun σ H => (.move (v := (.tup [(vl Span.cs x4.1), (vi x4.2)])) rfl rfl (.extract (v := (vl Span.cs x4.1)) rfl rfl rfl (.extract (v := (vi x4.2)) rfl rfl rfl (.assign (v := (vl Span.cs x4.1)) rfl rfl (.assign (v := (vi x4.2)) rfl rfl ?_)))))
        refine .nila H fun H => (.then (.Z0 2 rfl H fun b16 σ H => (.move (v := (vi x4.2)) rfl rfl (.int (m := x4.2) (m' := 0) (r := .bool (x4.2 != 0)) rfl rfl rfl rfl rfl (.nila H fun H => ?_)))))
        refine .whether (v := (x4.2 != 0)) rfl ?_ ?_ <;> intro hc5
        ·replace h := Z9 hc5 h
         refine .Z0 3 rfl H fun b17 σ H => (.move (v := (vi s2.2.2)) rfl rfl (.int (m := s2.2.2) (m' := 1) (r := .int .i64 (w64 (s2.2.2 + 1))) rfl rfl rfl rfl rfl (.assign (v := (vi (w64 (s2.2.2 + 1)))) rfl rfl (.nila H fun H => ?_))))
         replace h := sj h; subst h
         exact (.inl ⟨_, rfl, rfl, ⟨rfl, rfl, rfl, rfl, rfl, trivial⟩, H⟩)
        ·replace h := Z6 hc5 h
         refine .then (.Z0 4 rfl H fun b18 σ H => (.move (v := (.mp (b6 + 0))) rfl rfl (.move (v := (vi s2.1)) rfl rfl (.lookupH (a := s2.1) H 0 rfl rfl rfl rfl rfl (.int (m := (mget y1 s2.1)) (m' := 0) (r := .bool ((mget y1 s2.1) == 0)) rfl rfl rfl rfl rfl ?_)))))
         refine .nila H fun H => ?_
         refine .whether (v := ((mget y1 s2.1) == 0)) rfl ?_ ?_ <;> intro hc6
         ·replace h := Z9 hc6 h
          refine .then (.Z0 3 rfl H fun b19 σ H => (.move (v := (vi s2.1)) rfl rfl (.assign (v := (vi s2.1)) rfl rfl (.assign (v := (vb true)) rfl rfl (.nila H fun H => ?_)))))
          refine .ret ?_
          replace h := sj h; subst h
          exact (.inr ⟨_, rfl, rfl, (Ends.H (xs := [(vi s2.1), (vb true)]) (.inr rfl) H (.tmp (v := (vi s2.1)) rfl (.tmp (v := (vb true)) rfl .nil)) (.two (.cons (.c (.v _)) (.cons (.c (.v _)) .nil))))⟩)
         ·replace h := Z6 hc6 h
          refine .skip ?_
          replace h := sj h; subst h
          exact (.inl ⟨_, rfl, rfl, ⟨rfl, rfl, rfl, rfl, rfl, trivial⟩, H⟩)
       ·rintro x e σ (⟨a4, rfl, rfl, he, H⟩ | ⟨r', rfl, rfl, hE⟩)
        ·skip
         replace h := jgo h
         obtain ⟨e, rfl⟩ := he.ex
         replace h := sj h; subst h
         exact (.inl ⟨_, rfl, rfl, ⟨rfl, rfl, rfl, rfl, rfl, trivial⟩, H⟩)
        ·skip
         replace h := jret h
         replace h := sj h; subst h
         exact (.inr ⟨_, rfl, rfl, hE⟩)
      ·rintro x e σ (⟨a5, rfl, rfl, he, H⟩ | ⟨r', rfl, rfl, hE⟩)
       ·skip
        replace h := jgo h
        obtain ⟨e, rfl⟩ := he.ex
        refine .Z0 10 rfl H fun b20 σ H => (.Z2 (off := 0) (fo := 1) H 2 rfl rfl rfl rfl rfl nofun rfl (.ZR (off := 1) (v := (.v (.fn 31))) H 2 rfl rfl rfl rfl rfl nofun rfl (.ZP (off := 0) (cs := [(vi f.Period), (vi f.Count), (vl (cL Span.cs) f.Core), .nils]) H 1 rfl rfl rfl rfl rfl rfl rfl nofun rfl (.move (v := (vi s2.1)) rfl rfl ?_))))
        obtain ⟨x5, q5, h⟩ := bind_some h
        refine .callFX (xs := [(.agg [(vi f.Period), (vi f.Count), (vl (cL Span.cs) f.Core), .nils]), (vi s2.1)]) (ys := [(.agg (vs (Form.cs (Form.mk f.Period f.Count f.Core [])))), (vi s2.1)]) H rfl rfl (.cons (.a (.cons (.v _) (.cons (.v _) (.cons (.v _) (.cons (.n) .nil))))) (.cons (.c (.v _)) .nil)) (Z4Y q5) rfl rfl nofun rfl fun σ H => (.move (v := (.tup [(vi x5.1), (vb x5.2)])) rfl rfl (.extract (v := (vi x5.1)) rfl rfl rfl (.extract (v := (vb x5.2)) rfl rfl rfl (.assign (v := (vi x5.1)) rfl rfl (.assign (v := (vb x5.2)) rfl rfl ?_)))))
        refine .nila H fun H => ?_
        replace h := sj h; subst h
        exact ⟨rfl, ⟨rfl, rfl, rfl, rfl, rfl, rfl, trivial⟩, H⟩
       ·skip
        replace h := jret h
        replace h := sj h; subst h
        exact ⟨nofun, (.inr ⟨_, rfl, rfl, hE⟩)⟩
     ·replace h := Z6 hc4 h
      refine .exit ?_
      replace h := sj h; subst h
      exact ⟨nofun, (.inl ⟨_, rfl, rfl, trivial, (((H.erase 2).erase 1).erase 0)⟩)⟩
   ·rintro x e σ (⟨a6, rfl, rfl, he, H⟩ | ⟨r', rfl, rfl, hE⟩)
    ·skip
     replace h := jgo h
     obtain ⟨e, rfl⟩ := he.ex
     refine .then (.Z0 2 rfl H fun b21 σ H => (.assign (v := (vi 0)) rfl rfl (.assign (v := (vb false)) rfl rfl (.nila H fun H => (.ret ?_)))))
     replace h := sj h; subst h
     exact (Ends.H (xs := [(vi 0), (vb false)]) (.inr rfl) H (.tmp (v := (vi 0)) rfl (.tmp (v := (vb false)) rfl .nil)) (.two (.cons (.c (.v _)) (.cons (.c (.v _)) .nil))))
    ·skip
     replace h := jret h
     replace h := sj h; subst h
     exact hE

theorem find_up_2_fn {h' : Span} {t : Int} {r : Bool} (h : Z1y h' t = r) : Fn CX 65 [(.agg (vs (Span.cs h'))), (vi t)] (vb r) := by
 refine Fn.ends Try.func65 rfl rfl rfl rfl rfl rfl ?_
 have H : Hs (⟨0, fun _ => .none⟩ : Heap) [] := Has.nil (Nat.le_refl _)
 generalize (⟨0, fun _ => .none⟩ : Heap) = σ at H ⊢
 unfold Z1y at h
 refine .then (.Z0 2 rfl H fun b1 σ H => (.boxH (cs := [(vi h'.From), (vi h'.To)]) H (by omega) (by omega) rfl rfl rfl fun σ H => (.assign (v := (vb false)) rfl rfl (.nila H fun H => (.then ?_)))))
 refine .Z0 5 rfl H fun b2 σ H => (.Z2 (off := 0) (fo := 1) H 0 rfl rfl rfl rfl rfl nofun rfl (.ZR (off := 1) (v := (vi h'.To)) H 0 rfl rfl rfl rfl rfl nofun rfl (.move (v := (vi t)) rfl rfl (.int (m := h'.To) (m' := t) (r := .bool (decide (h'.To ≥ t))) rfl rfl rfl rfl rfl (.assign (v := (vb (decide (h'.To ≥ t)))) rfl rfl ?_)))))
 refine .nila H fun H => (.ret ?_)
 subst h
 exact (Ends.H (xs := [(vb (decide (h'.To ≥ t)))]) (.inr rfl) H (.tmp (v := (vb (decide (h'.To ≥ t)))) rfl .nil) (.one (.c (.v _))))

end Go.Dn
