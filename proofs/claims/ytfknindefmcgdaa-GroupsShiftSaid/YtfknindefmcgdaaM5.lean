/- Part 5 of what the row stands on. -/
import Derived.Test.YtfknindefmcgdaaM4
set_option linter.unusedVariables false
set_option linter.unusedSimpArgs false
namespace Go.Dn
open Go
theorem canon_same {f h : Form} (hlf : Lim f) (hlh : Lim h) (sf : Shape f) (sh : Shape h) (hc : csz h = csz f) (ha : Zd h = Zd f) : Ze h = Ze f := by
 have bare : ∀ {f : Form}, Shape f → (Bare f ↔ ∀ i, csz f i = []) := fun {f} hs => by
  constructor
  ·exact fun hb i => csz_bare hs hb i
  ·intro h
   by_cases hb : Bare f
   ·exact hb
   ·exfalso
    have h0 : 0 < f.Count := by
     have hcnt := hs.count
     by_cases h0 : f.Core = []
     ·exact absurd (fun l hl => by rw [h0] at hl; cases hl) hb
     ·have := List.length_pos_iff.2 h0; omega
    obtain ⟨i, _, _, i3⟩ := cs_some hs hb h0 0
    have := h i
    rw [Z2l h0] at this;exact i3 this
 have mem : ∀ {f c : Form}, Shape f → ∀ x : Granule, x ∈ (Z0q f c).Odd ↔ ZK x.Index ∧ Zd f x.Index = x.Ticks ∧ csz f x.Index ≠ x.Ticks ∧ Z1j f x.Index := fun {f c} hs x => by
  rw [Z24, Z8b]
  constructor
  ·rintro ⟨h1, h2⟩;exact ⟨(hs.odd x h1).2, Z0d hs.inc h1, h2, ⟨x, h1, rfl⟩⟩
  ·rintro ⟨_, h1, h2, ⟨y, hy, e⟩⟩;have h3 := Z0d hs.inc hy
   rw [e, h1] at h3;have : x = y := by rw [Z68]; exact ⟨e.symm, h3⟩
   rw [this];refine ⟨hy, ?_⟩;rw [← this]; exact h2
 have odd_of : ∀ {f : Form} {i : Int} {l : List Span}, Zd f i = l → csz f i ≠ l → Z1j f i := fun {f i l} h1 h2 => Classical.byContradiction fun ho => h2 (by rw [← Z3J ho, h1])
 obtain ⟨c, c1, c2⟩ := Z1w hlf sf
 obtain ⟨d, d1, d2⟩ := Z1w hlh sh
 have e : d = c := coreOf_eq sh sf hc (by rw [bare sh, bare sf, hc]) d1 c1
 subst e
 rw [c2, d2]
 have ho : (Z0q h d).Odd = (Z0q f d).Odd := by
  refine inc_ext (Z2N.1 (sh.inc.filter _)) (Z2N.1 (sf.inc.filter _)) fun x => ?_
  rw [mem sh, mem sf, hc, ha]
  constructor
  ·rintro ⟨h1, h2, h3, _⟩; exact ⟨h1, h2, h3, odd_of h2 h3⟩
  ·rintro ⟨h1, h2, h3, _⟩;have h2' : Zd h x.Index = x.Ticks := by rw [ha]; exact h2
   have h3' : csz h x.Index ≠ x.Ticks := by rw [hc]; exact h3
   exact ⟨h1, h2, h3, odd_of h2' h3'⟩
 congr 1
 rw [Z4q]
 exact ⟨rfl, rfl, rfl, ho⟩
noncomputable def Z0n (f : Form) (m : Int) : Form := Form.mk f.Period f.Count ((List.range f.Core.length).map fun (j : Nat) => csz f ((j : Int) - m)) (f.Odd.map fun g => Granule.mk (g.Index + m) g.Ticks)
theorem Z75 {f : Form} (hs : Shape f) (m i : Int) : csz (Z0n f m) i = csz f (i - m) := by
 have hcnt := hs.count
 by_cases h0 : f.Count = 0
 ·unfold csz;rw [if_pos (show (Z0n f m).Count = 0 from h0), if_pos h0]
 ·have hp : 0 < f.Count := by omega
  rw [Z2l (show 0 < (Z0n f m).Count from hp), Z2l hp]
  have hi := Int.emod_nonneg i h0
  have hi2 := Int.emod_lt_of_pos i hp
  have e : i - m = (i % f.Count - m) + f.Count * (i / f.Count) := by
   have := Int.emod_add_mul_ediv i f.Count
   omega
  rw [e, Z7D h0]
  show (Z0f (Z0n f m) i).map (Zy (i / f.Count * f.Period)) = _
  congr 1
  show ((List.range f.Core.length).map fun (j : Nat) => csz f ((j : Int) - m)).getD (i % f.Count).toNat [] = _
  rw [List.getD_eq_getElem?_getD, List.getElem?_map, List.getElem?_range (by omega)]
  simp only [Option.map_some, Option.getD_some];rw [Z2l hp, Int.toNat_of_nonneg hi]
theorem shiftF_odd {f : Form} {m i : Int} : Z1j (Z0n f m) i ↔ Z1j f (i - m) := by
 unfold Z1j Z0n
 simp only [List.mem_map]
 constructor
 ·rintro ⟨g, ⟨x, hx, rfl⟩, e⟩;exact ⟨x, hx, by simp only at e; omega⟩
 ·rintro ⟨x, hx, e⟩;exact ⟨_, ⟨x, hx, rfl⟩, by simp only; omega⟩
theorem shiftF_inc {f : Form} (hs : Shape f) (m : Int) : Inc (Z0n f m).Odd := by
 rw [Z2N]
 show (f.Odd.map fun g => Granule.mk (g.Index + m) g.Ticks).Pairwise _
 rw [List.pairwise_map]
 exact (Z2N.1 hs.inc).imp fun h => by simp only; omega
theorem Z7e {f : Form} (hs : Shape f) (m i : Int) : Zd (Z0n f m) i = Zd f (i - m) := by
 by_cases ho : Z1j f (i - m)
 ·obtain ⟨x, hx, e⟩ := ho
  have h1 := Z0d hs.inc hx
  have h2 := Z0d (f := Z0n f m) (shiftF_inc hs m) (g := Granule.mk (x.Index + m) x.Ticks) (List.mem_map.2 ⟨x, hx, rfl⟩)
  simp only at h2;rw [show i = x.Index + m by omega, h2, show x.Index + m - m = x.Index by omega, h1]
 ·rw [Z3J ho, Z3J (fun h => ho (shiftF_odd.1 h)), Z75 hs]
theorem raw_eq {f : Form} (hl : Lim f) (hs : Shape f) {i : Int} (hi : In64 i) : (Z1q f i = some (csz f i, 0) ∧ (∀ s ∈ csz f i, ZK s.From ∧ ZK s.To) ∧ Len (csz f i)) ∨ Z1q f i = some ([], 20) := by
 unfold Z1q
 have hcnt := hs.count
 have len0 : Len ([] : List Span) := by show ([] : List Span).length * 16 ≤ reachBytes; simp
 by_cases h0 : f.Count = 0
 ·rw [beq_t h0, cond_true];have : csz f i = [] := if_pos h0
  rw [this];exact .inl ⟨rfl, by simp, len0⟩
 ·have hp : 0 < f.Count := by omega
  rw [Z5x h0, cond_false, Z4X hi hl.count, Z72 hp];simp only [Option.bind_some];obtain ⟨c1, c2⟩ := Z1F hs h0 i
  rw [c1];simp only [Option.bind_some];have hcsz : csz f i = (Z0f f i).map (Zy (i / f.Count * f.Period)) := by rw [Z2l hp]; rfl
  by_cases hn : Z0f f i = []
  ·rw [hcsz, hn];exact .inl ⟨rfl, by simp, len0⟩
  ·have hlen : ¬ ((Z0f f i).length : Int) = 0 := by have := List.length_pos_iff.2 hn; omega
   rw [Z5x hlen, cond_false];have hq : In64 (i / f.Count) := by
    unfold In64 at hi ⊢;have q1 : i / f.Count ≤ 9223372036854775807 := Int.ediv_le_of_le_mul hp (by
     have : (9223372036854775807 : Int) * 1 ≤ 9223372036854775807 * f.Count := Int.mul_le_mul_of_nonneg_left (by omega) (by decide)
     omega)
    have q2 : -9223372036854775808 ≤ i / f.Count := Int.le_ediv_of_mul_le hp (by
     have : (9223372036854775808 : Int) * 1 ≤ 9223372036854775808 * f.Count := Int.mul_le_mul_of_nonneg_left (by omega) (by decide)
     omega)
    exact ⟨q2, q1⟩
   rw [Z8v hq hl.period]
   rcases fit_or (i / f.Count * f.Period) with ⟨f1, f2⟩ | ⟨f1, f2⟩
   ·rw [f2];simp only [bne_self_eq_false, Bool.or_self, cond_false]
    rcases Z4a (hl.sets _ c2).1 (hl.sets _ c2).2 f1 with ⟨m1, m2⟩ | ⟨m1, m2⟩
    ·rw [m2]
     left
     rw [hcsz];refine ⟨rfl, fun s hs' => ?_, by unfold Len; rw [List.length_map]; exact (hl.sets _ c2).1⟩
     obtain ⟨x, hx, rfl⟩ := List.mem_map.1 hs'
     exact m1 x hx
    ·rw [m2];exact .inr rfl
   ·rw [f2];exact .inr rfl
structure Bnd (f : Form) : Prop where
 core : f.Core.length ≤ 12
 odd : f.Odd.length ≤ 8
 sets : ∀ l ∈ f.Core, l.length ≤ 60
 ticks : ∀ g ∈ f.Odd, g.Ticks.length ≤ 60
theorem le_sum {α : Type} (g : α → Nat) : ∀ {l : List α} {x : α}, x ∈ l → g x ≤ (l.map g).sum
 | y :: l, x, h => by
  rw [List.map_cons, List.sum_cons]
  rcases List.mem_cons.1 h with rfl | h
  ·omega
  ·have := le_sum g h; omega
theorem sum_le {α : Type} (g : α → Nat) {b : Nat} : ∀ {l : List α}, (∀ x ∈ l, g x ≤ b) → (l.map g).sum ≤ l.length * b
 | [], _ => by simp
 | y :: l, h => by
  rw [List.map_cons, List.sum_cons, List.length_cons, Nat.add_mul];have h1 := h y List.mem_cons_self
  have h2 := sum_le g (l := l) (b := b) fun x hx => h x (List.mem_cons_of_mem _ hx)
  omega
theorem SmallF.bnd {f : Form} (h : SmallF f) : Bnd f := by
 obtain ⟨h1, h2, h3⟩ := h
 unfold Z4m at h3
 refine ⟨h1, h2, fun l hl => ?_, fun g hg => ?_⟩
 ·have := le_sum List.length hl; omega
 ·have := le_sum (fun g : Granule => g.Ticks.length) hg; omega
theorem Bnd.short {f : Form} (h : Bnd f) : ¬ LongF f := by
 have h1 := sum_le List.length h.sets
 have h2 := sum_le (fun g : Granule => g.Ticks.length) h.ticks
 have h3 := h.core
 have h4 := h.odd
 unfold LongF Z4m
 have h5 : f.Core.length * 60 ≤ 12 * 60 := Nat.mul_le_mul_right _ h3
 have h6 : f.Odd.length * 60 ≤ 8 * 60 := Nat.mul_le_mul_right _ h4
 omega
theorem csz_len {f : Form} (hs : Shape f) (h : Bnd f) (i : Int) : (csz f i).length ≤ 60 := by
 unfold csz
 by_cases h0 : f.Count = 0
 ·rw [if_pos h0]; simp
 ·rw [if_neg h0];unfold cs;rw [List.length_map];exact h.sets _ (Z1F hs h0 i).2
theorem Z9f {f : Form} (hs : Shape f) (h : Bnd f) (m : Int) : Bnd (Z0n f m) := by
 refine ⟨?_, ?_, fun l hl => ?_, fun g hg => ?_⟩
 ·show ((List.range f.Core.length).map _).length ≤ 12
  rw [List.length_map, List.length_range]; exact h.core
 ·show (f.Odd.map _).length ≤ 8
  rw [List.length_map]; exact h.odd
 ·obtain ⟨j, _, rfl⟩ := List.mem_map.1 hl
  exact csz_len hs h _
 ·obtain ⟨x, hx, rfl⟩ := List.mem_map.1 hg
  exact h.ticks x hx
theorem canonF_bnd {f c : Form} (h : Bnd f) (hc : Z11 f c) : Bnd (Z0q f c) := by
 have hcore : c.Core.length ≤ 12 ∧ ∀ l ∈ c.Core, l.length ≤ 60 := by
  rcases hc with ⟨_, rfl⟩ | ⟨_, _, d, _, _, rfl⟩
  ·exact ⟨by simp, by simp⟩
  ·refine ⟨Nat.le_trans (List.length_take_le' _ _) h.core, fun l hl => h.sets l (List.mem_of_mem_take hl)⟩
 exact ⟨hcore.1, Nat.le_trans (List.length_filter_le _ _) h.odd, hcore.2, fun g hg => h.ticks g (List.mem_filter.1 hg).1⟩
end Go.Dn

namespace Go.Dn
open Go
theorem Z83 {i : Int} : ZJ i = decide (ZK i) := by
 unfold ZJ ZK
 rw [← Bool.decide_and]
theorem right13_eq {f : Form} (hl : Lim f) : ∃ b, Z1g f = some b ∧ (b = true ↔ SmallF f ∧ RightF f) := by
 unfold Z1g
 obtain ⟨b, hb, hbs⟩ := Z6L hl
 rw [hb]
 simp only [Option.bind_some]
 cases b with
 | false => exact ⟨false, rfl, fun h => (by cases h), fun h => by have := hbs.2 h.1; cases this⟩
 | true =>
  have hsm := hbs.1 rfl
  have hnl : ¬ LongF f := by unfold LongF; have := hsm.1; have := hsm.2.1; have := hsm.2.2; omega
  rw [cond_true]
  rcases Z6f hl with ⟨h, _⟩ | ⟨_, h1, h2⟩ | ⟨_, h1, h2⟩
  ·exact absurd h hnl
  ·rw [h2]; exact ⟨true, rfl, fun _ => ⟨hsm, h1⟩, fun _ => rfl⟩
  ·rw [h2]; exact ⟨false, rfl, fun h => (by cases h), fun h => absurd h.2 h1⟩
theorem shift_core {f : Form} (hl : Lim f) (hs : Shape f) (hb : Bnd f) {m : Int} (hm : ZK m) :
  ZN (ZP.s0 f m) (0, []) = some (.ret (Form.mk 0 0 [] [], 20)) ∨ (ZN (ZP.s0 f m) (0, []) = some (.go (Z0n f m).Core) ∧ ∀ l ∈ (Z0n f m).Core, Len l ∧ Sp64 l) := by
 have hcnt := hs.count
 have hfew := hb.core
 unfold ZK at hm
 obtain ⟨r, q1, q2⟩ := Z1z (step := ZP.s0 f m)
  (fun s => ∃ k : Nat, k ≤ f.Core.length ∧ s = ((k : Int), (List.range k).map fun (j : Nat) => csz f ((j : Int) - m)) ∧ ∀ j : Nat, j < k → Len (csz f ((j : Int) - m)) ∧ Sp64 (csz f ((j : Int) - m)))
  (fun s => f.Core.length - s.1.toNat)
  (fun r => r = .ret (Form.mk 0 0 [] [], 20) ∨ (r = .go (Z0n f m).Core ∧ ∀ l ∈ (Z0n f m).Core, Len l ∧ Sp64 l)) (by
   rintro s ⟨k, hk, rfl, hall⟩;unfold ZP.s0;simp only
   by_cases hlt : k < f.Core.length
   ·rw [Zz (show (k : Int) < f.Count by omega), cond_true, Zm (x := (k : Int) - m) (by omega)]
    rcases raw_eq hl hs (i := (k : Int) - m) (by unfold In64; omega) with ⟨e, t1, t2⟩ | e
    ·left
     rw [e];simp only [Option.bind_some, bne_self_eq_false, cond_false];rw [app?_ok (by
      have := Z5L
      simp only [List.length_append, List.length_map, List.length_range, List.length_singleton];omega)]
     simp only [Option.bind_some];rw [Zm (x := (k : Int) + 1) (by omega)]
     refine ⟨_, rfl, ⟨k + 1, hlt, ?_, fun j hj => ?_⟩, by simp only; omega⟩
     ·rw [List.range_succ, List.map_append]; push_cast; rfl
     ·by_cases hjk : j = k
      ·subst hjk;refine ⟨t2, fun s hs' => ?_⟩
       have := t1 s hs'
       unfold ZK at this;unfold In64;omega
      ·exact hall j (by omega)
    ·right
     rw [e];exact ⟨_, rfl, .inl rfl⟩
   ·right
    obtain rfl : k = f.Core.length := by omega
    rw [Z0D (show ¬ ((f.Core.length : Int) < f.Count) by omega), cond_false]
    refine ⟨_, rfl, .inr ⟨rfl, fun l hl' => ?_⟩⟩
    obtain ⟨j, hj, rfl⟩ := List.mem_map.1 hl'
    exact hall j (List.mem_range.1 hj)) (0, []) ⟨0, Nat.zero_le _, rfl, fun j hj => absurd hj (Nat.not_lt_zero _)⟩
 rcases q2 with rfl | ⟨rfl, h⟩
 ·exact .inl q1
 ·exact .inr ⟨q1, h⟩
theorem shift_odd {f : Form} (hl : Lim f) (hs : Shape f) (hb : Bnd f) {m : Int} (hm : ZK m) :
  ZN (ZP.s1 f m) (0, []) = some (.ret (Form.mk 0 0 [] [], 20)) ∨ (ZN (ZP.s1 f m) (0, []) = some (.go (Z0n f m).Odd) ∧ ∀ g ∈ f.Odd, ZK (g.Index + m)) := by
 have hfew := hb.odd
 unfold ZK at hm
 obtain ⟨r, q1, q2⟩ := Z1z (step := ZP.s1 f m)
  (fun s => ∃ k : Nat, k ≤ f.Odd.length ∧ s = ((k : Int), (f.Odd.take k).map fun g => Granule.mk (g.Index + m) g.Ticks) ∧ ∀ g ∈ f.Odd.take k, ZK (g.Index + m))
  (fun s => f.Odd.length - s.1.toNat)
  (fun r => r = .ret (Form.mk 0 0 [] [], 20) ∨ (r = .go (Z0n f m).Odd ∧ ∀ g ∈ f.Odd, ZK (g.Index + m))) (by
   rintro s ⟨k, hk, rfl, hall⟩;unfold ZP.s1;simp only
   by_cases hlt : k < f.Odd.length
   ·have hmem := List.getElem_mem hlt
    have htk : f.Odd.take (k + 1) = f.Odd.take k ++ [f.Odd[k]] := (List.take_append_getElem hlt).symm
    have hti := (hs.odd _ hmem).2
    unfold ZK at hti;rw [Zz (show (k : Int) < f.Odd.length by omega), cond_true, at?_nat hlt]
    simp only [Option.bind_some];rw [Zm (x := f.Odd[k].Index + m) (by omega), Z83]
    by_cases hr : ZK (f.Odd[k].Index + m)
    ·left
     rw [Zz hr];simp only [Bool.not_true, cond_false];have h60 := hb.ticks _ hmem
     rw [app?_ok (by
      have := Z5L
      simp only [List.length_nil];omega)]
     simp only [Option.bind_some, List.nil_append];rw [app?_ok (by
      have := Z5L
      simp only [List.length_append, List.length_map, List.length_take, List.length_singleton];omega)]
     simp only [Option.bind_some];rw [Zm (x := (k : Int) + 1) (by omega)]
     refine ⟨_, rfl, ⟨k + 1, hlt, ?_, fun g hg => ?_⟩, by simp only; omega⟩
     ·rw [htk, List.map_append]; push_cast; rfl
     ·rw [htk] at hg
      rcases List.mem_append.1 hg with hg | hg
      ·exact hall g hg
      ·rw [List.mem_singleton] at hg; subst hg; exact hr
    ·right
     rw [Z0D hr];exact ⟨_, rfl, .inl rfl⟩
   ·right
    obtain rfl : k = f.Odd.length := by omega
    rw [Z0D (by omega), cond_false]
    rw [List.take_length] at hall ⊢;exact ⟨_, rfl, .inr ⟨rfl, hall⟩⟩) (0, []) ⟨0, Nat.zero_le _, rfl, by simp⟩
 rcases q2 with rfl | ⟨rfl, h⟩
 ·exact .inl q1
 ·exact .inr ⟨q1, h⟩
theorem shift_eq {f : Form} (hl : Lim f) (hs : Shape f) (hb : Bnd f) {m : Int} (hm : ZK m) :
  ZP f m = some (Form.mk 0 0 [] [], 20) ∨ ∃ g, ZP f m = some (g, 0) ∧ Lim (Z0n f m) ∧ RightF (Z0n f m) ∧ Ze (Z0n f m) = some g := by
 unfold ZP
 rw [Z83, Zz hm, Bool.not_true, cond_false]
 rcases shift_core hl hs hb hm with h1 | ⟨h1, c1⟩
 ·rw [h1]; exact .inl rfl
 rw [h1]
 simp only [Option.bind_some, Jx.elim]
 rcases shift_odd hl hs hb hm with h2 | ⟨h2, c2⟩
 ·rw [h2]; exact .inl rfl
 rw [h2]
 simp only [Option.bind_some]
 have e : Form.mk f.Period f.Count (Z0n f m).Core (Z0n f m).Odd = Z0n f m := rfl
 rw [e]
 have lim : Lim (Z0n f m) := by
  have r := Z1G
  have h3 := hb.core
  have h4 := hb.odd
  refine ⟨?_, c1, ?_, fun g hg => ?_, hl.count, hl.period⟩
  ·show ((List.range f.Core.length).map _).length * 24 ≤ reachBytes
   rw [List.length_map, List.length_range]; omega
  ·show (f.Odd.map _).length * 32 ≤ reachBytes
   rw [List.length_map]; omega
  ·obtain ⟨x, hx, rfl⟩ := List.mem_map.1 hg
   exact ⟨Z26 (c2 x hx), (hl.ticks x hx).2⟩
 have short := (Z9f hs hb m).short
 unfold Z1l
 rcases Z6f lim with ⟨h, _⟩ | ⟨_, h3, h4⟩ | ⟨_, h3, h4⟩
 ·exact absurd h short
 ·rw [h4];simp only [Option.bind_some, beq_self_eq_true, cond_true];obtain ⟨c, _, hc⟩ := Z1w lim h3.shape
  right
  rw [hc];exact ⟨_, rfl, lim, h3, rfl⟩
 ·rw [h4];exact .inl rfl
theorem shift_not {f : Form} {m : Int} (hm : ¬ ZK m) : ZP f m = some (Form.mk 0 0 [] [], 2) := by
 unfold ZP
 rw [Z83, Z0D hm]; rfl
theorem Z8K (f : Form) (m at' : Int) (hf : f.ok) (hm : okI .i64 m) (ha : okI .i32 at') : Zk f m at' = some true := by
 have hl := Form.lim hf
 have hm' : -9223372036854775808 ≤ m ∧ m ≤ 9223372036854775807 := hm
 have ha' : -2147483648 ≤ at' ∧ at' ≤ 2147483647 := ha
 unfold Zk
 obtain ⟨b, e1, i1⟩ := right13_eq hl
 rw [e1]
 simp only [Option.bind_some]
 cases b with
 | false => rfl
 | true =>
 obtain ⟨sf, rf⟩ := i1.1 rfl
 have hb := sf.bnd
 have hs := rf.shape
 simp only [Bool.not_true, cond_false]
 by_cases ht : ZK m
 ·have ht' := ht
  unfold ZK at ht'
  rcases shift_eq hl hs hb ht with h | ⟨g, h, lF, rF, hg⟩
  ·rw [h];simp only [Option.bind_some];rw [Z0D (show ¬ m < -1099511627776 by omega), Z0D (show ¬ m > 1099511627776 by omega)]
   rfl
  ·rw [h];simp only [Option.bind_some, bne_self_eq_false, cond_false];obtain ⟨c, hc, hc2⟩ := Z1w lF rF.shape
   rw [hg] at hc2;cases hc2;have lg := Z9d lF rF.shape hc
   have rg := Z7W rF hc
   have sg := rg.shape
   have bg := canonF_bnd (Z9f hs hb m) hc
   have setg : ∀ x, Zd (Z0q (Z0n f m) c) x = Zd f (x - m) := fun x => by rw [Z5K rF.shape hc, Z7e hs]
   have cszg : ∀ x, csz (Z0q (Z0n f m) c) x = csz f (x - m) := fun x => by rw [Z44 rF.shape hc, Z75 hs]
   obtain ⟨g2, fg, _, _, _, fixg, _⟩ := Z8l lF rF
   rw [hg] at fg;cases fg;generalize Z0q (Z0n f m) c = g at *
   have hi : -1073741824 ≤ (w64 at').fdiv (2 ^ 1) ∧ (w64 at').fdiv (2 ^ 1) ≤ 1073741824 := by
    rw [Zm (by omega), Int.fdiv_eq_ediv_of_nonneg _ (by decide)]
    omega
   have hw1 : w64 (m + 1) = m + 1 := Zm (by omega)
   have loop : ZN (Zk.s0 f m at' (g, 0)) 0 = some (.go ()) := by
    obtain ⟨r, q1, q2⟩ := Z1z (step := Zk.s0 f m at' (g, 0)) (fun s => ∃ k : Nat, s = (k : Int) ∧ k ≤ 4) (fun s => 4 - s.toNat) (fun r => r = .go ()) (by
     rintro s ⟨k, rfl, hk⟩;unfold Zk.s0;rw [hw1];generalize (w64 at').fdiv (2 ^ 1) = i0 at *
     have hlen : ([i0, m, m + 1, 0] : List Int).length = 4 := rfl
     by_cases hlt : k < ([i0, m, m + 1, 0] : List Int).length
     ·left
      rw [Zz (show (k : Int) < (([i0, m, m + 1, 0] : List Int).length : Int) by omega), cond_true, at?_nat hlt]
      simp only [Option.bind_some];have hmem := List.getElem_mem hlt
      have hx : -1099511627776 ≤ ([i0, m, m + 1, 0] : List Int)[k] ∧ ([i0, m, m + 1, 0] : List Int)[k] ≤ 1099511627777 := by
       simp only [List.mem_cons, List.not_mem_nil, or_false] at hmem;omega
      generalize ([i0, m, m + 1, 0] : List Int)[k] = x at *
      rw [Zm (x := x - m) (by omega), Z3Z hl hs (i := x - m) (by unfold In64; omega), Z3Z lg sg (i := x) (by unfold In64; omega)]
      have hfit : fits g x ↔ fits f (x - m) := by unfold fits; rw [setg]
      rw [Zm (x := (k : Int) + 1) (by omega)]
      by_cases hA : ZK (x - m) ∧ fits f (x - m)
      ·rw [if_pos hA]
       by_cases hB : ZK x ∧ fits g x
       ·rw [if_pos hB];obtain ⟨r, r1, r2⟩ := Z3U (a := Zd g x) (b := Zd f (x - m)) (Z6B lg sg x)
        have : r = true := r2.2 (setg x)
        subst this;simp only [Option.bind_some, beq_self_eq_true, Bool.and_self, cond_true, r1, Bool.not_true, bne_self_eq_false, Bool.and_false, Bool.false_and, Bool.or_self, cond_false];exact ⟨_, rfl, ⟨k + 1, by push_cast; rfl, by omega⟩, by omega⟩
       ·rw [if_neg hB];have hx' : ¬ ZK x := fun h => hB ⟨h, hfit.2 hA.2⟩
        have hd : (decide (x ≥ (-1099511627776)) && decide (x ≤ 1099511627776)) = false := by
         unfold ZK at hx';apply Bool.eq_false_iff.2;intro h;simp only [Bool.and_eq_true, decide_eq_true_eq] at h;omega
        simp only [Option.bind_some, show ((20 : Int) == 0) = false from rfl, Bool.and_false, cond_false, Bool.false_or, Bool.and_assoc, hd]
        exact ⟨_, rfl, ⟨k + 1, by push_cast; rfl, by omega⟩, by omega⟩
      ·rw [if_neg hA];simp only [Option.bind_some, show ((20 : Int) == 0) = false from rfl, Bool.false_and, cond_false, Bool.or_self]
       exact ⟨_, rfl, ⟨k + 1, by push_cast; rfl, by omega⟩, by omega⟩
     ·right
      rw [Z0D (show ¬ (k : Int) < (([i0, m, m + 1, 0] : List Int).length : Int) by omega), cond_false]
      exact ⟨_, rfl, rfl⟩) 0 ⟨0, rfl, by omega⟩
    rw [q1, q2]
   rw [loop];simp only [Option.bind_some, Jx.elim];have his : Z4y g = some true := by
    unfold Z4y;rw [fixg];obtain ⟨r, r1, r2⟩ := Z9Z (a := g) (b := g) lg
    have : r = true := r2.2 rfl
    subst this;simp only [Option.bind_some, r1]
   rw [his];have hw2 : w64 (0 - m) = -m := by rw [Zm (by omega), Int.zero_sub]
   rw [hw2]
   rcases shift_eq lg sg bg (m := -m) (by unfold ZK; omega) with h2 | ⟨b, h2, lB, rB, hB⟩
   ·rw [h2]; rfl
   ·rw [h2];simp only [Option.bind_some, bne_self_eq_false, cond_false, cond_true];have same : Ze (Z0n g (-m)) = Ze f := canon_same hl lB hs rB.shape
     (by funext i; rw [Z75 sg, cszg, show i - -m - m = i by omega])
     (by funext i; rw [Z7e sg, setg, show i - -m - m = i by omega])
    obtain ⟨g0, f0, l0, _⟩ := Z8l hl rf
    rw [f0, hB] at same;have hbg : g0 = b := (Option.some.inj same).symm
    rw [f0];simp only [Option.bind_some];obtain ⟨r, r1, r2⟩ := alikeForms_eq (a := b) (b := g0) (hbg ▸ l0)
    have : r = true := r2.2 hbg.symm
    subst this;rw [r1]
    rfl
 ·rw [shift_not ht];have : (decide (m < (-1099511627776)) || decide (m > 1099511627776)) = true := by
   unfold ZK at ht;simp only [Bool.or_eq_true, decide_eq_true_eq];omega
  simp only [Option.bind_some];rw [this]
  rfl
end Go.Dn
