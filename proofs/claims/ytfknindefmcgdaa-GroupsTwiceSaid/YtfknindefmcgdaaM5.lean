/- Part 5 of what the row stands on. -/
import Derived.Test.YtfknindefmcgdaaM4
set_option linter.unusedVariables false
set_option linter.unusedSimpArgs false
namespace Go.Dn
open Go
structure BndB (f : Form) (B : Nat) : Prop where
 core : f.Core.length ≤ 12
 odd : f.Odd.length ≤ 8
 sets : ∀ l ∈ f.Core, l.length ≤ B
 ticks : ∀ g ∈ f.Odd, g.Ticks.length ≤ B
theorem Bnd.b {f : Form} (h : Bnd f) : BndB f 720 := ⟨h.core, h.odd, h.sets, h.ticks⟩
theorem BndB.small {f : Form} {B : Nat} (h : BndB f B) (hB : B ≤ 720) : Bnd f := ⟨h.core, h.odd, fun l hl => Nat.le_trans (h.sets l hl) hB, fun g hg => Nat.le_trans (h.ticks g hg) hB⟩
theorem Z8e.b60 {f : Form} (h : Z8e f) : BndB f 60 := by
 obtain ⟨h1, h2, h3⟩ := h
 unfold Z6M at h3
 refine ⟨h1, h2, fun l hl => ?_, fun g hg => ?_⟩
 ·have := le_sum List.length hl; omega
 ·have := le_sum (fun g : Granule => g.Ticks.length) hg; omega
theorem csz_lenB {f : Form} {B : Nat} (hs : Shape f) (h : BndB f B) (i : Int) : (csz f i).length ≤ B := by
 unfold csz
 by_cases h0 : f.Count = 0
 ·rw [if_pos h0]; simp
 ·rw [if_neg h0];unfold cs;rw [List.length_map];exact h.sets _ (Z0r hs h0 i).2
theorem setAt_lenB {f : Form} {B : Nat} (hs : Shape f) (h : BndB f B) (i : Int) : (ZZ f i).length ≤ B := by
 by_cases ho : Z1i f i
 ·obtain ⟨x, hx, rfl⟩ := ho
  rw [Z0M hs.inc hx]; exact h.ticks x hx
 ·rw [Z26 ho]; exact csz_lenB hs h i
theorem canonF_bndB {f c : Form} {B : Nat} (h : BndB f B) (hc : Z1Y f c) : BndB (Z3G f c) B := by
 have hcore : c.Core.length ≤ 12 ∧ ∀ l ∈ c.Core, l.length ≤ B := by
  rcases hc with ⟨_, rfl⟩ | ⟨_, _, d, _, _, rfl⟩
  ·exact ⟨by simp, by simp⟩
  ·refine ⟨Nat.le_trans (List.length_take_le' _ _) h.core, fun l hl => h.sets l (List.mem_of_mem_take hl)⟩
 exact ⟨hcore.1, Nat.le_trans (List.length_filter_le _ _) h.odd, hcore.2, fun g hg => h.ticks g (List.mem_filter.1 hg).1⟩
theorem rounds_eq {f : Form} (hs : Shape f) (h12 : f.Core.length ≤ 12) (h0 : 0 < f.Count) {m : Nat} (m1 : 1 ≤ m) (m2 : m ≤ 6000) : ∃ u v : Nat, Z0g f m = some ((v : Int), f.Count * u) ∧ f.Count * (u : Int) = v * m ∧ 1 ≤ u ∧ u ≤ m ∧ 1 ≤ v ∧ v ≤ 12 := by
 have hcnt := hs.count
 unfold Z0g
 rw [Z41 (show ¬ f.Count = 0 by omega), cond_false, safe_Lcm_eq (by unfold In64; omega) (by unfold In64; omega)]
 simp only [Option.bind_some]
 obtain ⟨c, hc⟩ : ∃ c : Nat, f.Count = c := ⟨f.Core.length, hcnt⟩
 rw [hc] at h0 ⊢
 have hcl : c ≤ 12 := by omega
 unfold lcmS
 rw [if_neg (by omega)]
 simp only [Int.natAbs_natCast]
 have g0 : 0 < Nat.gcd c m := Nat.gcd_pos_of_pos_left _ (by omega)
 obtain ⟨v, hv⟩ := Nat.gcd_dvd_left c m
 obtain ⟨u, hu⟩ := Nat.gcd_dvd_right c m
 generalize Nat.gcd c m = g at *
 have e1 : c / g = v := by rw [hv]; exact Nat.mul_div_cancel_left v g0
 rw [e1]
 have v1 : 1 ≤ v := by
  rcases Nat.eq_zero_or_pos v with h | h
  ·rw [h] at hv; omega
  ·exact h
 have u1 : 1 ≤ u := by
  rcases Nat.eq_zero_or_pos u with h | h
  ·rw [h] at hu; omega
  ·exact h
 have vle : v ≤ c := by rw [hv]; exact Nat.le_mul_of_pos_left v g0
 have ule : u ≤ m := by rw [hu]; exact Nat.le_mul_of_pos_left u g0
 have e2 : v * m = c * u := by rw [hu, hv]; exact (by rw [Nat.mul_comm v, Nat.mul_assoc, Nat.mul_comm u, ← Nat.mul_assoc])
 have hb : v * m ≤ 12 * 6000 := Nat.mul_le_mul (by omega) m2
 have e3 : ((v : Int) * (m : Int)) = ((v * m : Nat) : Int) := by push_cast; rfl
 rw [e3, Z7b (by unfold In64; omega)]
 simp only
 rw [nz?_ok (show (m : Int) ≠ 0 by omega)]
 simp only [Option.bind_some]
 have e4 : ((v * m : Nat) : Int).tdiv (m : Int) = (v : Int) := by
  push_cast
  exact Int.mul_tdiv_cancel _ (by omega)
 rw [e4, ZY (by omega)]
 refine ⟨u, v, ?_, ?_, u1, ule, v1, by omega⟩
 ·rw [e2]; push_cast; rfl
 ·have := congrArg (fun n : Nat => (n : Int)) e2
  push_cast at this
  exact this.symm
theorem sum_loop {f : Form} {B : Nat} (h12 : f.Core.length ≤ 12) (hB : B ≤ 8640) (hs : ∀ l ∈ f.Core, l.length ≤ B) : ∃ z, ZM (Zd.s0 f) (0, 0) = some z ∧ 0 ≤ z ∧ z ≤ 12 * B := by
 obtain ⟨r, q1, q2⟩ := Z1F (step := Zd.s0 f) (fun s => ∃ (k z : Nat), k ≤ f.Core.length ∧ s = ((z : Int), (k : Int)) ∧ z ≤ k * B) (fun s => f.Core.length - s.2.toNat) (fun r => 0 ≤ r ∧ r ≤ 12 * B) (by
  rintro s ⟨k, z, hk, rfl, hz⟩;unfold Zd.s0;simp only
  by_cases hlt : k < f.Core.length
  ·left
   rw [Zq (show (k : Int) < f.Core.length by omega), cond_true, at?_nat hlt]
   simp only [Option.bind_some];have hk12 : k * B ≤ 12 * B := Nat.mul_le_mul_right _ (by omega)
   have hlen := hs _ (List.getElem_mem hlt)
   rw [ZY (x := (k : Int) + 1) (by omega), ZY (x := (z : Int) + (f.Core[k].length : Int)) (by omega)]
   exact ⟨_, rfl, ⟨k + 1, z + f.Core[k].length, hlt, by push_cast; rfl, by rw [Nat.add_mul]; omega⟩, by simp only; omega⟩
  ·right
   have hk12 : k * B ≤ 12 * B := Nat.mul_le_mul_right _ (by omega)
   rw [Zv (by omega), cond_false]
   exact ⟨_, rfl, by omega, by omega⟩) (0, 0) ⟨0, 0, Nat.zero_le _, rfl, by simp⟩
 exact ⟨r, q1, q2⟩
noncomputable def Z35 (f : Form) (m v : Nat) : List (List Span) := (List.range v).map fun (i : Nat) => gl (csz f) ((i : Int) * m) m
theorem raw_tell {f : Form} {B : Nat} (hl : Lim f) (hs : Shape f) (hb : BndB f B) {i : Int} (hi : In64 i) : (Z0D i f = some (csz f i, 0) ∧ (csz f i).length ≤ B ∧ Z1z (csz f i)) ∨ Z0D i f = some ([], 20) := by
 unfold Z0D
 rcases raw_eq hl hs hi with ⟨e, t, _⟩ | e
 ·rw [e]; exact .inl ⟨rfl, csz_lenB hs hb i, t⟩
 ·rw [e]; exact .inr rfl
theorem get_tell {f : Form} {B : Nat} (hl : Lim f) (hs : Shape f) (hb : BndB f B) {i : Int} (hi : In64 i) : (Z0K i f = some (ZZ f i, 0) ∧ (ZZ f i).length ≤ B ∧ Z1z (ZZ f i)) ∨ Z0K i f = some ([], 20) := by
 unfold Z0K
 rw [Z3l hl hs hi]
 by_cases h : ZJ i ∧ fits f i
 ·rw [if_pos h]; exact .inl ⟨rfl, setAt_lenB hs hb i, h.2⟩
 ·rw [if_neg h]; exact .inr rfl
theorem Z9f {f : Form} {B : Nat} (hl : Lim f) (hs : Shape f) (hb : BndB f B) {m u v : Nat} {p : Int} (m1 : 1 ≤ m) (m2 : m ≤ 144) (hB : B ≤ 8640) (hv : v ≤ 12) (hp : (Z9 f.Period (w64 ((f.Count * (u : Int)).tdiv f.Count))).1 = p) :
  (ZM (Zd.s1 f m ((v : Int), f.Count * u)) (0, []) = some (.go (Z35 f m v, p)) ∧ ∀ l ∈ Z35 f m v, l.length ≤ m * B ∧ Z1z l) ∨ (ZM (Zd.s1 f m ((v : Int), f.Count * u)) (0, []) = some (.ret 20) ∧ ∃ i j : Nat, i < v ∧ j < m ∧ Z0D ((i : Int) * m + j) f = some ([], 20)) := by
 have hmB : m * B ≤ 144 * 8640 := Nat.mul_le_mul m2 hB
 obtain ⟨r, q1, q2⟩ := Z1F (step := Zd.s1 f m ((v : Int), f.Count * u))
  (fun s => ∃ k : Nat, k ≤ v ∧ s = ((k : Int), Z35 f m k) ∧ ∀ l ∈ Z35 f m k, l.length ≤ m * B ∧ Z1z l)
  (fun s => v - s.1.toNat)
  (fun r => (r = .go (Z35 f m v, p) ∧ ∀ l ∈ Z35 f m v, l.length ≤ m * B ∧ Z1z l) ∨ (r = .ret 20 ∧ ∃ i j : Nat, i < v ∧ j < m ∧ Z0D ((i : Int) * m + j) f = some ([], 20))) (by
   rintro s ⟨k, hk, rfl, hall⟩;unfold Zd.s1;simp only
   by_cases hlt : k < v
   ·have hkm : (k : Int) * m ≤ 12 * 144 := by
     have : k * m ≤ 12 * 144 := Nat.mul_le_mul (by omega) m2
     have e : (k : Int) * m = ((k * m : Nat) : Int) := by push_cast; rfl
     rw [e]; omega
    have hkm0 : 0 ≤ (k : Int) * m := Int.mul_nonneg (by omega) (by omega)
    rw [Zq (show (k : Int) < v by omega), cond_true, ZY (x := (k : Int) * m) (by omega)]
    rcases Z96 (tell := fun z0 => Z0D z0 f) (h := csz f) (a := (k : Int) * m) (m := m) (B := B) (by omega) (by omega) (by omega) (by omega) (fun j hj => raw_tell hl hs hb (by unfold In64; omega)) with ⟨g1, g2⟩ | ⟨g1, j, g2, g3⟩
    ·left
     rw [g1];simp only [Option.bind_some, bne_self_eq_false, cond_false];have hlen : (Z35 f m k).length = k := by unfold Z35; rw [List.length_map, List.length_range]
     rw [app?_ok (by
      have := Z3h
      simp only [List.length_singleton];omega)]
     simp only [Option.bind_some];rw [ZY (x := (k : Int) + 1) (by omega)]
     have e : Z35 f m k ++ [gl (csz f) ((k : Int) * m) m] = Z35 f m (k + 1) := by unfold Z35; rw [List.range_succ, List.map_append]; rfl
     refine ⟨_, rfl, ⟨k + 1, hlt, by rw [e]; push_cast; rfl, fun l hl' => ?_⟩, by simp only; omega⟩
     rw [← e] at hl'
     rcases List.mem_append.1 hl' with h | h
     ·exact hall l h
     ·rw [List.mem_singleton] at h;subst h;exact Z7h (B := B) (n := m) fun j hj => ⟨(g2 j hj).1, (g2 j hj).2.1⟩
    ·right
     rw [g1];exact ⟨_, rfl, .inr ⟨rfl, k, j, hlt, g2, g3⟩⟩
   ·right
    obtain rfl : k = v := by omega
    rw [Zv (by omega), cond_false, hp]
    exact ⟨_, rfl, .inl ⟨rfl, hall⟩⟩) (0, []) ⟨0, Nat.zero_le _, rfl, by simp [Z35]⟩
 rcases q2 with ⟨rfl, h⟩ | ⟨rfl, h⟩
 ·exact .inl ⟨q1, h⟩
 ·exact .inr ⟨q1, h⟩
structure PlainG (f : Form) (m B : Nat) (g : Form) : Prop where
 odd : g.Odd = []
 zero : f.Count = 0 → g = Form.mk 0 0 [] []
 some : 0 < f.Count → ∃ u v : Nat, f.Count * (u : Int) = v * m ∧ 1 ≤ u ∧ u ≤ m ∧ 1 ≤ v ∧ v ≤ 12 ∧ g = Form.mk (f.Period * u) v (Z35 f m v) []
 sets : ∀ l ∈ g.Core, l.length ≤ m * B ∧ Z1z l
 few : g.Core.length ≤ 12
theorem plain_eq {f : Form} {B : Nat} (hl : Lim f) (hs : Shape f) (hb : BndB f B) {m : Nat} (m1 : 1 ≤ m) (m2 : m ≤ 144) (hB : B ≤ 8640) :
  ∃ g e, Zd f m = some (g, e) ∧ (e = 0 → PlainG f m B g) := by
 unfold Zd
 have hcnt := hs.count
 have hper := hs.per
 have hcore := hb.core
 by_cases h0 : f.Count = 0
 ·have : Z0g f m = some (0, 0) := by unfold Z0g; rw [beq_t h0]; rfl
  rw [this];refine ⟨_, _, rfl, fun _ => ⟨rfl, fun _ => rfl, fun h => by omega, by simp, by simp⟩⟩
 ·obtain ⟨u, v, r1, r2, u1, u2, v1, v2⟩ := rounds_eq hs hcore (by omega) m1 (by omega)
  rw [r1];simp only [Option.bind_some];rw [Z41 (show ¬ (v : Int) = 0 by omega), cond_false]
  obtain ⟨z, hz, _⟩ := sum_loop (B := B) hcore hB hb.sets
  rw [hz];simp only [Option.bind_some];rw [nz?_ok h0];simp only [Option.bind_some];have ediv : (f.Count * (u : Int)).tdiv f.Count = u := Int.mul_tdiv_cancel_left _ h0
  by_cases hbig : w64 (z * w64 ((f.Count * (u : Int)).tdiv f.Count)) > 60000
  ·rw [Zq hbig];exact ⟨_, _, rfl, fun h => by cases h⟩
  ·rw [Zv hbig];simp only [cond_false];have hmul : Z9 f.Period (w64 ((f.Count * (u : Int)).tdiv f.Count)) = (f.Period * u, 0) := by
    rw [ediv, ZY (x := (u : Int)) (by omega), Z3s (by unfold In64; omega) (by unfold In64; omega)]
    apply Z7b;have h1 : 0 ≤ f.Period * (u : Int) := Int.mul_nonneg hper.1 (by omega)
    have h2 : f.Period * (u : Int) ≤ 1099511627776 * u := Int.mul_le_mul_of_nonneg_right hper.2 (by omega)
    unfold In64;omega
   rw [hmul];simp only [bne_self_eq_false, Bool.false_or]
   by_cases hp : f.Period * (u : Int) > 1099511627776
   ·rw [Zq hp];exact ⟨_, _, rfl, fun h => by cases h⟩
   ·rw [Zv hp];simp only [cond_false]
    rcases Z9f hl hs hb (m := m) (u := u) (v := v) (p := f.Period * u) m1 m2 hB v2 (by rw [hmul]) with ⟨c1, c2⟩ | ⟨c1, _⟩
    ·rw [c1];refine ⟨_, _, rfl, fun _ => ⟨rfl, fun h => absurd h h0, fun _ => ⟨u, v, r2, u1, u2, v1, v2, rfl⟩, c2, ?_⟩⟩
     show (Z35 f m v).length ≤ 12
     unfold Z35;rw [List.length_map, List.length_range]; exact v2
    ·rw [c1];exact ⟨_, _, rfl, fun h => by cases h⟩
end Go.Dn

namespace Go.Dn
open Go
structure OddsG (f : Form) (m B k : Nat) (O : List Granule) : Prop where
 of : ∀ g ∈ O, ∃ x ∈ f.Odd.take k, g.Index = x.Index / m
 all : ∀ x ∈ f.Odd.take k, ∃ g ∈ O, g.Index = x.Index / m
 tick : ∀ g ∈ O, g.Ticks = gl (ZZ f) (g.Index * m) m ∧ g.Ticks.length ≤ m * B ∧ Z1z g.Ticks
 inc : O.Pairwise (fun a b => a.Index < b.Index)
 len : O.length ≤ k
theorem last_at {α : Type} {a : List α} {x : α} (h : a.length ≤ 1000) : at? (a ++ [x]) (w64 (((a ++ [x]).length : Int) - 1)) = some x := by
 have h := at?_nat (l := a ++ [x]) (k := a.length) (by simp)
 have e : (((a ++ [x]).length : Int) - 1) = (a.length : Int) := by simp
 rw [e, ZY (by omega), h]
 simp
theorem odds_loop {f : Form} {B : Nat} (hl : Lim f) (hs : Shape f) (hb : BndB f B) {m : Nat} (m1 : 1 ≤ m) (m2 : m ≤ 144) (hB : B ≤ 8640) :
  (∃ O, ZM (ZU.s0 f m) (0, []) = some (.go O) ∧ OddsG f m B f.Odd.length O) ∨
  (ZM (ZU.s0 f m) (0, []) = some (.ret (Form.mk 0 0 [] [], 20)) ∧ ∃ x ∈ f.Odd, ∃ j : Nat, j < m ∧ Z0K (x.Index / m * m + j) f = some ([], 20)) := by
 have hmB : m * B ≤ 144 * 8640 := Nat.mul_le_mul m2 hB
 have hodd := hb.odd
 have hm0 : (0 : Int) < m := by omega
 obtain ⟨r, q1, q2⟩ := Z1F (step := ZU.s0 f m)
  (fun s => ∃ (k : Nat) (O : List Granule), k ≤ f.Odd.length ∧ s = ((k : Int), O) ∧ OddsG f m B k O)
  (fun s => f.Odd.length - s.1.toNat)
  (fun r => (∃ O, r = .go O ∧ OddsG f m B f.Odd.length O) ∨ (r = .ret (Form.mk 0 0 [] [], 20) ∧ ∃ x ∈ f.Odd, ∃ j : Nat, j < m ∧ Z0K (x.Index / m * m + j) f = some ([], 20))) (by
   rintro s ⟨k, O, hk, rfl, hO⟩;unfold ZU.s0;simp only
   by_cases hlt : k < f.Odd.length
   ·have hmem := List.getElem_mem hlt
    have htk : f.Odd.take (k + 1) = f.Odd.take k ++ [f.Odd[k]] := (List.take_append_getElem hlt).symm
    have hti := (hs.odd _ hmem).2
    have hbefore : ∀ y ∈ f.Odd.take k, y.Index < f.Odd[k].Index := fun y hy => by
     obtain ⟨j, hj, rfl⟩ := List.getElem_of_mem hy
     rw [List.getElem_take];rw [List.length_take] at hj;exact hs.inc j k _ _ (by omega) (List.getElem?_eq_getElem (by omega)) (List.getElem?_eq_getElem hlt)
    unfold ZJ at hti;rw [Zq (show (k : Int) < f.Odd.length by omega), cond_true, at?_nat hlt]
    simp only [Option.bind_some];generalize f.Odd[k] = x at *
    rw [Z2r (by unfold In64; omega) (by unfold In64; omega), Z4K hm0]
    simp only [Option.bind_some];have q1 := Int.emod_add_mul_ediv x.Index m
    have q2 := Int.emod_nonneg x.Index (show (m : Int) ≠ 0 by omega)
    have q3 := Int.emod_lt_of_pos x.Index hm0
    have hcond : ∃ b : Bool, (bif (decide ((O.length : Int) > 0)) then (at? O (w64 ((O.length : Int) - 1))).bind fun x4 => some (x4.Index == x.Index / m) else some false) = some b ∧
      (b = true → ∃ g ∈ O, g.Index = x.Index / m) ∧ (b = false → ∀ g ∈ O, g.Index < x.Index / m) := by
     by_cases hn : O = []
     ·subst hn;exact ⟨false, rfl, fun h => (by cases h), fun _ g hg => by cases hg⟩
     ·have hb1 : O = O.dropLast ++ [O.getLast hn] := (List.dropLast_concat_getLast hn).symm
      have hlen := hO.len
      have hp := hO.inc
      have hle : ∀ g ∈ O, g.Index ≤ x.Index / m := fun g hg => by
       obtain ⟨y, hy, e⟩ := hO.of g hg
       rw [e];exact Int.ediv_le_ediv hm0 (Int.le_of_lt (hbefore y hy))
      generalize O.dropLast = a at *
      generalize O.getLast hn = z at *
      subst hb1;have ha : a.length ≤ 1000 := by rw [List.length_append] at hlen; omega
      rw [Zq (show (((a ++ [z]).length : Nat) : Int) > 0 by simp), cond_true, last_at ha]
      simp only [Option.bind_some];refine ⟨_, rfl, fun h => ⟨z, by simp, by simpa using h⟩, fun h g hg => ?_⟩
      have hz : z.Index ≠ x.Index / m := by simpa using h
      have hz2 := hle z (by simp)
      rw [List.pairwise_append] at hp
      rcases List.mem_append.1 hg with h1 | h1
      ·have := hp.2.2 g h1 z (by simp); omega
      ·rw [List.mem_singleton] at h1; subst h1; omega
    obtain ⟨b, b1, b2, b3⟩ := hcond
    rw [b1];simp only [Option.bind_some];cases b with
    | true =>
     left
     obtain ⟨g, g1, g2⟩ := b2 rfl
     simp only [cond_true, Option.bind_some, Jx.elim];rw [ZY (x := (k : Int) + 1) (by omega)]
     refine ⟨_, rfl, ⟨k + 1, O, hlt, by push_cast; rfl, ?_, ?_, hO.tick, hO.inc, by have := hO.len; omega⟩, by simp only; omega⟩
     ·intro y hy;obtain ⟨w, w1, w2⟩ := hO.of y hy
      exact ⟨w, by rw [htk]; exact List.mem_append_left _ w1, w2⟩
     ·intro y hy;rw [htk] at hy
      rcases List.mem_append.1 hy with h | h
      ·exact hO.all y h
      ·rw [List.mem_singleton] at h; subst h; exact ⟨g, g1, g2⟩
    | false =>
     have b4 := b3 rfl
     simp only [cond_false];have hqm : x.Index / m * m = x.Index - x.Index % m := by rw [Int.mul_comm]; omega
     rw [ZY (x := x.Index / m * m) (by omega)]
     rcases Z96 (tell := fun z0 => Z0K z0 f) (h := ZZ f) (a := x.Index / m * m) (m := m) (B := B) (by omega) (by omega) (by omega) (by omega) (fun j hj => get_tell hl hs hb (by unfold In64; omega)) with ⟨g1, g2⟩ | ⟨g1, j, g2, g3⟩
     ·left
      rw [g1];simp only [Option.bind_some, bne_self_eq_false, cond_false];have hlen := hO.len
      rw [app?_ok (by
       have := Z3h
       simp only [List.length_singleton];omega)]
      simp only [Option.bind_some, Jx.elim];rw [ZY (x := (k : Int) + 1) (by omega)]
      obtain ⟨f1, f2⟩ := Z7h (h := ZZ f) (a := x.Index / m * m) (B := B) (n := m) fun j hj => ⟨(g2 j hj).1, (g2 j hj).2.1⟩
      refine ⟨_, rfl, ⟨k + 1, _, hlt, by push_cast; rfl, ?_, ?_, ?_, ?_, by rw [List.length_append, List.length_singleton]; omega⟩, by simp only; omega⟩
      ·intro y hy
       rcases List.mem_append.1 hy with h | h
       ·obtain ⟨w, w1, w2⟩ := hO.of y h
        exact ⟨w, by rw [htk]; exact List.mem_append_left _ w1, w2⟩
       ·rw [List.mem_singleton] at h; subst h;exact ⟨x, by rw [htk]; exact List.mem_append_right _ (List.mem_singleton.2 rfl), rfl⟩
      ·intro y hy;rw [htk] at hy
       rcases List.mem_append.1 hy with h | h
       ·obtain ⟨g, g3, g4⟩ := hO.all y h
        exact ⟨g, List.mem_append_left _ g3, g4⟩
       ·rw [List.mem_singleton] at h; subst h;exact ⟨_, List.mem_append_right _ (List.mem_singleton.2 rfl), rfl⟩
      ·intro y hy
       rcases List.mem_append.1 hy with h | h
       ·exact hO.tick y h
       ·rw [List.mem_singleton] at h; subst h;exact ⟨rfl, f1, f2⟩
      ·rw [List.pairwise_append];refine ⟨hO.inc, by simp, fun a ha c hc => ?_⟩
       rw [List.mem_singleton] at hc; subst hc;exact b4 a ha
     ·right
      rw [g1];exact ⟨_, rfl, .inr ⟨rfl, x, hmem, j, g2, g3⟩⟩
   ·right
    obtain rfl : k = f.Odd.length := by omega
    rw [Zv (by omega), cond_false]
    exact ⟨_, rfl, .inl ⟨O, rfl, hO⟩⟩) (0, []) ⟨0, [], Nat.zero_le _, rfl, by simp, by simp, by simp, by simp, by simp⟩
 rcases q2 with ⟨O, rfl, h⟩ | ⟨rfl, h⟩
 ·exact .inl ⟨O, q1, h⟩
 ·exact .inr ⟨q1, h⟩
end Go.Dn

namespace Go.Dn
open Go
structure GroupG (f : Form) (m B : Nat) (F : Form) : Prop where
 csz : ∀ i, csz F i = gl (csz f) (i * m) m
 set : ∀ i, ZZ F i = gl (ZZ f) (i * m) m
 bnd : BndB F (m * B)
theorem quot_tick {n p : Int} (hp : 0 < p) (hn : ZJ n) : ZJ (n / p) := by
 unfold ZJ at *
 constructor
 ·exact Int.le_ediv_of_mul_le hp (by
   have : (1099511627776 : Int) * 1 ≤ 1099511627776 * p := Int.mul_le_mul_of_nonneg_left (by omega) (by decide)
   omega)
 ·exact Int.ediv_le_of_le_mul hp (by
   have : (1099511627776 : Int) * 1 ≤ 1099511627776 * p := Int.mul_le_mul_of_nonneg_left (by omega) (by decide)
   omega)
theorem gl_none {h : Int → List Span} (hn : ∀ i, h i = []) (a : Int) : ∀ n : Nat, gl h a n = []
 | 0 => rfl
 | n + 1 => by
  show glue (gl h a n) (h (a + n)) = []
  rw [gl_none hn a n, hn, Z2k]
theorem groupG_of {f g : Form} {m B : Nat} {O : List Granule} (hs : Shape f) (m1 : 1 ≤ m) (hP : PlainG f m B g) (hO : OddsG f m B f.Odd.length O) (hF : Shape (Form.mk g.Period g.Count g.Core O)) (h8 : f.Odd.length ≤ 8) :
  GroupG f m B (Form.mk g.Period g.Count g.Core O) := by
 have hm0 : (0 : Int) < m := by omega
 have hcnt := hs.count
 have hz : ∀ i, Go.Dn.csz (Form.mk g.Period g.Count g.Core O) i = gl (Go.Dn.csz f) (i * m) m := fun i => by
  by_cases h0 : f.Count = 0
  ·have e := hP.zero h0
   subst e;have hn : ∀ j, Go.Dn.csz f j = [] := fun j => if_pos h0
   rw [gl_none hn];exact if_pos rfl
  ·obtain ⟨u, v, r2, u1, u2, v1, v2, e⟩ := hP.some (by omega)
   subst e;have hv0 : (v : Int) ≠ 0 := by omega
   rw [Z2f (show (0 : Int) < v by omega)]
   show (Z0f _ i).map (Zh (i / (v : Int) * (f.Period * u))) = _
   have i0 := Int.emod_nonneg i hv0
   have i1 := Int.emod_lt_of_pos i (show (0 : Int) < v by omega)
   have e1 : Z0f (Form.mk (f.Period * (u : Int)) (v : Int) (Z35 f m v) O) i = gl (Go.Dn.csz f) (i % v * m) m := by
    show (Z35 f m v).getD (i % (v : Int)).toNat [] = _
    unfold Z35;rw [List.getD_eq_getElem?_getD, List.getElem?_map, List.getElem?_range (by omega)]
    simp only [Option.map_some, Option.getD_some];rw [Int.toNat_of_nonneg i0]
   have e2 : i * m = i % v * m + f.Count * (u * (i / v)) := by
    have h1 := Int.emod_add_mul_ediv i v
    have h2 : f.Count * (u * (i / v)) = v * m * (i / v) := by rw [← Int.mul_assoc, r2]
    rw [h2]
    conv => lhs; rw [← h1]
    rw [Int.add_mul, Int.mul_assoc, Int.mul_assoc, Int.mul_comm (i / v) (m : Int)]
   rw [e1, e2];have sh : ∀ j, Go.Dn.csz f (j + f.Count * (u * (i / v))) = (Go.Dn.csz f j).map (Zh (u * (i / v) * f.Period)) := fun j => by
    rw [Z2f (by omega)]
    exact Z5Q h0 j _
   rw [gl_shift sh]
   congr 2
   rw [Int.mul_comm f.Period, ← Int.mul_assoc, Int.mul_comm (i / (v : Int)) (u : Int)]
 refine ⟨hz, fun i => ?_, ⟨hP.few, Nat.le_trans hO.len h8, fun l hl => (hP.sets l hl).1, fun x hx => (hO.tick x hx).2.1⟩⟩
 by_cases ho : Z1i (Form.mk g.Period g.Count g.Core O) i
 ·obtain ⟨x, hx, rfl⟩ := ho
  rw [Z0M hF.inc hx, (hO.tick x hx).1]
 ·rw [Z26 ho, hz];refine gl_congr fun j hj => ?_
  refine (Z26 fun hx => ho ?_).symm
  obtain ⟨x, hx, e⟩ := hx
  obtain ⟨y, hy, e2⟩ := hO.all x (by rw [List.take_length]; exact hx)
  refine ⟨y, hy, ?_⟩;rw [e2, e, Int.add_comm, Int.add_mul_ediv_right _ _ (by omega), Int.ediv_eq_zero_of_lt (by omega) (by omega), Int.zero_add]
theorem Z8B {f : Form} {B : Nat} (hl : Lim f) (hs : Shape f) (hb : BndB f B) {m : Nat} (m1 : 1 ≤ m) (m2 : m ≤ 144) (hB : B ≤ 8640) :
  ∃ g e, ZU f m = some (g, e) ∧ (e = 0 → ∃ F, GroupG f m B F ∧ Lim F ∧ RightF F ∧ ZV F = some g) := by
 have hmB : m * B ≤ 144 * 8640 := Nat.mul_le_mul m2 hB
 unfold ZU
 rw [Zv (show ¬ (m : Int) < 1 by omega), Zv (show ¬ (m : Int) > 6000 by omega)]
 simp only [Bool.or_self, cond_false]
 obtain ⟨p, e, p1, p2⟩ := plain_eq hl hs hb m1 m2 hB
 rw [p1]
 simp only [Option.bind_some]
 by_cases he : e = 0
 ·have hP := p2 he
  subst he;simp only [bne_self_eq_false, cond_false]
  rcases odds_loop hl hs hb m1 m2 hB with ⟨O, o1, hO⟩ | ⟨o1, _⟩
  ·rw [o1];simp only [Option.bind_some, Jx.elim];generalize hFF : Form.mk p.Period p.Count p.Core O = F;have lim : Lim F := by
    rw [← hFF];have r := Z11
    have l8 := hO.len
    have h8 := hb.odd
    have h12 := hP.few
    have hper := hs.per
    have s64 : ∀ {l : List Span}, Z1z l → Sp64 l := fun {l} h s hs' => ⟨Z1g (h s hs').1, Z1g (h s hs').2⟩
    refine ⟨?_, fun l hl' => ⟨?_, s64 (hP.sets l hl').2⟩, ?_, fun g hg => ⟨?_, ?_, s64 (hO.tick g hg).2.2⟩, ?_, ?_⟩
    ·show p.Core.length * 24 ≤ reachBytes
     omega
    ·have := (hP.sets l hl').1
     unfold Len;omega
    ·show O.length * 32 ≤ reachBytes
     omega
    ·obtain ⟨x, hx, e⟩ := hO.of g hg
     have hx' := (hs.odd x (List.mem_of_mem_take hx)).2
     have h1 := Int.emod_add_mul_ediv x.Index m
     have h2 := Int.emod_nonneg x.Index (show (m : Int) ≠ 0 by omega)
     have h3 := Int.emod_lt_of_pos x.Index (show (0 : Int) < m by omega)
     have h4 := quot_tick (n := x.Index) (p := (m : Int)) (by omega) hx'
     rw [e];exact Z1g h4
    ·have := (hO.tick g hg).2.1
     unfold Len;omega
    ·show In64 p.Count
     by_cases h0 : f.Count = 0
     ·rw [hP.zero h0]; unfold In64; simp
     ·obtain ⟨u, v, _, _, _, _, v2, e⟩ := hP.some (by have := hs.count; omega)
      rw [e]; unfold In64; simp only; omega
    ·show In64 p.Period
     by_cases h0 : f.Count = 0
     ·rw [hP.zero h0]; unfold In64; simp
     ·obtain ⟨u, v, _, _, u2, _, _, e⟩ := hP.some (by have := hs.count; omega)
      rw [e];have h1 : 0 ≤ f.Period * (u : Int) := Int.mul_nonneg hper.1 (by omega)
      have h2 : f.Period * (u : Int) ≤ 1099511627776 * u := Int.mul_le_mul_of_nonneg_right hper.2 (by omega)
      unfold In64;simp only;omega
   unfold Z1B
   rcases Z3f lim with ⟨_, h⟩ | ⟨_, h3, h4⟩ | ⟨_, _, h⟩
   ·rw [h]; exact ⟨_, _, rfl, fun h => by cases h⟩
   ·rw [h4];simp only [Option.bind_some, beq_self_eq_true, cond_true];obtain ⟨c, _, hc⟩ := Z28 lim h3.shape
    rw [hc];refine ⟨_, _, rfl, fun _ => ⟨F, ?_, lim, h3, hc⟩⟩
    rw [← hFF] at h3 ⊢;exact groupG_of hs m1 hP hO h3.shape hb.odd
   ·rw [h]; exact ⟨_, _, rfl, fun h => by cases h⟩
  ·rw [o1];exact ⟨_, _, rfl, fun h => by cases h⟩
 ·have : (e != 0) = true := by simpa using he
  rw [this];exact ⟨_, _, rfl, fun h => absurd h he⟩
end Go.Dn

namespace Go.Dn
open Go
theorem raw_small {f : Form} (hl : Lim f) (hs : Shape f) {i : Int} (i0 : 0 ≤ i) (i1 : i < f.Count) : ∃ l, Z0D i f = some (l, 0) := by
 have hcnt := hs.count
 have h0 : f.Count ≠ 0 := by omega
 unfold Z0D Z1b
 have hi : In64 i := by
  have := hl.count
  unfold In64 at this ⊢;omega
 rw [Z41 h0, cond_false, Z2r hi hl.count, Z4K (by omega)]
 simp only [Option.bind_some]
 obtain ⟨c1, c2⟩ := Z0r hs h0 i
 rw [c1]
 simp only [Option.bind_some]
 rw [Int.ediv_eq_zero_of_lt i0 i1, Z3s (by unfold In64; omega) hl.period, Int.zero_mul, Z7b (by unfold In64; omega)]
 by_cases hn : Z0f f i = []
 ·rw [hn]; exact ⟨_, rfl⟩
 ·have hlen : ¬ ((Z0f f i).length : Int) = 0 := by have := List.length_pos_iff.2 hn; omega
  rw [Z41 hlen, cond_false];simp only [bne_self_eq_false, Bool.or_self, cond_false];have hr := hs.core _ c2
  rcases Z3d (hl.sets _ c2).1 (hl.sets _ c2).2 (b := 0) (by unfold In64; omega) with ⟨m1, m2⟩ | ⟨m1, m2⟩
  ·rw [m2]; exact ⟨_, rfl⟩
  ·exfalso
   apply m1;intro s hs';obtain ⟨j, hj⟩ := List.getElem?_of_mem hs'
   obtain ⟨t1, t2, _⟩ := hr.ok j s hj
   rw [Int.add_zero, Int.add_zero];exact ⟨t1, t2⟩
theorem plain_one {f : Form} (hl : Lim f) (hs : Shape f) (hb : BndB f 60) : Zd f ((1 : Nat) : Int) = some (Form.mk f.Period f.Count f.Core [], 0) := by
 unfold Zd
 have hcnt := hs.count
 have hper := hs.per
 have hcore := hb.core
 by_cases h0 : f.Count = 0
 ·have : Z0g f ((1 : Nat) : Int) = some (0, 0) := by unfold Z0g; rw [beq_t h0]; rfl
  rw [this, hs.zero.1 h0, h0];have : f.Core = [] := List.eq_nil_of_length_eq_zero (by omega)
  rw [this]
  rfl
 ·obtain ⟨u, v, r1, r2, u1, u2, v1, v2⟩ := rounds_eq hs hcore (by omega) (m := 1) (by omega) (by omega)
  have hu : u = 1 := by omega
  subst hu;have hv : (v : Int) = f.Count := by
   have : ((1 : Nat) : Int) = 1 := rfl
   rw [this, Int.mul_one, Int.mul_one] at r2;exact r2.symm
  rw [r1];simp only [Option.bind_some];rw [Z41 (show ¬ (v : Int) = 0 by omega), cond_false]
  obtain ⟨z, hz, z0, z1⟩ := sum_loop (B := 60) hcore (by omega) hb.sets
  rw [hz];simp only [Option.bind_some];rw [nz?_ok h0];simp only [Option.bind_some];have ediv : (f.Count * ((1 : Nat) : Int)).tdiv f.Count = ((1 : Nat) : Int) := Int.mul_tdiv_cancel_left _ h0
  have hw1 : w64 ((1 : Nat) : Int) = 1 := rfl
  have hmul : Z9 f.Period (w64 ((f.Count * ((1 : Nat) : Int)).tdiv f.Count)) = (f.Period, 0) := by
   rw [ediv, hw1, Z3s (by unfold In64; omega) (by unfold In64; omega), Int.mul_one]
   exact Z7b (by unfold In64; omega)
  rw [hmul];have hbig : ¬ w64 (z * w64 ((f.Count * ((1 : Nat) : Int)).tdiv f.Count)) > 60000 := by
   rw [ediv, hw1, Int.mul_one, ZY (by omega)]; omega
  rw [Zv hbig];simp only [cond_false, bne_self_eq_false, Bool.false_or];rw [Zv (show ¬ f.Period > 1099511627776 by omega)]
  simp only [cond_false]
  rcases Z9f hl hs hb (m := 1) (u := 1) (v := v) (p := f.Period) (by omega) (by omega) (by omega) v2 (by rw [hmul]) with ⟨c1, _⟩ | ⟨_, i, j, i1, j1, c2⟩
  ·rw [c1];simp only [Option.bind_some, Jx.elim];have e : Z35 f 1 v = f.Core := by
    unfold Z35;apply List.ext_getElem
    ·rw [List.length_map, List.length_range]; omega
    ·intro k k1 k2;rw [List.getElem_map, List.getElem_range, gl_one, Z2f (by omega), show (k : Int) * ((1 : Nat) : Int) = k from Int.mul_one _, Z2p (by omega) (by omega), Int.toNat_natCast, List.getD_eq_getElem?_getD, List.getElem?_eq_getElem k2]
     rfl
   rw [e, hv]
  ·exfalso
   have hj : j = 0 := by omega
   subst hj;have e : (i : Int) * ((1 : Nat) : Int) + ((0 : Nat) : Int) = i := by
    show (i : Int) * 1 + 0 = i
    omega
   rw [e] at c2;obtain ⟨l, h⟩ := raw_small hl hs (i := (i : Int)) (by omega) (by omega)
   rw [h] at c2;cases c2
theorem group_one {f : Form} (hl : Lim f) (rf : RightF f) (hb : BndB f 60) : ∃ g, ZU f 1 = some (g, 0) ∧ ZV f = some g := by
 have hs := rf.shape
 have key : ∃ g, ZU f ((1 : Nat) : Int) = some (g, 0) ∧ ZV f = some g := by
  unfold ZU;rw [Zv (show ¬ ((1 : Nat) : Int) < 1 by omega), Zv (show ¬ ((1 : Nat) : Int) > 6000 by omega)]
  simp only [Bool.or_self, cond_false];rw [plain_one hl hs hb];simp only [Option.bind_some, bne_self_eq_false, cond_false];have d1 : ∀ x : Int, x / ((1 : Nat) : Int) = x := fun x => Int.ediv_one x
  have m1 : ∀ x : Int, x * ((1 : Nat) : Int) = x := fun x => Int.mul_one x
  rcases odds_loop hl hs hb (m := 1) (by omega) (by omega) (by omega) with ⟨O, o1, hO⟩ | ⟨_, x, hx, j, j1, o2⟩
  ·rw [o1];simp only [Option.bind_some, Jx.elim];have e : O = f.Odd := by
    refine inc_ext hO.inc (Z1s.1 hs.inc) fun y => ⟨fun hy => ?_, fun hy => ?_⟩
    ·obtain ⟨x, hx, e⟩ := hO.of y hy
     rw [List.take_length] at hx;rw [d1] at e;have ht := (hO.tick y hy).1
     rw [m1, gl_one, e, Z0M hs.inc hx] at ht;have : y = x := Z4h.2 ⟨e, ht⟩
     rw [this]; exact hx
    ·obtain ⟨g, hg, e⟩ := hO.all y (by rw [List.take_length]; exact hy)
     rw [d1] at e;have ht := (hO.tick g hg).1
     rw [m1, gl_one, e, Z0M hs.inc hy] at ht;have : g = y := Z4h.2 ⟨e, ht⟩
     rw [← this]; exact hg
   rw [e];unfold Z1B;have short := (hb.small (by omega)).short
   rcases Z3f hl with ⟨h, _⟩ | ⟨_, _, h4⟩ | ⟨_, h3, _⟩
   ·exact absurd h short
   ·show ∃ g, ((Z03 f).bind _).bind _ = _ ∧ _
    rw [h4];simp only [Option.bind_some, beq_self_eq_true, cond_true];obtain ⟨c, _, hc⟩ := Z28 hl hs
    exact ⟨_, by rw [show Form.mk f.Period f.Count f.Core f.Odd = f from rfl, hc]; rfl, hc⟩
   ·exact absurd rf h3
  ·exfalso
   have hj : j = 0 := by omega
   subst hj;rw [d1, m1, show x.Index + ((0 : Nat) : Int) = x.Index from Int.add_zero _] at o2
   unfold Z0K at o2;have hx' := hs.odd x hx
   rw [Z3l hl hs (Z1g hx'.2), if_pos ⟨hx'.2, fun s hs' => by
    rw [Z0M hs.inc hx] at hs';obtain ⟨k, hk⟩ := List.getElem?_of_mem hs'
    obtain ⟨t1, t2, _⟩ := hx'.1.ok k s hk
    exact ⟨t1, t2⟩⟩] at o2
   simp only [Option.bind_some, Option.some.injEq, Prod.mk.injEq] at o2;exact absurd o2.2 (by decide)
 exact key
theorem Z6C {F g : Form} {B : Nat} (hl : Lim F) (hr : RightF F) (hb : BndB F B) (h : ZV F = some g) : Lim g ∧ RightF g ∧ BndB g B ∧ (∀ i, csz g i = csz F i) ∧ ∀ i, ZZ g i = ZZ F i := by
 obtain ⟨c, hc, hc2⟩ := Z28 hl hr.shape
 rw [h] at hc2
 have e := Option.some.inj hc2
 rw [e]
 exact ⟨canonF_lim hl hr.shape hc, canonF_right hr hc, canonF_bndB hb hc, fun i => by rw [Z5U hr.shape hc], fun i => by rw [Z7v hr.shape hc]⟩
theorem Z8O (f : Form) (m n k : Int) (hf : f.ok) (hm : okI .u8 m) (hn : okI .u8 n) (hk : okI .i8 k) : Z14 f m n k = some true := by
 have hl := Form.lim hf
 have hm' : 0 ≤ m ∧ m ≤ 255 := hm
 have hn' : 0 ≤ n ∧ n ≤ 255 := hn
 have hk' : -128 ≤ k ∧ k ≤ 127 := hk
 unfold Z14
 obtain ⟨b, e1, i1⟩ := right13_eq hl
 rw [e1]
 simp only [Option.bind_some]
 cases b with
 | false => rfl
 | true =>
 obtain ⟨sf, rf⟩ := i1.1 rfl
 have hb := sf.b60
 have hs := rf.shape
 simp only [Bool.not_true, cond_false]
 have num : ∀ z : Int, 0 ≤ z ∧ z ≤ 255 → ∃ a : Nat, w64 (1 + w64 (z.tmod 12)) = (a : Int) ∧ 1 ≤ a ∧ a ≤ 12 := fun z hz => by
  have h1 : 0 ≤ z.tmod 12 := Int.tmod_nonneg _ hz.1
  have h2 : z.tmod 12 < 12 := Int.tmod_lt_of_pos _ (by decide)
  refine ⟨(1 + z.tmod 12).toNat, ?_, by omega, by omega⟩
  rw [ZY (x := z.tmod 12) (by omega), ZY (by omega)]
  omega
 obtain ⟨a, ea, a1, a2⟩ := num m hm'
 obtain ⟨b, eb, b1, b2⟩ := num n hn'
 have hc : ∃ c : Int, w64 (k.tmod 20) = c ∧ -20 ≤ c ∧ c ≤ 20 := by
  have h1 : (k.tmod 20).natAbs < 20 := by
   rw [Int.natAbs_tmod];exact Nat.mod_lt _ (by decide)
  exact ⟨k.tmod 20, ZY (by omega), by omega, by omega⟩
 obtain ⟨c, ec, c1, c2⟩ := hc
 rw [ea, eb, ec]
 have hab : a * b ≤ 12 * 12 := Nat.mul_le_mul a2 b2
 have hab1 : 1 ≤ a * b := Nat.mul_le_mul a1 b1
 have ha60 : a * 60 ≤ 720 := by omega
 have eab : w64 ((a : Int) * (b : Int)) = ((a * b : Nat) : Int) := by
  have : (a : Int) * (b : Int) = ((a * b : Nat) : Int) := by push_cast; rfl
  rw [this, ZY (by omega)]
 have hac : -1000 ≤ (a : Int) * c ∧ (a : Int) * c ≤ 1000 := by
  have h1 : (a : Int) * c ≤ 12 * 20 := by
   have h2 : (a : Int) * c ≤ a * 20 := Int.mul_le_mul_of_nonneg_left c2 (by omega)
   omega
  have h3 : (a : Int) * (-20) ≤ a * c := Int.mul_le_mul_of_nonneg_left c1 (by omega)
  omega
 rw [eab, ZY (x := (a : Int) * c) (by omega)]
 obtain ⟨x, e, x1, x2⟩ := Z8B hl hs hb (m := a) a1 (by omega) (by omega)
 obtain ⟨g1, o1, o2⟩ := group_one hl rf hb
 rw [x1, o1]
 simp only [Option.bind_some, bne_self_eq_false, cond_false]
 rw [o2]
 simp only [Option.bind_some]
 obtain ⟨lim1, _, _⟩ := Z6C hl rf hb o2
 have alike : ∀ {p q : Form}, Lim p → p = q → ZK p q = some true := fun {p q} h hpq => by
  obtain ⟨r, r1, r2⟩ := alikeForms_eq (a := p) (b := q) h
  rw [r1, r2.2 hpq]
 rw [alike lim1 rfl]
 simp only [Option.bind_some, Bool.not_true, cond_false]
 by_cases he : e = 0
 ·obtain ⟨F, hF, lF, rF, cF'⟩ := x2 he
  subst he;simp only [bne_self_eq_false, cond_false];obtain ⟨lx, rx, bx, zx, sx⟩ := Z6C lF rF hF.bnd cF'
  have zx' : ∀ i, csz x i = gl (csz f) (i * a) a := fun i => by rw [zx, hF.csz]
  have sx' : ∀ i, ZZ x i = gl (ZZ f) (i * a) a := fun i => by rw [sx, hF.set]
  obtain ⟨y, e6, y1, y2⟩ := Z8B lx rx.shape bx (m := b) b1 (by omega) (by omega)
  obtain ⟨z, e7, z1, z2⟩ := Z8B hl hs hb (m := a * b) hab1 (by omega) (by omega)
  rw [y1, z1];simp only [Option.bind_some];have second : (bif ((e6 == 0) && (e7 == 0)) then (ZK y z).bind fun x8 => some (!x8) else some false) = some false := by
   by_cases h6 : e6 = 0
   ·by_cases h7 : e7 = 0
    ·obtain ⟨F2, hF2, lF2, rF2, cF2⟩ := y2 h6
     obtain ⟨F3, hF3, lF3, rF3, cF3⟩ := z2 h7
     have same : ZV F2 = ZV F3 := Z9p lF3 lF2 rF3.shape rF2.shape
      (by
       funext i
       rw [hF2.csz, hF3.csz, show csz x = fun i => gl (csz f) (i * a) a from funext zx', gl_mul, Nat.mul_comm b a]
       congr 1
       push_cast
       rw [Int.mul_assoc, Int.mul_comm (b : Int)])
      (by
       funext i
       rw [hF2.set, hF3.set, show ZZ x = fun i => gl (ZZ f) (i * a) a from funext sx', gl_mul, Nat.mul_comm b a]
       congr 1
       push_cast
       rw [Int.mul_assoc, Int.mul_comm (b : Int)])
     rw [cF2, cF3] at same;obtain ⟨ly, _⟩ := Z6C lF2 rF2 hF2.bnd cF2
     rw [h6, h7, alike ly (Option.some.inj same)]
     rfl
    ·rw [Z41 h7, Bool.and_false]; rfl
   ·rw [Z41 h6, Bool.false_and]; rfl
  rw [second];simp only [Option.bind_some, cond_false]
  rcases shift_eq lx rx.shape (bx.small ha60) (m := c) (by unfold ZJ; omega) with s1 | ⟨p, s1, lP, rP, cP⟩
  ·rw [s1];obtain ⟨r, hr⟩ : ∃ r, ZP f ((a : Int) * c) = some r := by
    rcases shift_eq hl hs (hb.small (by omega)) (m := (a : Int) * c) (by unfold ZJ; omega) with h | ⟨g, h, _⟩
    ·exact ⟨_, h⟩
    ·exact ⟨_, h⟩
   rw [hr];simp only [Option.bind_some, show ((20 : Int) != 0) = true from rfl, Bool.true_or, cond_true]
   rfl
  ·rw [s1];simp only [Option.bind_some]
   rcases shift_eq hl hs (hb.small (by omega)) (m := (a : Int) * c) (by unfold ZJ; omega) with t1 | ⟨q, t1, lQ, rQ, cQ⟩
   ·rw [t1];simp only [Option.bind_some, show ((20 : Int) != 0) = true from rfl, Bool.or_true, cond_true]
    rfl
   ·rw [t1];simp only [Option.bind_some, bne_self_eq_false, Bool.or_self, cond_false];obtain ⟨lq, rq, bq, zq, sq⟩ := Z6C lQ rQ (Z7I hs (hb.small (by omega)) _).b cQ
    obtain ⟨lp, _⟩ := Z6C lP rP (Z7I rx.shape (bx.small ha60) c).b cP
    obtain ⟨r, e11, u1, u2⟩ := Z8B lq rq.shape bq (m := a) a1 (by omega) (by omega)
    rw [u1];simp only [Option.bind_some]
    by_cases h11 : e11 = 0
    ·obtain ⟨F4, hF4, lF4, rF4, cF4⟩ := u2 h11
     subst h11;have ix : ∀ i : Int, (i - c) * a = i * a - a * c := fun i => by rw [Int.sub_mul, Int.mul_comm c]
     have same : ZV F4 = ZV (Z12 x c) := Z9p lP lF4 rP.shape rF4.shape
      (by
       funext i
       rw [hF4.csz, Z7H rx.shape, zx', ix];refine gl_congr fun j hj => ?_
       rw [zq, Z7H hs]
       congr 1
       omega)
      (by
       funext i
       rw [hF4.set, Z7t rx.shape, sx', ix];refine gl_congr fun j hj => ?_
       rw [sq, Z7t hs]
       congr 1
       omega)
     rw [cF4, cP] at same;simp only [bne_self_eq_false, cond_false];rw [alike lp (Option.some.inj same).symm]
     rfl
    ·have : (e11 != 0) = true := by simpa using h11
     rw [this]
     rfl
 ·have : (e != 0) = true := by simpa using he
  rw [this]
  rfl
end Go.Dn
