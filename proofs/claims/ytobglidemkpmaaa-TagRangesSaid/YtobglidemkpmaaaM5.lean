/- Part 5 of what the row stands on. -/
import Derived.Test.YtobglidemkpmaaaM4
set_option linter.unusedVariables false
set_option linter.unusedSimpArgs false
namespace Go.Dn
open Go

def Turn (h : Int → List Span) (d q : Int) : Prop := ∀ i, h (i + d) = (h i).map (Z0V q)

theorem Turn.neg {h : Int → List Span} {d q : Int} (t : Turn h d q) : Turn h (-d) (-q) := fun i => by
 have := t (i + -d)
 rw [show i + -d + d = i by omega] at this
 rw [this, Z4d, Int.add_right_neg, shift0]

theorem Turn.add {h : Int → List Span} {d q d' q' : Int} (t : Turn h d q) (t' : Turn h d' q') : Turn h (d + d') (q + q') := fun i => by
 rw [show i + (d + d') = (i + d) + d' by omega, t', t, Z4d]

theorem Turn.zero (h : Int → List Span) : Turn h 0 0 := fun i => by rw [Int.add_zero, shift0]

theorem Turn.nat {h : Int → List Span} {d q : Int} (t : Turn h d q) : ∀ k : Nat, Turn h (k * d) (k * q)
 | 0 => by simpa using Turn.zero h
 | k + 1 => by
  have := (Turn.nat t k).add t
  push_cast
  rw [Int.add_mul, Int.one_mul, Int.add_mul, Int.one_mul]
  exact this

theorem Turn.mul {h : Int → List Span} {d q : Int} (t : Turn h d q) (k : Int) : Turn h (k * d) (k * q) := by
 rcases Int.natAbs_eq k with e | e
 ·rw [e]; exact t.nat _
 ·rw [e, Int.neg_mul, Int.neg_mul]; exact (t.nat _).neg

theorem Turn.agree {h h' : Int → List Span} {d q a : Int} (t : Turn h d q) (t' : Turn h' d q) (hd : 0 < d) (he : ∀ i, a ≤ i → i < a + d → h i = h' i) : h = h' := by
 funext i
 have e : i = ((i - a) % d + a) + (i - a) / d * d := by
  have := Int.emod_add_mul_ediv (i - a) d
  rw [Int.mul_comm] at this
  omega
 have h1 := Int.emod_nonneg (i - a) (show d ≠ 0 by omega)
 have h2 := Int.emod_lt_of_pos (i - a) hd
 rw [e, t.mul, t'.mul, he _ (by omega) (by omega)]

noncomputable def csz (f : Form) (i : Int) : List Span := if f.Count = 0 then [] else cs f i

theorem Z6E {f : Form} (h0 : 0 < f.Count) : csz f = cs f := by funext i; exact if_neg (by omega)
theorem setAt_csz {f : Form} {i : Int} (h : ¬ Z1B f i) : ZQ f i = csz f i := by
 unfold csz
 by_cases h0 : f.Count = 0
 ·rw [if_pos h0, Z1S h h0]
 ·rw [if_neg h0, Z28 h h0]; rfl
theorem csz_bare {f : Form} (hs : Shape f) (hb : Bare f) (i : Int) : csz f i = [] := by
 unfold csz
 by_cases h0 : f.Count = 0
 ·rw [if_pos h0]
 ·rw [if_neg h0]; unfold cs; rw [hb _ (Z1l hs h0 i).2]; rfl

def Z4t (f c : Form) : Prop := (Bare f ∧ c = Form.mk 0 0 [] []) ∨ (¬ Bare f ∧ 0 < f.Count ∧ ∃ d, Good f d ∧ (∀ d', Good f d' → d ≤ d') ∧ c = Form.mk (f.Period / (f.Count / d)) d (f.Core.take d.toNat) [])

theorem Z4t.odd {f c : Form} (h : Z4t f c) : c.Odd = [] := by
 rcases h with ⟨_, rfl⟩ | ⟨_, _, d, _, _, rfl⟩ <;> rfl

theorem Z4t.csz {f c : Form} (hs : Shape f) (h : Z4t f c) : csz c = csz f := by
 rcases h with ⟨hb, rfl⟩ | ⟨hb, h0, d, hg, _, rfl⟩
 ·funext i; rw [csz_bare hs hb]; rfl
 ·have hd := hg.pos
  have hdn : d ≤ f.Count := Int.le_of_dvd h0 hg.dvd
  have hcnt := hs.count
  rw [Z6E h0, Z6E (show 0 < (Form.mk (f.Period / (f.Count / d)) d (f.Core.take d.toNat) []).Count by show 0 < d; omega)]
  refine Turn.agree (a := 0) (d := d) (q := f.Period / (f.Count / d)) (cs_period (f := Form.mk (f.Period / (f.Count / d)) d (f.Core.take d.toNat) []) (show d ≠ 0 by omega)) hg.turn (by omega) (fun i i0 i1 => ?_)
  rw [Z7I i0 (show i < d by omega), Z7I i0 (by omega)]
  show (f.Core.take d.toNat).getD i.toNat [] = _
  rw [List.getD_eq_getElem?_getD, List.getD_eq_getElem?_getD, List.getElem?_take_of_lt (by omega)]

theorem Z4t.shape {f c : Form} (hs : Shape f) (h : Z4t f c) : Shape c := by
 rcases h with ⟨hb, rfl⟩ | ⟨hb, h0, d, hg, _, rfl⟩
 ·exact ⟨rfl, by simp, by simp, by simp, by simp, fun j k a b _ h => by simp at h⟩
 ·have hd := hg.pos
  have hdn : d ≤ f.Count := Int.le_of_dvd h0 hg.dvd
  have hcnt := hs.count
  have hm : 0 < f.Count / d := Int.ediv_pos_of_pos_of_dvd h0 (by omega) hg.dvd
  have hp : 0 < f.Period := by
   have := hs.per; have := hs.zero
   rcases Int.lt_or_le 0 f.Period with h | h
   ·exact h
   ·have : f.Period = 0 := by omega
    have := hs.zero.2 this
    omega
  have hq : 0 < f.Period / (f.Count / d) := Int.ediv_pos_of_pos_of_dvd hp (by omega) (Int.dvd_of_emod_eq_zero hg.rest)
  have hq2 : f.Period / (f.Count / d) ≤ f.Period := Int.ediv_le_self _ (by omega)
  refine ⟨?_, ?_, ?_, ?_, by simp, fun j k a b _ h => by simp at h⟩
  ·simp only [List.length_take]; omega
  ·simp only; omega
  ·simp only; have := hs.per; omega
  ·intro l hl'; exact hs.core l (List.mem_of_mem_take hl')

theorem Z4t.lim {f c : Form} (hl : Lim f) (hs : Shape f) (h : Z4t f c) : Lim c := by
 have hsc := h.shape hs
 have hn : c.Core.length ≤ f.Core.length ∧ ∀ l ∈ c.Core, l ∈ f.Core := by
  rcases h with ⟨hb, rfl⟩ | ⟨hb, h0, d, hg, _, rfl⟩
  ·exact ⟨Nat.zero_le _, fun l hl' => by cases hl'⟩
  ·exact ⟨by simp only [List.length_take]; omega, fun l hl' => List.mem_of_mem_take hl'⟩
 have hc := hl.core
 have h24 := Nat.mul_le_mul_right 24 hn.1
 have hp := hsc.per
 have hcnt := hsc.count
 have hcl : (f.Core.length : Int) < 4611686018427387904 := Z4W (b := 23) hl.core
 exact ⟨by omega, fun l hl' => hl.sets l (hn.2 l hl'), by rw [h.odd]; simp [Z1d], by rw [h.odd]; simp, by unfold In64; omega, by unfold In64; omega⟩

theorem Z4t.ZQ {f c : Form} (hs : Shape f) (h : Z4t f c) (i : Int) : ZQ c i = Go.Dn.csz f i := by
 rw [setAt_csz (by rintro ⟨g, hg, _⟩; rw [h.odd] at hg; cases hg), h.csz hs]

open Classical in
noncomputable def oddly (f : Form) (g : Granule) : Bool := decide (¬ csz f g.Index = g.Ticks)

noncomputable def canonF (f c : Form) : Form := Form.mk c.Period c.Count c.Core (f.Odd.filter (oddly f))

end Go.Dn

namespace Go.Dn
open Go

end Go.Dn

namespace Go.Dn
open Go

theorem Z7g {l : List Granule} : Inc l ↔ l.Pairwise (fun a b => a.Index < b.Index) := by
 rw [List.pairwise_iff_getElem]
 constructor
 ·intro h i j hi hj hij
  exact h i j _ _ hij (List.getElem?_eq_getElem hi) (List.getElem?_eq_getElem hj)
 ·intro h j k a b hjk ha hb
  obtain ⟨h1, rfl⟩ := List.getElem?_eq_some_iff.1 ha
  obtain ⟨h2, rfl⟩ := List.getElem?_eq_some_iff.1 hb
  exact h j k h1 h2 hjk

theorem Inc.filter {l : List Granule} (h : Inc l) (p : Granule → Bool) : Inc (l.filter p) := Z7g.2 ((Z7g.1 h).filter p)

theorem csz_order {f : Form} (hs : Shape f) (ht : Turns f) {i k : Int} (hik : i < k) (ni : csz f i ≠ []) (nk : csz f k ≠ []) : lstT (csz f i) < fstT (csz f k) := by
 have h0 : f.Count ≠ 0 := fun h => ni (by unfold csz; rw [if_pos h])
 unfold csz at ni nk ⊢
 rw [if_neg h0] at ni nk ⊢
 rw [if_neg h0]
 have n1 : Z1G f i ≠ [] := fun h => ni (by unfold cs; rw [h]; rfl)
 have n2 : Z1G f k ≠ [] := fun h => nk (by unfold cs; rw [h]; rfl)
 have := Z96 hs ht h0 hik n1 n2
 unfold cs
 rw [(Z46 _ n1).1, (Z46 _ n2).2]
 exact this

end Go.Dn

namespace Go.Dn
open Go

end Go.Dn

namespace Go.Dn
open Go

theorem shift_ne {l : List Span} (hn : l ≠ []) {a b : Int} (h : l.map (Z0V a) = l.map (Z0V b)) : a = b := by
 cases l with
 | nil => exact absurd rfl hn
 | cons s l =>
  simp only [List.map_cons, List.cons.injEq, Z0V, Span.mk.injEq] at h
  omega

theorem Turn.uniq {h : Int → List Span} {d q q' : Int} (t : Turn h d q) (t' : Turn h d q') {i : Int} (hn : h i ≠ []) : q = q' := shift_ne hn ((t i).symm.trans (t' i))

def NearF (f : Form) (m : Int) : Prop := ∀ g ∈ f.Odd, -m ≤ g.Index ∧ g.Index ≤ m

end Go.Dn

namespace Go.Dn
open Go

end Go.Dn

namespace Go.Dn
open Go

end Go.Dn

namespace Go.Dn
open Go

def Mid (x : Int) : Prop := -1000000000000000000 ≤ x ∧ x ≤ 1000000000000000000

end Go.Dn

namespace Go.Dn
open Go

end Go.Dn

namespace Go.Dn
open Go

theorem hull_eq {l : List Span} (hl : Len l) : Z17 l = some (if l = [] then (⟨0, 0⟩, false) else (⟨fstT l, lstT l⟩, true)) := by
 have hlen := Z4W (b := 15) hl
 unfold Z17
 by_cases h : l = []
 ·subst h; rfl
 ·have hp : 0 < l.length := List.length_pos_iff.2 h
  rw [if_neg h, beq_f (by omega), cond_false, Zy (by omega)]
  have e1 : at? l 0 = some (l.head h) := by
   have := at?_nat (l := l) (k := 0) hp
   rw [show ((0 : Nat) : Int) = 0 from rfl] at this
   rw [this, List.head_eq_getElem]
  have e2 : at? l ((l.length : Int) - 1) = some (l.getLast h) := by
   have := at?_nat (l := l) (k := l.length - 1) (by omega)
   rw [show ((l.length - 1 : Nat) : Int) = (l.length : Int) - 1 by omega] at this
   rw [this, List.getLast_eq_getElem]
  rw [e1, e2]
  simp only [Option.bind_some]
  unfold fstT lstT
  rw [List.head?_eq_some_head h, List.getLast?_eq_some_getLast h]
  rfl

def spotOf (g : Form) (j : Nat) : Option size_spot := if g.Core.getD j [] = [] then none else some ⟨(j : Int), ⟨fstT (g.Core.getD j []), lstT (g.Core.getD j [])⟩⟩
def spotsUp (g : Form) (k : Nat) : List size_spot := (List.range k).filterMap (spotOf g)
abbrev spotsOf (g : Form) : List size_spot := spotsUp g g.Core.length

structure Spots (g : Form) (l : List size_spot) : Prop where
 mem : ∀ s ∈ l, 0 ≤ s.index ∧ s.index < g.Count ∧ cs g s.index ≠ [] ∧ s.place.first = fstT (cs g s.index) ∧ s.place.last = lstT (cs g s.index)
 all : ∀ j, 0 ≤ j → j < g.Count → cs g j ≠ [] → ∃ s ∈ l, s.index = j
 inc : l.Pairwise (fun a b => a.index < b.index)

theorem cs_order {g : Form} (hs : Shape g) (ht : Turns g) (h0 : 0 < g.Count) {i k : Int} (hik : i < k) (ni : cs g i ≠ []) (nk : cs g k ≠ []) : lstT (cs g i) < fstT (cs g k) := by
 have := csz_order hs ht hik (by rw [Z6E h0]; exact ni) (by rw [Z6E h0]; exact nk)
 rwa [Z6E h0] at this
theorem cs_right {g : Form} (hs : Shape g) (h0 : 0 < g.Count) {j : Int} (j0 : 0 ≤ j) (j1 : j < g.Count) : RightL (cs g j) := by
 rw [Z7I j0 j1]
 have := hs.count
 have hj : j.toNat < g.Core.length := by omega
 rw [List.getD_eq_getElem?_getD, List.getElem?_eq_getElem hj]
 exact hs.core _ (List.getElem_mem hj)
theorem cs_turn {g : Form} (h0 : 0 < g.Count) (i q : Int) : cs g (i + g.Count * q) = (cs g i).map (Z0V (q * g.Period)) := cs_periods (by omega) i q

def LastC (g : Form) (t i : Int) : Prop := cs g i ≠ [] ∧ fstT (cs g i) ≤ t ∧ ∀ k, i < k → cs g k ≠ [] → t < fstT (cs g k)
def FirstC (g : Form) (t i : Int) : Prop := cs g i ≠ [] ∧ t ≤ lstT (cs g i) ∧ ∀ k, k < i → cs g k ≠ [] → lstT (cs g k) < t

structure Fit (g : Form) : Prop where
 lim : Lim g
 shape : Shape g
 turns : Turns g
 few : g.Core.length ≤ 12
 odds : g.Odd.length ≤ 8

theorem Fit.per {g : Form} (h : Fit g) (h0 : 0 < g.Count) : 0 < g.Period := by
 have h1 := h.shape.per
 have h2 := h.shape.zero
 omega

def BigT (t : Int) : Prop := -4398046511104 ≤ t ∧ t ≤ 4398046511104

theorem turn_split {g : Form} (h0 : 0 < g.Count) (k : Int) : ∃ j q, 0 ≤ j ∧ j < g.Count ∧ k = j + g.Count * q ∧ cs g k = (cs g j).map (Z0V (q * g.Period)) := by
 have e : k = k % g.Count + g.Count * (k / g.Count) := (Int.emod_add_mul_ediv k g.Count).symm
 refine ⟨k % g.Count, k / g.Count, Int.emod_nonneg k (by omega), Int.emod_lt_of_pos k h0, e, ?_⟩
 conv => lhs; rw [e]
 exact cs_turn h0 _ _

end Go.Dn

namespace Go.Dn
open Go

def putB (b : Int × Bool) (n : Int) : Int × Bool := if b.2 = false ∨ n > b.1 then (n, true) else b
structure Best (S : Int → Prop) (b : Int × Bool) : Prop where
 yes : b.2 = true → S b.1 ∧ ∀ n, S n → n ≤ b.1
 no : b.2 = false → b.1 = 0 ∧ ∀ n, ¬ S n
theorem Best.put {S S' : Int → Prop} {b : Int × Bool} {n : Int} (h : Best S b) (hS : ∀ m, S' m ↔ S m ∨ m = n) : Best S' (putB b n) := by
 unfold putB
 split
 ·rename_i hc
  refine ⟨fun _ => ⟨(hS n).2 (.inr rfl), fun m hm => ?_⟩, fun h => by cases h⟩
  rcases (hS m).1 hm with h1 | h1
  ·cases hb : b.2 with
   | false => exact absurd h1 ((h.no hb).2 m)
   | true =>
    have := (h.yes hb).2 m h1
    rcases hc with h2 | h2
    ·rw [hb] at h2; cases h2
    ·simp only; omega
  ·subst h1; exact Int.le_refl _
 ·rename_i hc
  have hb : b.2 = true := by cases hb : b.2 <;> simp_all
  refine ⟨fun _ => ⟨(hS b.1).2 (.inl (h.yes hb).1), fun m hm => ?_⟩, fun h => by rw [hb] at h; cases h⟩
  rcases (hS m).1 hm with h1 | h1
  ·exact (h.yes hb).2 m h1
  ·subst h1
   have : ¬ (m > b.1) := fun h => hc (.inr h)
   omega
theorem Best.congr {S S' : Int → Prop} {b : Int × Bool} (h : Best S b) (hS : ∀ m, S' m ↔ S m) : Best S' b :=
 ⟨fun hb => ⟨(hS _).2 (h.yes hb).1, fun n hn => (h.yes hb).2 n ((hS n).1 hn)⟩, fun hb => ⟨(h.no hb).1, fun n hn => (h.no hb).2 n ((hS n).1 hn)⟩⟩
theorem Best.none {S : Int → Prop} (h : ∀ n, ¬ S n) : Best S (0, false) := ⟨fun h => by (cases h), fun _ => ⟨rfl, h⟩⟩
end Go.Dn

namespace Go.Dn
open Go

theorem Z5p {g : Form} (h0 : 0 < g.Count) {i : Int} (h : ¬ Z1B g i) : ZQ g i = cs g i := by rw [setAt_csz h, Z6E h0]

def byU (up : Bool) : Int := if up then 1 else -1
def sgU (up : Bool) : Int := if up then -1 else 1

def AtP (g : Form) (up : Bool) (t i : Int) : Prop := ZQ g i ≠ [] ∧ (if up then t ≤ lstT (ZQ g i) else fstT (ZQ g i) ≤ t)

end Go.Dn

namespace Go.Dn
open Go

def CoreP (g : Form) (up : Bool) (d i j : Int) : Prop := cs g i ≠ [] ∧ cs g j ≠ [] ∧ (if up then d ≤ lstT (cs g j) - fstT (cs g i) else fstT (cs g j) - lstT (cs g i) ≤ d)
def Z5k (g : Form) (up : Bool) (d i j : Int) : Prop := ZQ g i ≠ [] ∧ ZQ g j ≠ [] ∧ (if up then d ≤ lstT (ZQ g j) - fstT (ZQ g i) else fstT (ZQ g j) - lstT (ZQ g i) ≤ d)

def BigI (n : Int) : Prop := -600000000000000 ≤ n ∧ n ≤ 600000000000000
end Go.Dn

namespace Go.Dn
open Go

def FewF (f : Form) : Prop := f.Core.length ≤ 12 ∧ f.Odd.length ≤ 8
theorem SmallF.few {f : Form} (h : SmallF f) : FewF f := ⟨h.1, h.2.1⟩

structure DownS (f : Form) (d : Int) (r : Int × Bool) : Prop where
 yes : r.2 = true → (∃ i j, Z5k f false d i j ∧ r.1 = j - i) ∧ ∀ i j, Z5k f false d i j → j - i ≤ r.1
 no : r.2 = false → ∀ i j, ¬ Z5k f false d i j
structure UpS (f : Form) (d : Int) (r : Int × Bool) : Prop where
 yes : r.2 = true → (∃ i j, Z5k f true d i j ∧ r.1 = j - i) ∧ ∀ i j, Z5k f true d i j → r.1 ≤ j - i
 no : r.2 = false → ∀ i j, ¬ Z5k f true d i j

theorem down_mono {f : Form} {d d' i j : Int} (h : Z5k f false d i j) (hd : d ≤ d') : Z5k f false d' i j := by
 unfold Z5k at *
 simp only [Bool.false_eq_true, if_false] at *
 exact ⟨h.1, h.2.1, by omega⟩
noncomputable def bad (low high : Bound) : Bool := (((!(Z1A low)) || (!(Z1A high))) || (low.Inf == 1)) || (high.Inf == (-1))
structure RangeS (f : Form) (low high : Bound) (r : Range) (ok : Bool) : Prop where
 none : ok = false → r = Range.mk 0 0 false false
 hi : ok = true → (r.HasHigh = true ↔ high.Inf = 0 ∧ high.N ≤ 1099511627776)
 lo : ok = true → (r.HasLow = true ↔ low.Inf = 0 ∧ -1099511627776 ≤ low.N)
 atH : ok = true → r.HasHigh = true → DownS f (max high.N (-1099511627776)) (r.High, true)
 atL : ok = true → r.HasLow = true → UpS f (min low.N 1099511627776) (r.Low, true)
 nhi : ok = true → r.HasHigh = false → r.High = 0
 nlo : ok = true → r.HasLow = false → r.Low = 0
 not : ok = false → (high.Inf = 0 ∧ high.N ≤ 1099511627776 ∧ ∀ i j, ¬ Z5k f false (max high.N (-1099511627776)) i j) ∨ (low.Inf = 0 ∧ -1099511627776 ≤ low.N ∧ ∀ i j, ¬ Z5k f true (min low.N 1099511627776) i j)

def Near (f : Form) (m d : Int) : Prop := ∃ i j, Z5k f false d i j ∧ m ≤ j - i
theorem Near.mono {f : Form} {m m' d d' : Int} (h : Near f m d) (hm : m' ≤ m) (hd : d ≤ d') : Near f m' d' := by
 obtain ⟨i, j, h1, h2⟩ := h
 exact ⟨i, j, down_mono h1 hd, by omega⟩
def farI (m : Int) : Int := min (max m (-4611686018427387904)) 4611686018427387904
def LowD (f : Form) (m d : Int) : Prop := -1099511627776 ≤ d ∧ d ≤ 1099511627776 ∧ (∀ z, -1099511627776 ≤ z → z < d → ¬ Near f m z) ∧ (d < 1099511627776 → Near f m d)
def boundD (d : Int) : Bound := if d = -1099511627776 then ⟨-1, 0⟩ else ⟨0, d⟩

theorem LowD.mono {f : Form} {m m' d d' : Int} (h : LowD f m d) (h' : LowD f m' d') (hm : m ≤ m') : d ≤ d' := by
 obtain ⟨a1, a2, a3, a4⟩ := h
 obtain ⟨b1, b2, b3, b4⟩ := h'
 by_cases hd : d ≤ d'
 ·exact hd
 ·exact absurd ((b4 (by omega)).mono hm (Int.le_refl _)) (a3 d' b1 (by omega))
def boundH (d : Int) : Bound := if d = -1099511627776 then ⟨1, 0⟩ else ⟨0, -d⟩
def goodB (x : Bound) : Prop := Z1A x = true ∧ x.N ≤ 1099511627776 ∧ -1099511627776 ≤ x.N
end Go.Dn

namespace Go.Dn
open Go

structure NearF0 (f : Form) : Prop where
 lim : Lim f
 right : RightF f
 small : SmallF f
 per : f.Period ≤ 200
 hull : ∀ l ∈ f.Core, l ≠ [] → -100 ≤ fstT l ∧ lstT l ≤ 100
 odd : ∀ g ∈ f.Odd, -100 ≤ g.Index ∧ g.Index ≤ 100

theorem span_within {l : List Span} (h : RightL l) : ∀ s ∈ l, fstT l ≤ s.From ∧ s.From ≤ s.To ∧ s.To ≤ lstT l := by
 induction l with
 | nil => intro s hs; cases hs
 | cons x l ih =>
  intro s hs
  have h0 := h.ok 0 x rfl
  cases l with
  | nil =>
   rw [List.mem_singleton] at hs; subst hs
   exact ⟨Int.le_refl _, h0.2.2, Int.le_refl _⟩
  | cons y l =>
   have h1 := h.gap 0 x y rfl rfl
   have e1 : lstT (x :: y :: l) = lstT (y :: l) := by simp [lstT]
   have e2 : fstT (y :: l) = y.From := rfl
   have e3 : fstT (x :: y :: l) = x.From := rfl
   have hf := Z3T h.tail (by simp)
   rw [e1, e3]
   rcases List.mem_cons.1 hs with rfl | hs
   ·exact ⟨Int.le_refl _, h0.2.2, by omega⟩
   ·have := ih h.tail s hs
    exact ⟨by omega, this.2.1, this.2.2⟩

theorem NearF0.core {f : Form} (h : NearF0 f) (h0 : 0 < f.Count) {i : Int} (hi : -2000 ≤ i ∧ i ≤ 2000) : ∀ s ∈ cs f i, -500000 ≤ s.From ∧ s.To ≤ 500000 ∧ s.From ≤ s.To := by
 intro s hs
 obtain ⟨j, q, j0, j1, rfl, e⟩ := turn_split h0 i
 rw [e] at hs
 obtain ⟨s0, hs0, rfl⟩ := List.mem_map.1 hs
 have hr := cs_right h.right.shape h0 j0 j1
 have hne : cs f j ≠ [] := List.ne_nil_of_mem hs0
 have hm : cs f j ∈ f.Core := by
  rw [Z7I j0 j1]
  have := h.right.shape.count
  have hj : j.toNat < f.Core.length := by omega
  rw [List.getD_eq_getElem?_getD, List.getElem?_eq_getElem hj]
  exact List.getElem_mem hj
 have h1 := span_within hr s0 hs0
 have h2 := h.hull _ hm hne
 have hc := h.right.shape.count
 have hp := h.right.shape.per
 have hp2 := h.per
 have hq : -2000 ≤ q ∧ q ≤ 2000 := by
  constructor
  ·by_cases hq : -2000 ≤ q
   ·exact hq
   ·have : f.Count * q ≤ f.Count * -2001 := Int.mul_le_mul_of_nonneg_left (by omega) (by omega)
    have : f.Count * -2001 ≤ j - 2001 - f.Count := by
     have : 1 ≤ f.Count := by omega
     omega
    omega
  ·by_cases hq : q ≤ 2000
   ·exact hq
   ·have : f.Count * 2001 ≤ f.Count * q := Int.mul_le_mul_of_nonneg_left (by omega) (by omega)
    omega
 have b1 := Int.mul_le_mul_of_nonneg_right hq.1 hp.1
 have b2 := Int.mul_le_mul_of_nonneg_right hq.2 hp.1
 simp only [Z0V]
 omega

theorem NearF0.odd_in {f : Form} (h : NearF0 f) {i : Int} (hi : Z1B f i) : -100 ≤ i ∧ i ≤ 100 := by
 obtain ⟨g, hg, rfl⟩ := hi
 exact h.odd g hg

theorem NearF0.fits {f : Form} (h : NearF0 f) {i : Int} (hi : -2000 ≤ i ∧ i ≤ 2000) : fits f i := by
 intro s hs
 by_cases ho : Z1B f i
 ·obtain ⟨g, hg, rfl⟩ := ho
  rw [Z1b h.right.shape.inc hg] at hs
  obtain ⟨k, hk⟩ := List.getElem?_of_mem hs
  have := (h.right.shape.odd g hg).1.ok k s hk
  exact ⟨this.1, this.2.1⟩
 ·by_cases h0 : 0 < f.Count
  ·rw [Z5p h0 ho] at hs
   have := h.core h0 hi s hs
   unfold ZO; omega
  ·rw [Z1S ho (by have := h.right.shape.count; omega)] at hs; cases hs

theorem shift_to {f : Form} (h0 : 0 < f.Count) (i a : Int) : ∃ q, a ≤ i + f.Count * q ∧ i + f.Count * q < a + f.Count := by
 refine ⟨-((i - a) / f.Count), ?_⟩
 have e := Int.emod_add_mul_ediv (i - a) f.Count
 have e0 := Int.emod_nonneg (i - a) (show f.Count ≠ 0 by omega)
 have e1 := Int.emod_lt_of_pos (i - a) h0
 rw [Int.mul_neg]
 omega

theorem NearF0.Z7s {f : Form} (h : NearF0 f) {i : Int} (hi : ¬ Z1B f i) (hn : ZQ f i ≠ []) : 0 < f.Count ∧ f.Count ≤ 12 ∧ cs f i ≠ [] := by
 have hc := h.right.shape.count
 have hs := h.small.1
 have h0 : 0 < f.Count := by
  by_cases h0 : 0 < f.Count
  ·exact h0
  ·exact absurd (Z1S hi (by omega)) hn
 rw [Z5p h0 hi] at hn
 exact ⟨h0, by omega, hn⟩

theorem NearF0.turned {f : Form} (h : NearF0 f) (h0 : 0 < f.Count) {i q : Int} (hn : cs f i ≠ []) (ho : ¬ Z1B f (i + f.Count * q)) : ZQ f (i + f.Count * q) ≠ [] ∧ fstT (ZQ f (i + f.Count * q)) = fstT (cs f i) + q * f.Period ∧ lstT (ZQ f (i + f.Count * q)) = lstT (cs f i) + q * f.Period := by
 rw [Z5p h0 ho, cs_turn h0, (Z46 _ hn).1, (Z46 _ hn).2]
 exact ⟨by simpa using hn, rfl, rfl⟩

theorem NearF0.Z4m {f : Form} (h : NearF0 f) {i k : Int} (hik : i < k) (hi : -2000 ≤ i ∧ i ≤ 2000) (hk : -2000 ≤ k ∧ k ≤ 2000) (ni : ZQ f i ≠ []) (nk : ZQ f k ≠ []) : lstT (ZQ f i) < fstT (ZQ f k) :=
 RightF.order h.lim h.right _ i k rfl hik (by unfold ZO; omega) (by unfold ZO; omega) (h.fits hi) (h.fits hk) ni nk
theorem NearF0.Z79 {f : Form} (h : NearF0 f) (h0 : 0 < f.Count) {i k : Int} (hik : i < k) (oi : ¬ Z1B f i) (ok : ¬ Z1B f k) (ni : ZQ f i ≠ []) (nk : ZQ f k ≠ []) : lstT (ZQ f i) < fstT (ZQ f k) := by
 rw [Z5p h0 oi] at ni ⊢
 rw [Z5p h0 ok] at nk ⊢
 exact cs_order h.right.shape h.right.turns h0 hik ni nk
theorem NearF0.le_small {f : Form} (h : NearF0 f) {i : Int} (hi : -2000 ≤ i ∧ i ≤ 2000) (ni : ZQ f i ≠ []) : fstT (ZQ f i) ≤ lstT (ZQ f i) :=
 Z3T (Z4o h.right.shape (h.fits hi)) ni

theorem NearF0.order {f : Form} (h : NearF0 f) {i k : Int} (hik : i < k) (ni : ZQ f i ≠ []) (nk : ZQ f k ≠ []) : lstT (ZQ f i) < fstT (ZQ f k) := by
 by_cases oi : Z1B f i
 ·have bi := h.odd_in oi
  by_cases hk : k ≤ 2000
  ·exact h.Z4m hik (by omega) (by omega) ni nk
  ·have ok : ¬ Z1B f k := fun o => by have := h.odd_in o; omega
   obtain ⟨h0, h12, ck⟩ := h.Z7s ok nk
   obtain ⟨q, q1, q2⟩ := shift_to h0 k 900
   have oc : ¬ Z1B f (k + f.Count * q) := fun o => by have := h.odd_in o; omega
   obtain ⟨nc, c1, c2⟩ := h.turned h0 ck oc
   have o1 := h.Z4m (k := k + f.Count * q) (by omega) (by omega) (by omega) ni nc
   have o2 := h.le_small (i := k + f.Count * q) (by omega) nc
   have o3 := h.Z79 h0 (i := k + f.Count * q) (k := k) (by omega) oc ok nc nk
   omega
 ·by_cases ok : Z1B f k
  ·have bk := h.odd_in ok
   by_cases hi : -2000 ≤ i
   ·exact h.Z4m hik (by omega) (by omega) ni nk
   ·obtain ⟨h0, h12, ci⟩ := h.Z7s oi ni
    obtain ⟨q, q1, q2⟩ := shift_to h0 i (-900)
    have oc : ¬ Z1B f (i + f.Count * q) := fun o => by have := h.odd_in o; omega
    obtain ⟨nc, c1, c2⟩ := h.turned h0 ci oc
    have o1 := h.Z79 h0 (i := i) (k := i + f.Count * q) (by omega) oi oc ni nc
    have o2 := h.le_small (i := i + f.Count * q) (by omega) nc
    have o3 := h.Z4m (i := i + f.Count * q) (k := k) (by omega) (by omega) (by omega) nc nk
    omega
  ·obtain ⟨h0, _, _⟩ := h.Z7s oi ni
   exact h.Z79 h0 hik oi ok ni nk

end Go.Dn

namespace Go.Dn
open Go

structure GapS (f : Form) (m : Int) (lo : Int → Prop) (b : Int × Bool) : Prop where
 yes : b.2 = true → ∃ i j, i + m ≤ j ∧ ZQ f i ≠ [] ∧ ZQ f j ≠ [] ∧ b.1 = fstT (ZQ f j) - lstT (ZQ f i)
 all : ∀ i j, lo i → i + m ≤ j → ZQ f i ≠ [] → ZQ f j ≠ [] → b.2 = true ∧ b.1 ≤ fstT (ZQ f j) - lstT (ZQ f i)

end Go.Dn

namespace Go.Dn
open Go

theorem w64_in (x : Int) : In64 (w64 x) := by unfold w64 In64; rw [Z4Q]; omega

theorem has_found {l : List Span} {t : Int} (hl : Len l) : ∃ b, Z3F l t = some b ∧ (b = true → ∃ s ∈ l, s.From ≤ t ∧ t ≤ s.To) := by
 have hlen : (l.length : Int) < 4611686018427387904 := by have := Z1d; unfold Len at hl; omega
 obtain ⟨r, h1, p, rfl, hp⟩ := Z16 (step := Z7.s0 l t (fun z0 z1 => some (Z2C z0 z1)))
  (I := fun s => ∃ i j : Nat, s = ((i : Int), (j : Int)) ∧ i ≤ j ∧ j ≤ l.length)
  (fun s => (s.2 - s.1).toNat)
  (fun r => ∃ p : Nat, r = (p : Int) ∧ p ≤ l.length) (by
  rintro s ⟨i, j, rfl, hij, hj⟩
  unfold Z7.s0
  by_cases hlt : i < j
  ·have hm : w64 ((IntKind.u64.wrap (w64 ((i : Int) + j))).fdiv (2 ^ 1)) = ((i + j) / 2 : Nat) := by
    rw [Zy (x := (i : Int) + j) (by omega), Z56, Int.fdiv_eq_ediv_of_nonneg _ (by decide), Zy (by omega)]
    omega
   have hml : (i + j) / 2 < l.length := by omega
   simp only [hm]
   rw [Zw (show (i : Int) < j by omega), cond_true, at?_nat hml]
   simp only [Option.bind_some]
   refine .inl ?_
   by_cases hc : Z2C l[(i + j) / 2] t < 0
   ·rw [Zw hc]
    refine ⟨((((i + j) / 2 + 1 : Nat) : Int), (j : Int)), ?_, ⟨(i + j) / 2 + 1, j, rfl, by omega, hj⟩, by simp; omega⟩
    rw [Zy (by omega)]; simp
   ·rw [Z0K hc]
    exact ⟨((i : Int), (((i + j) / 2 : Nat) : Int)), by simp, ⟨i, (i + j) / 2, rfl, by omega, by omega⟩, by simp; omega⟩
  ·exact .inr ⟨(i : Int), by rw [Z0K (show ¬ (i : Int) < j by omega)]; rfl, i, rfl, by omega⟩) (0, (l.length : Int)) ⟨0, l.length, rfl, Nat.zero_le _, Nat.le_refl _⟩
 unfold Z3F Z7
 rw [h1]
 simp only [Option.bind_some]
 by_cases hlt : p < l.length
 ·rw [Zw (show (p : Int) < l.length by omega), cond_true, at?_nat hlt]
  simp only [Option.bind_some, Bool.and_true]
  refine ⟨_, rfl, fun h => ⟨l[p], List.getElem_mem hlt, ?_⟩⟩
  simp only [Bool.and_eq_true] at h
  have h := eq_of_beq h.1
  unfold Z2C at h
  by_cases q1 : l[p].To < t
  ·rw [Zw q1] at h; simp at h
  ·by_cases q2 : l[p].From > t
   ·rw [Z0K q1, Zw q2] at h; simp at h
   ·omega
 ·rw [Z0K (show ¬ (p : Int) < l.length by omega), cond_false]
  simp only [Option.bind_some, Bool.and_false]
  exact ⟨false, rfl, fun h => by cases h⟩

def Z6c (f : Form) : Form := Form.mk f.Period f.Count f.Core []
theorem bareF_lim {f : Form} (h : Lim f) : Lim (Z6c f) := ⟨h.core, h.sets, by simp [Z6c], by simp [Z6c], h.count, h.period⟩
theorem bareF_shape {f : Form} (h : Shape f) : Shape (Z6c f) := ⟨h.count, h.zero, h.per, h.core, by simp [Z6c], by intro j k a b _ hj; simp [Z6c] at hj⟩

theorem place_tot {f : Form} (hl : Lim f) (t : Int) : ∃ r, ZA f t = some r ∧ In64 r.1 := by
 have hlen : (f.Core.length : Int) < 4611686018427387904 := by have := Z1d; have := hl.core; omega
 obtain ⟨r, h1, h2⟩ := Z16 (step := ZA.s0 f t)
  (I := fun s => (∃ k : Nat, s.2.2 = (k : Int) ∧ k ≤ f.Core.length) ∧ In64 s.1)
  (fun s => f.Core.length - s.2.2.toNat) (fun r => In64 r.1) (by
  rintro ⟨at', ok, idx⟩ ⟨⟨k, hk, hle⟩, hi⟩
  simp only at hk hi
  subst hk
  unfold ZA.s0
  simp only
  by_cases hlt : k < f.Core.length
  ·refine .inl ?_
   rw [Zw (show (k : Int) < f.Core.length by omega), cond_true, at?_nat hlt]
   simp only [Option.bind_some]
   rw [hull_eq (hl.sets _ (List.getElem_mem hlt)).1]
   simp only [Option.bind_some]
   have hw : w64 ((k : Int) + 1) = ((k + 1 : Nat) : Int) := by rw [Zy (by omega)]; push_cast; rfl
   by_cases hn : f.Core[k] = []
   ·rw [if_pos hn]
    exact ⟨_, rfl, ⟨⟨k + 1, hw, hlt⟩, hi⟩, by simp only [hw]; omega⟩
   ·rw [if_neg hn]
    simp only [Bool.not_true, cond_false]
    unfold Z6L
    rw [Z6X (w64_in _) hl.period]
    simp only [Option.bind_some]
    rw [pickB]
    split
    ·simp only [Option.bind_some, Jx.elim]
     exact ⟨_, rfl, ⟨⟨k + 1, hw, hlt⟩, w64_in _⟩, by simp only [hw]; omega⟩
    ·simp only [Option.bind_some, Jx.elim]
     exact ⟨_, rfl, ⟨⟨k + 1, hw, hlt⟩, hi⟩, by simp only [hw]; omega⟩
  ·refine .inr ⟨(at', ok), ?_, hi⟩
   rw [Z0K (show ¬ (k : Int) < f.Core.length by omega), cond_false]) (0, false, 0) ⟨⟨0, rfl, Nat.zero_le _⟩, by unfold In64; simp⟩
 refine ⟨r, ?_, h2⟩
 unfold ZA
 rw [h1]
 rfl

theorem plain_tot {f : Form} (hl : Lim f) (hs : Shape f) (t : Int) : ∃ r, Z3 f t = some r ∧ (r.2 = true → ZO r.1) := by
 obtain ⟨x1, e1, i1⟩ := place_tot hl t
 unfold Z3
 rw [e1]
 simp only [Option.bind_some]
 cases hx : x1.2 with
 | false => exact ⟨(0, false), rfl, fun h => by cases h⟩
 | true =>
 simp only [Bool.not_true, cond_false]
 have hlen : (f.Odd.length : Int) < 4611686018427387904 := by have := Z1d; have := hl.odd; omega
 obtain ⟨kv, e2, _⟩ := Z16 (step := Z3.s0 f)
  (I := fun s => ∃ k : Nat, s.1 = (k : Int) ∧ k ≤ f.Odd.length)
  (fun s => f.Odd.length - s.1.toNat) (fun _ => True) (by
  rintro ⟨idx, kv⟩ ⟨k, hk, hle⟩
  simp only at hk
  subst hk
  unfold Z3.s0
  simp only
  by_cases hlt : k < f.Odd.length
  ·have hw : w64 ((k : Int) + 1) = ((k + 1 : Nat) : Int) := by rw [Zy (by omega)]; push_cast; rfl
   rw [Zw (show (k : Int) < f.Odd.length by omega), cond_true, at?_nat hlt]
   simp only [Option.bind_some]
   exact .inl ⟨_, rfl, ⟨k + 1, hw, hlt⟩, by simp only [hw]; omega⟩
  ·exact .inr ⟨kv, by rw [Z0K (show ¬ (k : Int) < f.Odd.length by omega), cond_false], trivial⟩) (0, []) ⟨0, rfl, Nat.zero_le _⟩
 rw [e2]
 simp only [Option.bind_some]
 have bl := bareF_lim hl
 have bs := bareF_shape hs
 obtain ⟨x3, e3, a3⟩ := Z2B bl bs (i := w64 (x1.1 - 1)) (w64_in _)
 rw [show Form.mk f.Period f.Count f.Core [] = Z6c f from rfl, e3]
 simp only [Option.bind_some]
 have tickA : ∀ {i : Int} {r : Int × Bool}, Above (Z6c f) i r → r.2 = true → i < r.1 ∧ ZO r.1 := fun h hr => ⟨(h.tick hr).1, (h.tick hr).2.1⟩
 obtain ⟨y, e4, h4⟩ := Z16 (step := Z3.s1 f kv)
  (I := fun s => (s.2.1 = true → ZO s.1) ∧ 0 ≤ s.2.2 ∧ s.2.2 ≤ 2)
  (fun s => if s.2.1 = true then (1099511627777 - s.1).toNat + 1 else 0)
  (fun y => ∀ r, y = .ret r → r.2 = true → ZO r.1) (by
  rintro ⟨i, ok, by_⟩ ⟨hi, hb0, hb2⟩
  simp only at hi hb0 hb2
  unfold Z3.s1
  simp only
  rw [show Form.mk f.Period f.Count f.Core [] = Z6c f from rfl]
  by_cases hc : ok = true ∧ by_ < 2
  ·obtain ⟨rfl, hb⟩ := hc
   have ti := hi rfl
   rw [Zw hb]
   simp only [Bool.and_self, cond_true]
   obtain ⟨x5, e5, a5⟩ := Z2B bl bs (i := i) (Z1z ti)
   have go : ∀ b' : Int, 0 ≤ b' → b' ≤ 2 → ∃ s' : Int × Bool × Int, (some (Sum.inl (x5.1, x5.2, b')) : Option ((Int × Bool × Int) ⊕ Jx Unit (Int × Bool))) = some (.inl s') ∧ ((s'.2.1 = true → ZO s'.1) ∧ 0 ≤ s'.2.2 ∧ s'.2.2 ≤ 2) ∧
     (if s'.2.1 = true then (1099511627777 - s'.1).toNat + 1 else 0) < (1099511627777 - i).toNat + 1 := fun b' q1 q2 => by
    refine ⟨_, rfl, ⟨fun h => (tickA a5 h).2, q1, q2⟩, ?_⟩
    simp only
    split
    ·rename_i h
     have := tickA a5 h
     have t2 := this.2
     unfold ZO at t2 ti
     omega
    ·omega
   obtain ⟨g, hg⟩ : ∃ g, Z0F (Z6c f) i = some g := ⟨_, Z4e bl bs (Z1z ti)⟩
   rw [hg]
   simp only [Option.bind_some, if_true]
   have hwb : w64 (by_ + 1) = by_ + 1 := Zy (by omega)
   rw [hwb]
   cases hgc : (g.2 != 0) with
   | true =>
    simp only [cond_true, Option.bind_some, Jx.elim]
    rw [e5]
    simp only [Option.bind_some]
    exact .inl (go _ (by omega) (by omega))
   | false =>
    simp only [cond_false]
    cases hm : (mget kv i == 0) with
    | true =>
     simp only [cond_true, Option.bind_some, Jx.elim]
     exact .inr ⟨_, rfl, fun r hr _ => by cases hr; exact ti⟩
    | false =>
     simp only [cond_false, Option.bind_some, Jx.elim]
     rw [e5]
     simp only [Option.bind_some]
     exact .inl (go _ hb0 hb2)
  ·have : (ok && decide (by_ < 2)) = false := by
    cases ok with
    | false => rfl
    | true => rw [Z0K (fun h => hc ⟨rfl, h⟩)]; rfl
   rw [this, cond_false]
   exact .inr ⟨_, rfl, fun r hr => by cases hr⟩) (x3.1, x3.2, 0) ⟨fun h => (tickA a3 h).2, by simp, by simp⟩
 rw [e4]
 simp only [Option.bind_some]
 cases y with
 | ret r => exact ⟨r, rfl, h4 r rfl⟩
 | go u => exact ⟨(0, false), rfl, fun h => by cases h⟩

theorem nearest_tot {f : Form} (hl : Lim f) (hs : Shape f) (t : Int) : ∃ r, Z8 f t = some r ∧ (r.2 = true → ZO r.1) := by
 obtain ⟨x1, e1, i1⟩ := plain_tot hl hs (iMax (iMin t 1099511627777) (-1099511627777))
 have hlen : (f.Odd.length : Int) < 4611686018427387904 := by have := Z1d; have := hl.odd; omega
 obtain ⟨r, e2, h2⟩ := Z16 (step := Z8.s0 f t)
  (I := fun s => (∃ k : Nat, s.2.2 = (k : Int) ∧ k ≤ f.Odd.length) ∧ (s.2.1 = true → ZO s.1))
  (fun s => f.Odd.length - s.2.2.toNat) (fun r => r.2 = true → ZO r.1) (by
  rintro ⟨i, ok, idx⟩ ⟨⟨k, hk, hle⟩, hi⟩
  simp only at hk hi
  subst hk
  unfold Z8.s0
  simp only
  by_cases hlt : k < f.Odd.length
  ·have hw : w64 ((k : Int) + 1) = ((k + 1 : Nat) : Int) := by rw [Zy (by omega)]; push_cast; rfl
   have hm : f.Odd[k] ∈ f.Odd := List.getElem_mem hlt
   rw [Zw (show (k : Int) < f.Odd.length by omega), cond_true, at?_nat hlt]
   simp only [Option.bind_some]
   obtain ⟨g, hg⟩ : ∃ g, Z17 f.Odd[k].Ticks = some g := ⟨_, hull_eq (hl.ticks _ hm).2.1⟩
   rw [hg]
   simp only [Option.bind_some]
   refine .inl ?_
   rw [pickB]
   split
   ·simp only [Option.bind_some]
    exact ⟨_, rfl, ⟨⟨k + 1, hw, hlt⟩, fun _ => (hs.odd _ hm).2⟩, by simp only [hw]; omega⟩
   ·simp only [Option.bind_some]
    exact ⟨_, rfl, ⟨⟨k + 1, hw, hlt⟩, hi⟩, by simp only [hw]; omega⟩
  ·exact .inr ⟨(i, ok), by rw [Z0K (show ¬ (k : Int) < f.Odd.length by omega), cond_false], hi⟩) (x1.1, x1.2, 0) ⟨⟨0, rfl, Nat.zero_le _⟩, i1⟩
 refine ⟨r, ?_, h2⟩
 unfold Z8
 rw [e1]
 simp only [Option.bind_some]
 rw [e2]
 rfl

def Bears (f : Form) (i t : Int) : Prop := ZO i ∧ fits f i ∧ ∃ s ∈ ZQ f i, s.From ≤ t ∧ t ≤ s.To

theorem Z8v {f : Form} (hl : Lim f) (hs : Shape f) (t : Int) : ∃ r, Z3Y f t = some r ∧ (r.2 = true → Bears f r.1 t) ∧ (r.2 = false → r.1 = 0) := by
 obtain ⟨x1, e1, i1⟩ := nearest_tot hl hs t
 unfold Z3Y Z49
 rw [e1]
 simp only [Option.bind_some]
 cases hx : x1.2 with
 | false => exact ⟨(0, false), rfl, (fun h => by cases h), fun _ => rfl⟩
 | true =>
 have ti := i1 hx
 simp only [Bool.not_true, cond_false]
 rw [Z4e hl hs (Z1z ti)]
 simp only [Option.bind_some]
 by_cases hf : ZO x1.1 ∧ fits f x1.1
 ·rw [if_pos hf]
  obtain ⟨b, e2, h2⟩ := has_found (l := ZQ f x1.1) (t := t) (Z88 hl hs _)
  rw [e2]
  simp only [Option.bind_some]
  cases b with
  | false => exact ⟨(0, false), rfl, (fun h => by cases h), fun _ => rfl⟩
  | true => exact ⟨(x1.1, true), rfl, fun _ => ⟨hf.1, hf.2, h2 rfl⟩, (fun h => by cases h)⟩
 ·rw [if_neg hf]
  obtain ⟨b, e2, h2⟩ := has_found (l := []) (t := t) (by unfold Len; simp)
  rw [e2]
  simp only [Option.bind_some]
  cases b with
  | false => exact ⟨(0, false), rfl, (fun h => by cases h), fun _ => rfl⟩
  | true => obtain ⟨s, hs, _⟩ := h2 rfl; cases hs

theorem distance_eq {f : Form} (hl : Lim f) (hs : Shape f) (a b : Int) : ∃ x y, Z3Y f a = some x ∧ Z3Y f b = some y ∧ (x.2 = true → Bears f x.1 a) ∧ (y.2 = true → Bears f y.1 b) ∧
  Zs f a b = some (if x.2 = true ∧ y.2 = true then (y.1 - x.1, true) else (0, false)) := by
 obtain ⟨x, e1, h1, _⟩ := Z8v hl hs a
 obtain ⟨y, e2, h2, _⟩ := Z8v hl hs b
 refine ⟨x, y, e1, e2, h1, h2, ?_⟩
 unfold Zs
 rw [e1]
 simp only [Option.bind_some]
 cases hx : x.2 with
 | false => simp
 | true =>
 simp only [Bool.not_true, cond_false]
 rw [e2]
 simp only [Option.bind_some]
 cases hy : y.2 with
 | false => simp
 | true =>
  have tx := (h1 hx).1
  have ty := (h2 hy).1
  unfold ZO at tx ty
  rw [Zy (by omega)]
  simp

theorem Bears.ends {f : Form} (hs : Shape f) {i t : Int} (h : Bears f i t) : ZQ f i ≠ [] ∧ fstT (ZQ f i) ≤ t ∧ t ≤ lstT (ZQ f i) ∧ ZO t := by
 obtain ⟨h1, h2, s, h3, h4, h5⟩ := h
 have hr := Z4o hs h2
 have hn : ZQ f i ≠ [] := fun e => by rw [e] at h3; cases h3
 obtain ⟨k, hk, he⟩ := List.getElem_of_mem h3
 have hlt := hk
 have key : fstT (ZQ f i) ≤ s.From ∧ s.To ≤ lstT (ZQ f i) := by
  have h0 : ∀ (l : List Span), RightL l → ∀ (s : Span), s ∈ l → fstT l ≤ s.From ∧ s.To ≤ lstT l := by
   intro l
   induction l with
   | nil => intro _ s hs; cases hs
   | cons a l ih =>
    intro hr s hs
    have ha := hr.ok 0 a rfl
    have e1 : fstT (a :: l) = a.From := rfl
    cases l with
    | nil =>
     rw [List.mem_singleton] at hs
     subst hs
     exact ⟨by rw [e1]; omega, by show s.To ≤ s.To; omega⟩
    | cons b l =>
     have hg := hr.gap 0 a b rfl rfl
     have e2 : lstT (a :: b :: l) = lstT (b :: l) := by unfold lstT; rw [List.getLast?_cons_cons]
     have hrt := hr.tail
     rcases List.mem_cons.1 hs with rfl | hs
     ·have := ih hrt b (by simp)
      have hb := hrt.ok 0 b rfl
      refine ⟨by rw [e1]; omega, by rw [e2]; omega⟩
     ·have := ih hrt s hs
      have e3 : fstT (b :: l) = b.From := rfl
      rw [e3] at this
      refine ⟨by rw [e1]; omega, by rw [e2]; exact this.2⟩
  exact h0 _ hr s h3
 have hl := lst_tick hr hn
 unfold ZO at *
 exact ⟨hn, by omega, by omega, by omega⟩

end Go.Dn

namespace Go.Dn
open Go

theorem small_right {f : Form} (hl : Lim f) : ∃ x1 y, Z04 f = some x1 ∧ ((bif (!x1) then some true else (Zl f).bind fun x2 => some (x2 != 0)) : Option Bool) = some y ∧ (y = false → SmallF f ∧ RightF f) := by
 obtain ⟨b, e, i⟩ := Z6P hl
 cases b with
 | false => exact ⟨false, true, e, rfl, fun h => by cases h⟩
 | true =>
  rcases gran_Right_eq hl with ⟨_, h⟩ | ⟨_, q, h⟩ | ⟨_, _, h⟩
  ·exact ⟨true, true, e, by rw [h]; rfl, fun h => by cases h⟩
  ·exact ⟨true, false, e, by rw [h]; rfl, fun _ => ⟨i.1 rfl, q⟩⟩
  ·exact ⟨true, true, e, by rw [h]; rfl, fun h => by cases h⟩

end Go.Dn

namespace Go.Dn
open Go

theorem index_loop {α : Type} {l : List α} {p : α → Bool} {step : Int → Option (Int ⊕ Jx Unit Int)} (hl : (l.length : Int) < 4611686018427387904)
  (hstep : ∀ (k : Nat) (hk : k < l.length), step (k : Int) = if p l[k] = true then some (.inr (.ret (k : Int))) else some (.inl (w64 ((k : Int) + 1)))) (hend : step (l.length : Int) = some (.inr (.go ()))) :
  (ZK step 0 = some (.go ()) ∧ ∀ x ∈ l, p x = false) ∨ (∃ k : Nat, ZK step 0 = some (.ret (k : Int)) ∧ ∃ x ∈ l, p x = true) := by
 obtain ⟨r, h1, h2⟩ := Z16 (step := step) (I := fun s => ∃ k : Nat, s = (k : Int) ∧ k ≤ l.length ∧ ∀ j (hj : j < l.length), j < k → p l[j] = false) (fun s => l.length - s.toNat)
  (fun r => (r = .go () ∧ ∀ x ∈ l, p x = false) ∨ ∃ k : Nat, r = .ret (k : Int) ∧ ∃ x ∈ l, p x = true) (by
  rintro s ⟨k, rfl, hk, hj⟩
  by_cases hlt : k < l.length
  ·rw [hstep k hlt]
   by_cases hp : p l[k] = true
   ·rw [if_pos hp]
    exact .inr ⟨_, rfl, .inr ⟨k, rfl, _, List.getElem_mem hlt, hp⟩⟩
   ·rw [if_neg hp]
    refine .inl ⟨_, rfl, ⟨k + 1, by rw [Zy (by omega)]; push_cast; rfl, hlt, fun j hjl hjk => ?_⟩, by rw [Zy (by omega)]; omega⟩
    rcases Nat.lt_or_ge j k with h | h
    ·exact hj j hjl h
    ·have : j = k := by omega
     subst this
     simpa using hp
  ·have : k = l.length := by omega
   subst this
   refine .inr ⟨_, hend, .inl ⟨rfl, fun x hx => ?_⟩⟩
   obtain ⟨j, hjl, rfl⟩ := List.getElem_of_mem hx
   exact hj j hjl hjl) 0 ⟨0, rfl, Nat.zero_le _, fun j _ h => by omega⟩
 rcases h2 with ⟨rfl, h⟩ | ⟨k, rfl, h⟩
 ·exact .inl ⟨h1, h⟩
 ·exact .inr ⟨k, h1, h⟩

theorem Z8z {l : List Int} {p : Int → Bool} (hl : (l.length : Int) < 4611686018427387904) : ∃ b, Zk l (fun z => some (p z)) = some b ∧ (b = true ↔ ∃ x ∈ l, p x = true) := by
 unfold Zk ZN
 rcases index_loop (l := l) (p := p) (step := ZN.s0 l (fun z => some (p z))) hl (fun k hk => by
  unfold ZN.s0
  rw [Zw (show (k : Int) < l.length by omega), cond_true, at?_nat hk]
  simp only [Option.bind_some, pickB]) (by
  unfold ZN.s0
  rw [Z0K (by omega), cond_false]) with ⟨e, h⟩ | ⟨k, e, h⟩
 ·rw [e]
  refine ⟨false, rfl, ?_⟩
  simp only [Bool.false_eq_true, false_iff, not_exists, not_and, Bool.not_eq_true]
  exact h
 ·rw [e]
  simp only [Option.bind_some, Jx.elim]
  exact ⟨true, by rw [Zw (show (k : Int) ≥ 0 by omega)], by simpa using h⟩

structure RightN (n : Net) : Prop where
 vars : 0 ≤ n.Vars ∧ n.Vars ≤ 24
 forms : ∀ f ∈ n.Forms, Lim f ∧ RightF f
 cons : ∀ c ∈ n.Cons, (0 ≤ c.X ∧ c.X < n.Vars) ∧ (0 ≤ c.Y ∧ c.Y < n.Vars) ∧ (0 ≤ c.Form ∧ c.Form < n.Forms.length)
 few : n.Cons.length ≤ 200

def badFrom (m : Con → Bool) : List Con → Nat → List Int
 | [], _ => []
 | c :: l, j => if m c = true then badFrom m l (j + 1) else (j : Int) :: badFrom m l (j + 1)

section
variable {n : Net} {ts : List Int} {m : Con → Bool}

noncomputable def metB (n : Net) (ts : List Int) (c : Con) : Bool := (Z3u n c ts).getD false
end

noncomputable def partsRest (n : Net) (cut : Int) (x6 : List Int) : Option Bool :=
   (nz? (w64 ((n.Cons.length : Int) + 1))).bind fun u1 =>
   (cut? n.Cons 0 ((w64 cut).tmod (w64 ((n.Cons.length : Int) + 1)))).bind fun x7 =>
   (cut? n.Cons ((w64 cut).tmod (w64 ((n.Cons.length : Int) + 1))) (n.Cons.length : Int)).bind fun x8 =>
   (Z0M (Net.mk n.Vars n.Forms x7) x6).bind fun x9 =>
   (Z0M (Net.mk n.Vars n.Forms x8) x6).bind fun x10 =>
   (Z0M n x6).bind fun x11 =>
   (bif ((x9.2 != x10.2) || (x9.2 != x11.2)) then
    some false
   else
    (ZK (Z0U.s1 n cut x10) (0, x9.1)).bind fun (y2 : (List Int)) =>
    (Zu y2 x11.1).bind fun x14 =>
    (
     (bif x14 then
      (Z09 n x6).bind fun x15 =>
      some (x15 == ((x9.2 == 0) && ((x11.1.length : Int) == 0)))
     else
      some false)).bind fun (y3 : Bool) =>
    (
     (bif y3 then
      (Z09 n x6).bind fun x16 =>
      (Z09 (Net.mk n.Vars n.Forms x7) x6).bind fun x17 =>
      (
       (bif x17 then
        (Z09 (Net.mk n.Vars n.Forms x8) x6).bind fun x18 =>
        some x18
       else
        some false)).bind fun (y5 : Bool) =>
      some (x16 == y5)
     else
      some false)).bind fun (y4 : Bool) =>
    some (y4 && ZM))

end Go.Dn

namespace Go.Dn
open Go

def inR (r : Range) (ok : Bool) (d : Int) : Bool := ok && (!(r.HasLow && decide (d < r.Low)) && !(r.HasHigh && decide (d > r.High)))

theorem meets_eq {f : Form} {x y d : Int} {ok : Bool} {r : Range} (e : Zs f x y = some (d, ok)) (hx : -1099511627776 < x ∧ x < 1099511627776) (hy : -1099511627776 < y ∧ y < 1099511627776) :
  Z0w (Net.mk 2 [f] []) (Con.mk 0 1 0 r) [x, y] = some (inR r ok d) := by
 unfold Z0w
 have ho : Z3x (Net.mk 2 [f] []) [x, y] = some true := by
  unfold Z3x
  obtain ⟨b, e1, i1⟩ := Z8z (l := [x, y]) (p := Z48) (by simp)
  rw [show ((([x, y] : List Int).length : Int) == (Net.mk 2 [f] []).Vars) = true from rfl, cond_true, e1]
  cases b with
  | false => rfl
  | true =>
   obtain ⟨z, hz, h⟩ := i1.1 rfl
   unfold Z48 at h
   simp at hz h
   rcases hz with rfl | rfl <;> omega
 rw [ho]
 simp only [Option.bind_some, cond_true]
 have hm : Z3u (Net.mk 2 [f] []) (Con.mk 0 1 0 r) [x, y] = some (inR r ok d) := by
  unfold Z3u
  rw [show at? [f] 0 = some f from rfl, show at? [x, y] 0 = some x from rfl, show at? [x, y] 1 = some y from rfl]
  simp only [Option.bind_some]
  rw [e]
  simp only [Option.bind_some]
  unfold inR
  cases ok with
  | false => rfl
  | true =>
   cases h1 : (r.HasLow && decide (d < r.Low)) <;> cases h2 : (r.HasHigh && decide (d > r.High)) <;> simp [Jx.elim, h1, h2]
 rw [hm]
 rfl

theorem Z9I (f : Form) (a b : Int) (r : Range) (hf : f.ok) (ha : okI .i64 a) (hb : okI .i64 b) (hr : r.ok) : Z1I f a b r = some true := by
 have hl := Form.lim hf
 unfold Z1I
 obtain ⟨x1, y, e1, e2, h2⟩ := small_right hl
 rw [e1]
 simp only [Option.bind_some]
 rw [e2]
 simp only [Option.bind_some]
 cases y with
 | true => rfl
 | false =>
 obtain ⟨sf, rf⟩ := h2 rfl
 simp only [cond_false]
 have hx : -1099511627776 < a.tmod 1099511627776 ∧ a.tmod 1099511627776 < 1099511627776 := by
  have h1 : (a.tmod 1099511627776).natAbs < 1099511627776 := by
   rw [Int.natAbs_tmod]
   exact Nat.mod_lt _ (by decide)
  omega
 have hy : -1099511627776 < b.tmod 1099511627776 ∧ b.tmod 1099511627776 < 1099511627776 := by
  have h1 : (b.tmod 1099511627776).natAbs < 1099511627776 := by
   rw [Int.natAbs_tmod]
   exact Nat.mod_lt _ (by decide)
  omega
 generalize a.tmod 1099511627776 = x at *
 generalize b.tmod 1099511627776 = y at *
 obtain ⟨A, B, eA, eB, hA, hB, eD⟩ := distance_eq hl rf.shape x y
 have hd : ∃ d ok, Zs f x y = some (d, ok) ∧ (ok = true → -2199023255552 ≤ d ∧ d ≤ 2199023255552) := by
  by_cases h : A.2 = true ∧ B.2 = true
  ·have t1 := (hA h.1).1
   have t2 := (hB h.2).1
   unfold ZO at t1 t2
   exact ⟨B.1 - A.1, true, by rw [eD, if_pos h], fun _ => by omega⟩
  ·exact ⟨0, false, by rw [eD, if_neg h], nofun⟩
 obtain ⟨d, ok, e, hb⟩ := hd
 have M : ∀ r : Range, Z0w (Net.mk 2 [f] []) (Con.mk 0 1 0 r) [x, y] = some (inR r ok d) := fun r => meets_eq e hx hy
 rw [e]
 simp only [Option.bind_some, M]
 cases ok with
 | false =>
  simp [inR, bne]
  rfl
 | true =>
  obtain ⟨b1, b2⟩ := hb rfl
  rw [Zy (x := d - 1) (by omega), Zy (x := d + 1) (by omega)]
  have k1 : inR (Range.mk 0 0 false false) true d = true := rfl
  have k2 : inR (Range.mk d d true true) true d = true := by simp [inR]
  have k3 : inR (Range.mk (d + 1) 0 true false) true d = false := by simp [inR]; omega
  have k4 : inR (Range.mk 0 (d - 1) false true) true d = false := by simp [inR]; omega
  have k5 : inR (Range.mk r.Low r.High true true) true d = (inR (Range.mk r.Low 0 true false) true d && inR (Range.mk 0 r.High false true) true d) := by simp [inR]
  rw [k1, k2, k3, k4, k5]
  cases inR (Range.mk r.Low 0 true false) true d <;> cases inR (Range.mk 0 r.High false true) true d <;> simp [bne] <;> rfl

end Go.Dn
