/- Part 4 of what the row stands on. -/
import Derived.Test.YtobglidemkpmaaaM3
set_option linter.unusedVariables false
set_option linter.unusedSimpArgs false
namespace Go.Dn
open Go

theorem Z1L : reachBytes = 140737488351232 := rfl

def ZL (t : Int) : Prop := -1099511627776 ≤ t ∧ t ≤ 1099511627776
instance (t : Int) : Decidable (ZL t) := by unfold ZL; infer_instance
theorem Z4S (t : Int) : ZR t = decide (ZL t) := by
 rw [Bool.eq_iff_iff, decide_eq_true_iff]; simp [ZR, ZL]
theorem Z4o (t : Int) : Zg t = decide (ZL t) := by
 rw [Bool.eq_iff_iff, decide_eq_true_iff]; simp [Zg, ZL]
theorem Z1o {t : Int} (h : ZL t) : In64 t := by unfold ZL at h; unfold In64; omega

structure RightL (l : List Span) : Prop where
 ok : ∀ (k : Nat) (s : Span), l[k]? = some s → ZL s.From ∧ ZL s.To ∧ s.From ≤ s.To
 gap : ∀ (k : Nat) (s t : Span), l[k]? = some s → l[k + 1]? = some t → s.To + 2 ≤ t.From

abbrev Len (l : List Span) : Prop := l.length * 16 ≤ reachBytes
abbrev Sp64 (l : List Span) : Prop := ∀ s ∈ l, In64 s.From ∧ In64 s.To

theorem Span.ok64 {s : Span} (h : s.ok) : In64 s.From ∧ In64 s.To := h
theorem okSpans {l : List Span} (h : okL 16 Span.ok l) : Len l ∧ Sp64 l := ⟨h.1, fun s hs => Span.ok64 (h.2 s hs)⟩
theorem RightL.sp64 {l : List Span} (h : RightL l) : Sp64 l := fun s hs => by
 obtain ⟨k, hk⟩ := List.getElem?_of_mem hs
 have := h.ok k s hk
 exact ⟨Z1o this.1, Z1o this.2.1⟩

def Z44 (l : List Span) (k : Nat) (s : Span) : Prop := ZL s.From ∧ ZL s.To ∧ s.From ≤ s.To ∧ ∀ p, k ≠ 0 → l[k - 1]? = some p → p.To + 2 ≤ s.From

theorem Z8M {l : List Span} : RightL l ↔ ∀ k s, l[k]? = some s → Z44 l k s := by
 constructor
 ·intro h k s hk
  obtain ⟨h1, h2, h3⟩ := h.ok k s hk
  refine ⟨h1, h2, h3, fun p h0 hp => ?_⟩
  have : k - 1 + 1 = k := by omega
  exact h.gap (k - 1) p s hp (by rw [this]; exact hk)
 ·intro h
  refine ⟨fun k s hk => ⟨(h k s hk).1, (h k s hk).2.1, (h k s hk).2.2.1⟩, fun k s t hs ht => (h (k + 1) t ht).2.2.2 s (by omega) (by simpa using hs)⟩

theorem Z5N {l : List Span} (hl : Len l) (h64 : Sp64 l) : ∃ b, Zt l = some b ∧ (b = true ↔ RightL l) := by
 have hlen : l.length ≤ maxLen := by rw [Z7J]; have := Z1L; unfold Len at hl; omega
 have step : ∀ (k : Nat) (s : Span), l[k]? = some s → (∀ j y, j < k → l[j]? = some y → Z44 l j y) → ∃ b, Zt.s0 l (k : Int) = (if b = true then some (.inl ((k : Int) + 1)) else some (.inr (.ret false))) ∧ (b = true ↔ Z44 l k s) := by
  intro k s hk hprev
  have hlt := (List.getElem?_eq_some_iff.1 hk).1
  have hat : at? l (k : Int) = some s := by rw [at?_nat hlt]; rw [List.getElem?_eq_getElem hlt] at hk; exact hk
  unfold Zt.s0
  rw [Zs (show (k : Int) < l.length by omega), cond_true, hat]
  simp only [Option.bind_some, Z4S]
  have hk1 : w64 ((k : Int) + 1) = k + 1 := Zx (by rw [Z7J] at hlen; omega)
  by_cases h1 : ZL s.From ∧ ZL s.To ∧ s.From ≤ s.To
  ·have : (!decide (ZL s.From) || !decide (ZL s.To) || decide (s.From > s.To)) = false := by
    rw [Zs h1.1, Zs h1.2.1, Z07 (by omega)]; rfl
   rw [this, cond_false]
   by_cases h0 : k = 0
   ·subst h0
    refine ⟨true, by simp [w64]; rw [Z3w]; rfl, by simp [Z44, h1]⟩
   ·have hk0 : (k : Int) > 0 := by omega
    have hpl : k - 1 < l.length := by omega
    have hp : at? l (w64 ((k : Int) - 1)) = some l[k - 1] := by
     rw [Zx (by rw [Z7J] at hlen; omega), show ((k : Int) - 1) = ((k - 1 : Nat) : Int) by omega, at?_nat hpl]
    have hpg := hprev (k - 1) _ (by omega) (List.getElem?_eq_getElem hpl)
    have hpt : w64 (l[k - 1].To + 2) = l[k - 1].To + 2 := by
     have := hpg.2.1; unfold ZL at this; exact Zx (by omega)
    rw [Zs hk0, cond_true, hp]
    simp only [Option.bind_some, hpt]
    refine ⟨!decide (s.From < l[k - 1].To + 2), ?_, ?_⟩
    ·cases hd : decide (s.From < l[k - 1].To + 2) <;> simp [hk1]
    ·simp only [Bool.not_eq_true', decide_eq_false_iff_not, Z44]
     constructor
     ·intro h; refine ⟨h1.1, h1.2.1, h1.2.2, fun p _ hp' => ?_⟩
      rw [List.getElem?_eq_getElem hpl] at hp'; cases hp'; omega
     ·intro h; have := h.2.2.2 _ h0 (List.getElem?_eq_getElem hpl); omega
  ·refine ⟨false, ?_, by simp only [Bool.false_eq_true, Z44, false_iff]; intro h; exact h1 ⟨h.1, h.2.1, h.2.2.1⟩⟩
   have : (!decide (ZL s.From) || !decide (ZL s.To) || decide (s.From > s.To)) = true := by
    by_cases a1 : ZL s.From
    ·by_cases a2 : ZL s.To
     ·have a3 : s.From > s.To := by
       apply Classical.byContradiction
       intro h
       exact h1 ⟨a1, a2, by omega⟩
      rw [Zs a3]; simp
     ·rw [Z07 a2]; simp
    ·rw [Z07 a1]; simp
   rw [this]; rfl
 unfold Zt
 rcases Z5K (l := l) (step := Zt.s0 l) (Z44 l) (no := .ret false) (yes := .go ()) (fun k x hk hp => by
   obtain ⟨b, h1, h2⟩ := step k x hk hp
   cases b
   ·exact .inr ⟨h1, fun h => by have := h2.2 h; cases this⟩
   ·exact .inl ⟨h1, h2.1 rfl⟩) (by
   unfold Zt.s0; rw [Z07 (by omega)]; rfl) with ⟨h1, h2⟩ | ⟨h1, h2⟩
 ·rw [h1]; exact ⟨true, rfl, by simp [Z8M.2 h2]⟩
 ·rw [h1]; exact ⟨false, rfl, by simp only [Bool.false_eq_true, false_iff]; exact fun h => h2 (Z8M.1 h)⟩


def Z0f (by_ : Int) (s : Span) : Span := ⟨s.From + by_, s.To + by_⟩

theorem Z64 {l : List Span} {b : Int} (hl : Len l) (h64 : Sp64 l) (hb : In64 b) :
  ((∀ s ∈ l, ZL (s.From + b) ∧ ZL (s.To + b)) ∧ Z02 l b = some (l.map (Z0f b), 0)) ∨ ((¬ ∀ s ∈ l, ZL (s.From + b) ∧ ZL (s.To + b)) ∧ Z02 l b = some ([], 20)) := by
 have hlen : (l.length : Int) < 9223372036854775807 := by have := Z1L; unfold Len at hl; omega
 have step : ∀ (k : Nat) (s : Span) (acc : List Span), l[k]? = some s → acc.length = k → Z02.s0 l b ((k : Int), acc) = if ZL (s.From + b) ∧ ZL (s.To + b) then some (.inl ((k : Int) + 1, acc ++ [Z0f b s])) else some (.inr (.ret ([], 20))) := by
  intro k s acc hk hacc
  have hlt := (List.getElem?_eq_some_iff.1 hk).1
  have hat : at? l (k : Int) = some s := by rw [at?_nat hlt]; rw [List.getElem?_eq_getElem hlt] at hk; exact hk
  obtain ⟨f64, t64⟩ := h64 s (List.mem_of_getElem? hk)
  unfold Z02.s0
  rw [Zs (show (k : Int) < l.length by omega), cond_true, hat]
  simp only [Option.bind_some]
  rw [Z7q f64 hb, Z7q t64 hb, Z4S, Z4S]
  have hk1 : w64 ((k : Int) + 1) = k + 1 := Zx (by omega)
  have happ : ∀ x : Span, app? 16 acc [x] = some (acc ++ [x]) := fun x => app?_ok (by
   have := Z1L; have := room_eq; unfold Len at hl; simp; omega)
  rcases fit_or (s.From + b) with ⟨q1, q2⟩ | ⟨q1, q2⟩ <;> rcases fit_or (s.To + b) with ⟨q3, q4⟩ | ⟨q3, q4⟩ <;> rw [q2, q4]
  ·by_cases h : ZL (s.From + b) ∧ ZL (s.To + b)
   ·rw [if_pos h, Zs h.1, Zs h.2]
    simp [happ, hk1, Z0f]
   ·rw [if_neg h]
    have : (!decide (ZL (s.From + b)) || !decide (ZL (s.To + b))) = true := by
     by_cases h1 : ZL (s.From + b)
     ·rw [Z07 (fun h2 => h ⟨h1, h2⟩)]; simp
     ·rw [Z07 h1]; simp
    simp only [bne_self_eq_false, Bool.false_or, Bool.or_assoc] at this ⊢
    rw [this]; rfl
  ·rw [if_neg (fun h => q3 (Z1o h.2))]; rfl
  ·rw [if_neg (fun h => q1 (Z1o h.1))]; rfl
  ·rw [if_neg (fun h => q1 (Z1o h.1))]; rfl
 have hend : ∀ acc, Z02.s0 l b ((l.length : Int), acc) = some (.inr (.go acc)) := fun acc => by unfold Z02.s0; rw [Z07 (by omega)]; rfl
 unfold Z02
 by_cases hall : ∀ s ∈ l, ZL (s.From + b) ∧ ZL (s.To + b)
 ·refine .inl ⟨hall, ?_⟩
  have : ZM (Z02.s0 l b) (0, []) = some (.go (l.map (Z0f b))) := by
   refine Z37 (I := fun (s : Int × List Span) r => r = .go (l.map (Z0f b)) ∧ ∃ k : Nat, k ≤ l.length ∧ s = ((k : Int), (l.take k).map (Z0f b))) (fun s => l.length - s.1.toNat) ?_ ⟨rfl, 0, Nat.zero_le _, by simp⟩
   rintro s r ⟨rfl, k, hk, rfl⟩
   by_cases hlt : k < l.length
   ·refine .inl ⟨_, by rw [step k l[k] _ (List.getElem?_eq_getElem hlt) (by simp; omega), if_pos (hall _ (List.getElem_mem hlt))], ⟨rfl, k + 1, hlt, ?_⟩, by simp; omega⟩
    rw [List.take_succ_eq_append_getElem hlt, List.map_append]; push_cast; rfl
   ·have : k = l.length := by omega
    subst this
    rw [List.take_length]
    exact .inr (hend _)
  rw [this]; rfl
 ·refine .inr ⟨hall, ?_⟩
  obtain ⟨k0, s0, hk0, hb0, hg⟩ := Z7W (l := l) (good := fun _ s => ZL (s.From + b) ∧ ZL (s.To + b)) (fun h => hall fun s hs => by
   obtain ⟨k, hk⟩ := List.getElem?_of_mem hs; exact h k s hk)
  have hlt0 := (List.getElem?_eq_some_iff.1 hk0).1
  have : ZM (Z02.s0 l b) (0, []) = some (.ret ([], 20)) := by
   refine Z37 (I := fun (s : Int × List Span) r => r = .ret ([], 20) ∧ ∃ k : Nat, k ≤ k0 ∧ s.1 = (k : Int) ∧ s.2.length = k) (fun s => l.length - s.1.toNat) ?_ ⟨rfl, 0, Nat.zero_le _, rfl, rfl⟩
   rintro ⟨i, acc⟩ r ⟨rfl, k, hk, h1, h2⟩
   simp only at h1 h2
   subst h1
   by_cases hlt : k < k0
   ·have hkl : k < l.length := by omega
    exact .inl ⟨_, by rw [step k l[k] _ (List.getElem?_eq_getElem hkl) h2, if_pos (hg k _ hlt (List.getElem?_eq_getElem hkl))], ⟨rfl, k + 1, hlt, by push_cast; rfl, by simp; omega⟩, by simp; omega⟩
   ·have : k = k0 := by omega
    subst this
    exact .inr (by rw [step k s0 _ hk0 h2, if_neg hb0])
  rw [this]; rfl

theorem RightL.shift {l : List Span} {b : Int} (h : RightL l) (ht : ∀ s ∈ l, ZL (s.From + b) ∧ ZL (s.To + b)) : RightL (l.map (Z0f b)) := by
 constructor
 ·intro k s hk
  rw [List.getElem?_map, Option.map_eq_some_iff] at hk
  obtain ⟨s, hk, rfl⟩ := hk
  have h1 := h.ok k s hk
  have h2 := ht s (List.mem_of_getElem? hk)
  exact ⟨h2.1, h2.2, by simp only [Z0f]; omega⟩
 ·intro k s t hk hk1
  rw [List.getElem?_map, Option.map_eq_some_iff] at hk hk1
  obtain ⟨s, hk, rfl⟩ := hk
  obtain ⟨t, hk1, rfl⟩ := hk1
  have := h.gap k s t hk hk1
  simp only [Z0f]; omega

def Z2T (a b : List Span) : Prop := ∀ x, a.getLast? = some x → ∀ y, b.head? = some y → x.To < y.From

theorem Z3s {a b : List Span} (ha : Len a) : ∃ r, Z0P a b = some r ∧ (r = true ↔ Z2T a b) := by
 unfold Z0P
 cases a with
 | nil => exact ⟨true, by simp, by simp [Z2T]⟩
 | cons x a =>
  cases b with
  | nil => exact ⟨true, by simp, by simp [Z2T]⟩
  | cons y b =>
   have hl : ((x :: a).length : Int) < 9223372036854775807 := by have := Z1L; unfold Len at ha; omega
   have e1 : (((x :: a).length : Int) == 0 || ((y :: b).length : Int) == 0) = false := by simp; omega
   have hlt : (x :: a).length - 1 < (x :: a).length := by simp
   have e2 : at? (x :: a) (w64 (((x :: a).length : Int) - 1)) = some (x :: a)[(x :: a).length - 1] := by
    rw [Zx (by simp at hl ⊢; omega), show (((x :: a).length : Int) - 1) = (((x :: a).length - 1 : Nat) : Int) by simp, at?_nat hlt]
   have e3 : at? (y :: b) 0 = some y := rfl
   rw [e1, cond_false, e2, e3]
   refine ⟨decide ((x :: a)[(x :: a).length - 1].To < y.From), rfl, ?_⟩
   have hlast : (x :: a).getLast? = some (x :: a)[(x :: a).length - 1] := by rw [List.getLast?_eq_getElem?, List.getElem?_eq_getElem hlt]
   simp only [decide_eq_true_eq, Z2T, hlast, List.head?_cons, Option.some.injEq]
   exact ⟨fun h x' hx y' hy => by rw [← hx, ← hy]; exact h, fun h => h _ rfl _ rfl⟩

end Go.Dn

namespace Go.Dn
open Go

theorem Z8p (x y : Int) : Z0K x y = if x < y then -1 else if y < x then 1 else 0 := by
 unfold Z0K Zo
 simp only [bne_self_eq_false, cond_false, pickB, decide_eq_true_eq, gt_iff_lt, Bool.false_eq_true, if_false]

def Inc (l : List Granule) : Prop := ∀ (j k : Nat) (a b : Granule), j < k → l[j]? = some a → l[k]? = some b → a.Index < b.Index

theorem bsearch_eq {l : List Granule} {t : Int} (hl : l.length * 32 ≤ reachBytes) (hs : Inc l) : ∃ p : Nat, p ≤ l.length ∧ (∀ (k : Nat) (g : Granule), l[k]? = some g → (k < p ↔ g.Index < t)) ∧
  Z4 l t (fun z0 z1 => some (Z2W z0 z1)) = some ((p : Int), decide (∃ g, l[p]? = some g ∧ g.Index = t)) := by
 have hlen : (l.length : Int) < 4398046511104 * 4 := by have := Z1L; omega
 have hcmp : ∀ g i, Z2W g i = if g.Index < i then -1 else if i < g.Index then 1 else 0 := fun g i => Z8p _ _
 obtain ⟨r, h1, p, rfl, hp, hlow, hhigh⟩ := Z12 (step := Z4.s0 l t (fun z0 z1 => some (Z2W z0 z1)))
  (I := fun s => ∃ i j : Nat, s = ((i : Int), (j : Int)) ∧ i ≤ j ∧ j ≤ l.length ∧ (∀ k g, l[k]? = some g → k < i → g.Index < t) ∧ (∀ k g, l[k]? = some g → j ≤ k → t ≤ g.Index))
  (fun s => (s.2 - s.1).toNat)
  (fun r => ∃ p : Nat, r = (p : Int) ∧ p ≤ l.length ∧ (∀ k g, l[k]? = some g → k < p → g.Index < t) ∧ (∀ k g, l[k]? = some g → p ≤ k → t ≤ g.Index)) (by
  rintro s ⟨i, j, rfl, hij, hj, hlow, hhigh⟩
  unfold Z4.s0
  by_cases hlt : i < j
  ·have hm : w64 ((IntKind.u64.wrap (w64 ((i : Int) + j))).fdiv (2 ^ 1)) = ((i + j) / 2 : Nat) := by
    rw [Zx (x := (i : Int) + j) (by omega), Z4f, Int.fdiv_eq_ediv_of_nonneg _ (by decide), Zx (by omega)]
    omega
   have hml : (i + j) / 2 < l.length := by omega
   simp only [hm]
   rw [Zs (show (i : Int) < j by omega), cond_true, at?_nat hml]
   simp only [Option.bind_some, hcmp]
   refine .inl ?_
   have hget := List.getElem?_eq_getElem hml
   by_cases hc : l[(i + j) / 2].Index < t
   ·rw [if_pos hc]
    refine ⟨((((i + j) / 2 + 1 : Nat) : Int), (j : Int)), ?_, ⟨(i + j) / 2 + 1, j, rfl, by omega, hj, fun k g hk hki => ?_, hhigh⟩, by simp; omega⟩
    ·rw [Zx (by omega)]; simp
    ·rcases Nat.lt_or_ge k ((i + j) / 2) with h | h
     ·have := hs k _ g _ h hk hget; omega
     ·have : k = (i + j) / 2 := by omega
      subst this; rw [hget] at hk; cases hk; exact hc
   ·rw [if_neg hc]
    refine ⟨((i : Int), (((i + j) / 2 : Nat) : Int)), ?_, ⟨i, (i + j) / 2, rfl, by omega, by omega, hlow, fun k g hk hki => ?_⟩, by simp; omega⟩
    ·split <;> simp
    ·rcases Nat.lt_or_ge ((i + j) / 2) k with h | h
     ·have := hs _ k _ g h hget hk; omega
     ·have : k = (i + j) / 2 := by omega
      subst this; rw [hget] at hk; cases hk; omega
  ·refine .inr ⟨(i : Int), by rw [Z07 (show ¬ (i : Int) < j by omega)]; rfl, i, rfl, by omega, hlow, fun k g hk hki => hhigh k g hk (by omega)⟩) (0, (l.length : Int)) ⟨0, l.length, rfl, Nat.zero_le _, Nat.le_refl _, fun k g _ h => by omega, fun k g hk h => by
    rw [List.getElem?_eq_none h] at hk; cases hk⟩
 refine ⟨p, hp, fun k g hk => ⟨fun h => hlow k g hk h, fun h => ?_⟩, ?_⟩
 ·rcases Nat.lt_or_ge k p with h2 | h2
  ·exact h2
  ·have := hhigh k g hk h2; omega
 ·unfold Z4
  rw [h1]
  simp only [Option.bind_some]
  by_cases hlt : p < l.length
  ·rw [Zs (show (p : Int) < l.length by omega), cond_true, at?_nat hlt]
   simp only [Option.bind_some, hcmp, Option.some.injEq, Prod.mk.injEq, true_and]
   have := hhigh p _ (List.getElem?_eq_getElem hlt) (Nat.le_refl _)
   rw [List.getElem?_eq_getElem hlt]
   by_cases he : l[p].Index = t
   ·rw [if_neg (by omega), if_neg (by omega)]; simp [he]
   ·rw [if_neg (by omega), if_pos (by omega)]; simp [he]
  ·rw [Z07 (show ¬ (p : Int) < l.length by omega), cond_false]
   simp only [Option.bind_some, Option.some.injEq, Prod.mk.injEq, true_and]
   rw [List.getElem?_eq_none (by omega)]
   simp

structure Shape (f : Form) : Prop where
 count : f.Count = f.Core.length
 zero : f.Count = 0 ↔ f.Period = 0
 per : 0 ≤ f.Period ∧ f.Period ≤ 1099511627776
 core : ∀ l ∈ f.Core, RightL l
 odd : ∀ g ∈ f.Odd, RightL g.Ticks ∧ ZL g.Index
 inc : Inc f.Odd

structure Lim (f : Form) : Prop where
 core : f.Core.length * 24 ≤ reachBytes
 sets : ∀ l ∈ f.Core, Len l ∧ Sp64 l
 odd : f.Odd.length * 32 ≤ reachBytes
 ticks : ∀ g ∈ f.Odd, In64 g.Index ∧ Len g.Ticks ∧ Sp64 g.Ticks
 count : In64 f.Count
 period : In64 f.Period

theorem Form.lim {f : Form} (h : f.ok) : Lim f := by
 obtain ⟨h1, h2, h3, h4⟩ := h
 exact ⟨h3.1, fun l hl => okSpans (h3.2 l hl), h4.1, fun g hg => ⟨(h4.2 g hg).1, okSpans (h4.2 g hg).2⟩, h2, h1⟩

theorem Z45 {f : Form} (hl : Lim f) (hs : Inc f.Odd) (i : Int) : ∃ p : Nat, p ≤ f.Odd.length ∧ (∀ (k : Nat) (g : Granule), f.Odd[k]? = some g → (k < p ↔ g.Index < i)) ∧ Z3P f i = some ((p : Int), decide (∃ g, f.Odd[p]? = some g ∧ g.Index = i)) := by
 obtain ⟨p, h1, h2, h3⟩ := bsearch_eq (t := i) hl.odd hs
 exact ⟨p, h1, h2, by unfold Z3P; rw [h3]; rfl⟩

def Z2s (f : Form) (i : Int) : Prop := ∃ g ∈ f.Odd, g.Index = i
def Z1U (f : Form) (i : Int) : List Span := f.Core.getD (i % f.Count).toNat []
def Z3b (f : Form) (i : Int) : Int := i / f.Count * f.Period
open Classical in
noncomputable def Za (f : Form) (i : Int) : List Span := if h : Z2s f i then h.choose.Ticks else if f.Count = 0 then [] else (Z1U f i).map (Z0f (Z3b f i))

theorem Inc.uniq {l : List Granule} (h : Inc l) {a b : Granule} (ha : a ∈ l) (hb : b ∈ l) (he : a.Index = b.Index) : a = b := by
 obtain ⟨j, hj⟩ := List.getElem?_of_mem ha
 obtain ⟨k, hk⟩ := List.getElem?_of_mem hb
 rcases Nat.lt_trichotomy j k with hjk | rfl | hjk
 ·have := h j k a b hjk hj hk; omega
 ·rw [hj] at hk; cases hk; rfl
 ·have := h k j b a hjk hk hj; omega

theorem Z1l {f : Form} (hs : Inc f.Odd) {g : Granule} (hg : g ∈ f.Odd) : Za f g.Index = g.Ticks := by
 have h : Z2s f g.Index := ⟨g, hg, rfl⟩
 unfold Za
 rw [dif_pos h]
 rw [hs.uniq h.choose_spec.1 hg h.choose_spec.2]
theorem Z22 {f : Form} {i : Int} (h : ¬ Z2s f i) (h0 : f.Count = 0) : Za f i = [] := by unfold Za; rw [dif_neg h, if_pos h0]
theorem Z25 {f : Form} {i : Int} (h : ¬ Z2s f i) (h0 : f.Count ≠ 0) : Za f i = (Z1U f i).map (Z0f (Z3b f i)) := by unfold Za; rw [dif_neg h, if_neg h0]

theorem Z6q {f : Form} (hs : Shape f) (h0 : f.Count ≠ 0) : 0 < f.Count := by have := hs.count; omega
theorem Z1X {f : Form} (hs : Shape f) (h0 : f.Count ≠ 0) (i : Int) : at? f.Core (i % f.Count) = some (Z1U f i) ∧ Z1U f i ∈ f.Core := by
 have hp := Z6q hs h0
 have h1 := Int.emod_nonneg i h0
 have h2 := Int.emod_lt_of_pos i hp
 have h3 : (i % f.Count).toNat < f.Core.length := by have := hs.count; omega
 unfold Z1U
 rw [at?_lt h1 (by have := hs.count; omega), List.getD_eq_getElem?_getD, List.getElem?_eq_getElem h3]
 exact ⟨rfl, List.getElem_mem h3⟩

theorem Z6E {f : Form} (hl : Lim f) (hs : Shape f) {g : Granule} (hg : g ∈ f.Odd) : Z1n f g.Index = some (g.Ticks, 0, 0) := by
 obtain ⟨p, h1, h2, h3⟩ := Z45 hl hs.inc g.Index
 obtain ⟨k, hk⟩ := List.getElem?_of_mem hg
 have hkl := (List.getElem?_eq_some_iff.1 hk).1
 have hpk : p ≤ k := by
  rcases Nat.lt_or_ge k p with h | h
  ·have := (h2 k g hk).1 h; omega
  ·exact h
 have hpl : p < f.Odd.length := by omega
 have hpg := h2 p _ (List.getElem?_eq_getElem hpl)
 have : p = k := by
  rcases Nat.lt_or_ge p k with h | h
  ·have := hs.inc p k _ g h (List.getElem?_eq_getElem hpl) hk
   exact absurd (hpg.2 this) (Nat.lt_irrefl _)
  ·omega
 subst this
 unfold Z1n
 rw [h3]
 simp only [Option.bind_some]
 rw [Zs ⟨g, hk, rfl⟩, cond_true, at?_nat hpl]
 rw [List.getElem?_eq_getElem hpl] at hk
 cases hk; rfl

theorem Z5L {f : Form} (hl : Lim f) (hs : Shape f) {i : Int} (hi : In64 i) (ho : ¬ Z2s f i) : Z1n f i = if f.Count = 0 then some ([], 0, 0) else some (Z1U f i, (fitS (Z3b f i)).1, (fitS (Z3b f i)).2) := by
 obtain ⟨p, h1, h2, h3⟩ := Z45 hl hs.inc i
 unfold Z1n
 rw [h3]
 simp only [Option.bind_some]
 rw [Z07 (by rintro ⟨g, hg, he⟩; exact ho ⟨g, List.mem_of_getElem? hg, he⟩), cond_false]
 by_cases h0 : f.Count = 0
 ·rw [beq_t h0, cond_true, if_pos h0]
 ·rw [beq_f h0, cond_false, if_neg h0, Z60 hi hl.count, floorS_pos (Z6q hs h0)]
  simp only [Option.bind_some]
  rw [(Z1X hs h0 i).1]
  simp only [Option.bind_some]
  have hq : In64 (i / f.Count) := by
   have hp := Z6q hs h0
   unfold In64 at hi ⊢
   constructor
   ·have : -9223372036854775808 ≤ i / f.Count := by
     rw [Int.le_ediv_iff_mul_le hp]
     have : (-9223372036854775808) * f.Count ≤ -9223372036854775808 := by
      have : (-9223372036854775808) * f.Count ≤ (-9223372036854775808) * 1 := Int.mul_le_mul_of_nonpos_left (by omega) (by omega)
      omega
     omega
    exact this
   ·have : i / f.Count ≤ 9223372036854775807 := by
     rcases Int.lt_or_le i 0 with h | h
     ·have : i / f.Count < 0 := Int.ediv_neg_of_neg_of_pos h hp
      omega
     ·have := Int.ediv_le_self f.Count h
      omega
    exact this
  rw [safe_Mul_eq hq hl.period]
  rfl

def fits (f : Form) (i : Int) : Prop := ∀ s ∈ Za f i, ZL s.From ∧ ZL s.To

theorem shift0 (l : List Span) : l.map (Z0f 0) = l := by
 have : Z0f 0 = id := by funext s; simp [Z0f]
 rw [this, List.map_id]

theorem Z1M {f : Form} {i : Int} (ho : ¬ Z2s f i) (h0 : f.Count ≠ 0) : Za f i = [] ↔ Z1U f i = [] := by rw [Z25 ho h0, List.map_eq_nil_iff]

open Classical in
theorem Z48 {f : Form} (hl : Lim f) (hs : Shape f) {i : Int} (hi : In64 i) : Z09 f i = some (if ZL i ∧ fits f i then (Za f i, 0) else ([], 20)) := by
 unfold Z09
 rw [Z4o]
 by_cases ht : ZL i
 ·rw [Zs ht, Bool.not_true, cond_false]
  by_cases ho : Z2s f i
  ·obtain ⟨g, hg, rfl⟩ := ho
   have hset := Z1l hs.inc hg
   have hr := (hs.odd g hg).1
   have hf : fits f g.Index := by
    intro s hsm
    rw [hset] at hsm
    obtain ⟨k, hk⟩ := List.getElem?_of_mem hsm
    exact ⟨(hr.ok k s hk).1, (hr.ok k s hk).2.1⟩
   rw [Z6E hl hs hg, if_pos ⟨ht, hf⟩, hset]
   simp only [Option.bind_some]
   by_cases hn : g.Ticks = []
   ·rw [hn]; rfl
   ·have : ((g.Ticks.length : Int) == 0) = false := beq_f (by have := List.length_pos_iff.2 hn; omega)
    rw [this, cond_false]
    simp only [bne_self_eq_false, cond_false]
    rcases Z64 (b := 0) (hl.ticks g hg).2.1 hr.sp64 ⟨by decide, by decide⟩ with ⟨_, h2⟩ | ⟨h1, _⟩
    ·rw [h2, shift0]; rfl
    ·refine absurd (fun s hsm => ?_) h1
     rw [← hset] at hsm
     simpa using hf s hsm
  ·rw [Z5L hl hs hi ho]
   by_cases h0 : f.Count = 0
   ·rw [if_pos h0, if_pos ⟨ht, by intro s hsm; rw [Z22 ho h0] at hsm; cases hsm⟩, Z22 ho h0]; rfl
   ·rw [if_neg h0]
    simp only [Option.bind_some]
    by_cases hn : Z1U f i = []
    ·rw [if_pos ⟨ht, by intro s hsm; rw [(Z1M ho h0).2 hn] at hsm; cases hsm⟩, (Z1M ho h0).2 hn, hn]; rfl
    ·have : (((Z1U f i).length : Int) == 0) = false := beq_f (by have := List.length_pos_iff.2 hn; omega)
     rw [this, cond_false]
     have hmem := (Z1X hs h0 i).2
     have hr := hs.core _ hmem
     have hfe : fits f i ↔ ∀ s ∈ Z1U f i, ZL (s.From + Z3b f i) ∧ ZL (s.To + Z3b f i) := by
      unfold fits; rw [Z25 ho h0]
      constructor
      ·intro h s hsm; exact h (Z0f (Z3b f i) s) (List.mem_map.2 ⟨s, hsm, rfl⟩)
      ·intro h s hsm
       obtain ⟨s, hsm', rfl⟩ := List.mem_map.1 hsm
       exact h s hsm'
     rcases fit_or (Z3b f i) with ⟨q1, q2⟩ | ⟨q1, q2⟩ <;> rw [q2]
     ·simp only [bne_self_eq_false, cond_false]
      rcases Z64 (b := Z3b f i) (hl.sets _ hmem).1 hr.sp64 q1 with ⟨h1, h2⟩ | ⟨h1, h2⟩
      ·rw [h2, if_pos ⟨ht, hfe.2 h1⟩, Z25 ho h0]; rfl
      ·rw [h2, if_neg (fun h => h1 (hfe.1 h.2))]; rfl
     ·rw [if_neg]
      ·rfl
      ·rintro ⟨_, h⟩
       have h := hfe.1 h
       obtain ⟨s, hsm⟩ := List.exists_mem_of_ne_nil _ hn
       have h1 := (h s hsm).1
       obtain ⟨k, hk⟩ := List.getElem?_of_mem hsm
       have h2 := (hr.ok k s hk).1
       unfold ZL at h1 h2
       exact q1 (by unfold In64; omega)
 ·rw [Z07 ht, if_neg (fun h => ht h.1)]; rfl

open Classical in
theorem Z6m {f : Form} (hl : Lim f) (hs : Shape f) {i : Int} (hi : In64 i) : Z3B f i = some (decide (Za f i ≠ [])) := by
 unfold Z3B
 by_cases ho : Z2s f i
 ·obtain ⟨g, hg, rfl⟩ := ho
  rw [Z6E hl hs hg, Z1l hs.inc hg]
  simp only [Option.bind_some]
  cases g.Ticks <;> simp
 ·rw [Z5L hl hs hi ho]
  by_cases h0 : f.Count = 0
  ·rw [if_pos h0, Z22 ho h0]; rfl
  ·rw [if_neg h0]
   simp only [Option.bind_some, Ne, Z1M ho h0]
   cases Z1U f i <;> simp

end Go.Dn

namespace Go.Dn
open Go

theorem Z40 {α : Type} {l : List α} {b : Nat} (h : l.length * (b + 1) ≤ reachBytes) : (l.length : Int) < 4611686018427387904 := by
 have := Z1L
 have : l.length ≤ l.length * (b + 1) := Nat.le_mul_of_pos_right _ (by omega)
 omega

theorem Z7D {α : Type} {l : List α} {k : Nat} {x : α} (h : l[k]? = some x) : at? l (k : Int) = some x ∧ (k : Int) < l.length := by
 have hlt := (List.getElem?_eq_some_iff.1 h).1
 rw [List.getElem?_eq_getElem hlt] at h
 exact ⟨by rw [at?_nat hlt]; exact h, by omega⟩

theorem shape_core {f : Form} (hl : Lim f) : (ZM (Zc.s0 f) 0 = some (.go ()) ∧ ∀ l ∈ f.Core, RightL l) ∨ (ZM (Zc.s0 f) 0 = some (.ret false) ∧ ¬ ∀ l ∈ f.Core, RightL l) := by
 have hlen := Z40 (b := 23) hl.core
 rcases Z5K (l := f.Core) (step := Zc.s0 f) (fun _ x => RightL x) (no := .ret false) (yes := .go ()) (fun k x hk _ => by
   obtain ⟨h1, h2⟩ := Z7D hk
   obtain ⟨b, hb, hr⟩ := Z5N (hl.sets x (List.mem_of_getElem? hk)).1 (hl.sets x (List.mem_of_getElem? hk)).2
   unfold Zc.s0
   rw [Zs h2, cond_true, h1]
   simp only [Option.bind_some, hb, Zx (show -9223372036854775808 ≤ (k : Int) + 1 ∧ (k : Int) + 1 ≤ 9223372036854775807 by omega)]
   cases b
   ·exact .inr ⟨rfl, fun h => by have := hr.2 h; cases this⟩
   ·exact .inl ⟨rfl, hr.1 rfl⟩) (by unfold Zc.s0; rw [Z07 (by omega)]; rfl) with ⟨h1, h2⟩ | ⟨h1, h2⟩
 ·exact .inl ⟨h1, fun l hm => by obtain ⟨k, hk⟩ := List.getElem?_of_mem hm; exact h2 k l hk⟩
 ·exact .inr ⟨h1, fun h => h2 fun k x hk => h x (List.mem_of_getElem? hk)⟩

def goodOdd (f : Form) (k : Nat) (g : Granule) : Prop := RightL g.Ticks ∧ ZL g.Index ∧ ∀ p, k ≠ 0 → f.Odd[k - 1]? = some p → p.Index < g.Index

theorem shape_odd {f : Form} (hl : Lim f) : (ZM (Zc.s1 f) 0 = some (.go ()) ∧ ∀ k g, f.Odd[k]? = some g → goodOdd f k g) ∨ (ZM (Zc.s1 f) 0 = some (.ret false) ∧ ¬ ∀ k g, f.Odd[k]? = some g → goodOdd f k g) := by
 have hlen := Z40 (b := 31) hl.odd
 refine Z5K (l := f.Odd) (step := Zc.s1 f) (goodOdd f) (no := .ret false) (yes := .go ()) (fun k x hk _ => ?_) (by unfold Zc.s1; rw [Z07 (by omega)]; rfl)
 obtain ⟨h1, h2⟩ := Z7D hk
 have hx := hl.ticks x (List.mem_of_getElem? hk)
 obtain ⟨b, hb, hr⟩ := Z5N hx.2.1 hx.2.2
 unfold Zc.s1
 rw [Zs h2, cond_true, h1]
 simp only [Option.bind_some, hb, Z4o, Zx (show -9223372036854775808 ≤ (k : Int) + 1 ∧ (k : Int) + 1 ≤ 9223372036854775807 by omega)]
 by_cases hbt : b = true ∧ ZL x.Index
 ·rw [hbt.1, Zs hbt.2]
  simp only [Bool.not_true, Bool.or_self, cond_false]
  by_cases h0 : k = 0
  ·subst h0
   exact .inl ⟨by simp, hr.1 hbt.1, hbt.2, fun p h => absurd rfl h⟩
  ·have hpl : k - 1 < f.Odd.length := by omega
   rw [Zs (show (k : Int) > 0 by omega), cond_true, Zx (by omega), show (k : Int) - 1 = ((k - 1 : Nat) : Int) by omega, at?_nat hpl]
   simp only [Option.bind_some]
   by_cases hc : x.Index ≤ f.Odd[k - 1].Index
   ·rw [Zs hc]
    refine .inr ⟨rfl, fun h => ?_⟩
    have := h.2.2 _ h0 (List.getElem?_eq_getElem hpl); omega
   ·rw [Z07 hc]
    refine .inl ⟨rfl, hr.1 hbt.1, hbt.2, fun p _ hp => ?_⟩
    rw [List.getElem?_eq_getElem hpl] at hp; cases hp; omega
 ·have : (!b || !decide (ZL x.Index)) = true := by
   cases b
   ·rfl
   ·rw [Z07 (fun h => hbt ⟨rfl, h⟩)]; rfl
  rw [this, cond_true]
  exact .inr ⟨rfl, fun h => hbt ⟨hr.2 h.1, h.2.1⟩⟩

theorem inc_of {f : Form} (h : ∀ k g, f.Odd[k]? = some g → goodOdd f k g) : Inc f.Odd := by
 intro j k a b hjk ha hb
 induction k generalizing b with
 | zero => omega
 | succ k ih =>
  have hkl := (List.getElem?_eq_some_iff.1 hb).1
  have h1 := (h (k + 1) b hb).2.2 f.Odd[k] (by omega) (by simp [List.getElem?_eq_getElem (show k < f.Odd.length by omega)])
  rcases Nat.lt_or_ge j k with h2 | h2
  ·have := ih _ h2 (List.getElem?_eq_getElem (show k < f.Odd.length by omega)); omega
  ·have : j = k := by omega
   subst this
   rw [List.getElem?_eq_getElem (show j < f.Odd.length by omega)] at ha; cases ha; exact h1

theorem gran_shape_eq {f : Form} (hl : Lim f) : ∃ b, Zc f = some b ∧ (b = true ↔ Shape f) := by
 unfold Zc
 by_cases h1 : f.Count = f.Core.length ∧ (f.Count = 0 ↔ f.Period = 0) ∧ 0 ≤ f.Period ∧ f.Period ≤ 1099511627776
 ·have e : (f.Count != (f.Core.length : Int) || (f.Count == 0) != (f.Period == 0) || decide (f.Period < 0) || decide (f.Period > 1099511627776)) = false := by
   rw [bne_f h1.1, Z07 (show ¬ f.Period < 0 by omega), Z07 (show ¬ f.Period > 1099511627776 by omega)]
   simp only [Bool.false_or, Bool.or_false, bne_eq_false_iff_eq, ibeq, decide_eq_decide]
   exact h1.2.1
  rw [e, cond_false]
  rcases shape_core hl with ⟨h2, h3⟩ | ⟨h2, h3⟩
  ·rw [h2]
   simp only [Option.bind_some, Jx.elim]
   rcases shape_odd hl with ⟨h4, h5⟩ | ⟨h4, h5⟩
   ·rw [h4]
    exact ⟨true, rfl, fun _ => ⟨h1.1, h1.2.1, h1.2.2, h3, fun g hg => by obtain ⟨k, hk⟩ := List.getElem?_of_mem hg; exact ⟨(h5 k g hk).1, (h5 k g hk).2.1⟩, inc_of h5⟩, fun _ => rfl⟩
   ·rw [h4]
    refine ⟨false, rfl, fun h => (by cases h), fun h => absurd (fun k g hk => ⟨(h.odd g (List.mem_of_getElem? hk)).1, (h.odd g (List.mem_of_getElem? hk)).2, fun p h0 hp => h.inc (k - 1) k p g (by omega) hp hk⟩) h5⟩
  ·rw [h2]
   exact ⟨false, rfl, fun h => (by cases h), fun h => absurd h.core h3⟩
 ·have e : (f.Count != (f.Core.length : Int) || (f.Count == 0) != (f.Period == 0) || decide (f.Period < 0) || decide (f.Period > 1099511627776)) = true := by
   apply Classical.byContradiction
   intro hn
   simp only [Bool.not_eq_true, Bool.or_eq_false_iff, bne_eq_false_iff_eq, decide_eq_false_iff_not, ibeq, decide_eq_decide] at hn
   exact h1 ⟨hn.1.1.1, hn.1.1.2, by omega, by omega⟩
  rw [e, cond_true]
  exact ⟨false, rfl, fun h => (by cases h), fun h => absurd ⟨h.count, h.zero, h.per⟩ h1⟩

def fstT (l : List Span) : Int := (l.head?.map Span.From).getD 0
def lstT (l : List Span) : Int := (l.getLast?.map Span.To).getD 0

theorem Z8F {a b : List Span} (ha : a ≠ []) (hb : b ≠ []) : Z2T a b ↔ lstT a < fstT b := by
 unfold Z2T lstT fstT
 rw [List.getLast?_eq_some_getLast ha, List.head?_eq_some_head hb]
 simp

theorem RightL.tail {s : Span} {l : List Span} (h : RightL (s :: l)) : RightL l :=
 ⟨fun k x hk => h.ok (k + 1) x hk, fun k x y hx hy => h.gap (k + 1) x y hx hy⟩

theorem Z4v {l : List Span} (h : RightL l) (hn : l ≠ []) : fstT l ≤ lstT l := by
 induction l with
 | nil => exact absurd rfl hn
 | cons s l ih =>
  have h0 := h.ok 0 s rfl
  cases l with
  | nil => simp [fstT, lstT]; exact h0.2.2
  | cons t l =>
   have h1 := h.gap 0 s t rfl rfl
   have h2 := ih h.tail (by simp)
   have e1 : lstT (s :: t :: l) = lstT (t :: l) := by simp [lstT]
   have e2 : fstT (t :: l) = t.From := rfl
   have e3 : fstT (s :: t :: l) = s.From := rfl
   rw [e1, e3]; rw [e2] at h2; omega

theorem lst_tick {l : List Span} (h : RightL l) (hn : l ≠ []) : ZL (lstT l) ∧ ZL (fstT l) := by
 have h1 : l.getLast? = some (l.getLast hn) := List.getLast?_eq_some_getLast hn
 have h2 : l.head? = some (l.head hn) := List.head?_eq_some_head hn
 obtain ⟨j, hj⟩ := List.getElem?_of_mem (List.getLast_mem hn)
 obtain ⟨k, hk⟩ := List.getElem?_of_mem (List.head_mem hn)
 unfold lstT fstT
 rw [h1, h2]
 exact ⟨(h.ok j _ hj).2.1, (h.ok k _ hk).1⟩

def full (f : Form) : List (List Span) := f.Core.filter (fun l => decide (l.length > 0))
def Turns (f : Form) : Prop := (∀ (k : Nat) (a b : List Span), (full f)[k]? = some a → (full f)[k + 1]? = some b → lstT a < fstT b) ∧ ∀ a b, (full f).getLast? = some a → (full f).head? = some b → lstT a < fstT b + f.Period

theorem full_loop {f : Form} (hl : Lim f) : ZM (Zy.s0 f) (0, []) = some (full f) := by
 have hlen := Z40 (b := 23) hl.core
 refine Z37 (I := fun s r => r = full f ∧ ∃ k : Nat, k ≤ f.Core.length ∧ s = ((k : Int), (f.Core.take k).filter (fun l => decide (l.length > 0)))) (fun s => f.Core.length - s.1.toNat) ?_ ⟨rfl, 0, Nat.zero_le _, by simp⟩
 rintro s r ⟨rfl, k, hk, rfl⟩
 unfold Zy.s0
 by_cases hlt : k < f.Core.length
 ·have htake : f.Core.take (k + 1) = f.Core.take k ++ [f.Core[k]] := List.take_succ_eq_append_getElem hlt
  simp only
  rw [Zs (show (k : Int) < f.Core.length by omega), cond_true, at?_nat hlt, Zx (by omega)]
  simp only [Option.bind_some]
  refine .inl ?_
  have hfl : ((f.Core.take k).filter (fun l => decide (l.length > 0))).length ≤ k := Nat.le_trans (List.length_filter_le _ _) (by rw [List.length_take]; exact Nat.min_le_left _ _)
  by_cases hc : f.Core[k].length > 0
  ·rw [Zs (show ((f.Core[k].length : Int) > 0) by omega), cond_true, app?_ok (by have h1 := hl.core; rw [Z1L] at h1; rw [room_eq]; simp only [List.length_singleton]; omega)]
   exact ⟨_, rfl, ⟨trivial, k + 1, hlt, by rw [htake, List.filter_append]; simp [hc]⟩, by simp; omega⟩
  ·rw [Z07 (show ¬ ((f.Core[k].length : Int) > 0) by omega), cond_false]
   exact ⟨_, rfl, ⟨trivial, k + 1, hlt, by rw [htake, List.filter_append]; simp [hc]⟩, by simp; omega⟩
 ·have : k = f.Core.length := by omega
  subst this
  simp only
  rw [Z07 (show ¬ ((f.Core.length : Int) < f.Core.length) by omega), cond_false, List.take_length]
  exact .inr rfl

theorem gran_turns_eq {f : Form} (hl : Lim f) (hs : Shape f) : ∃ b, Zy f = some b ∧ (b = true ↔ Turns f) := by
 have hlen := Z40 (b := 23) hl.core
 have hfl : (full f).length ≤ f.Core.length := List.length_filter_le _ _
 have hmem : ∀ x ∈ full f, x ∈ f.Core ∧ x ≠ [] := fun x hx => by
  have := List.mem_filter.1 hx
  exact ⟨this.1, by rintro rfl; simp at this⟩
 unfold Zy
 rw [full_loop hl]
 simp only [Option.bind_some]
 rcases Z5K (l := full f) (step := Zy.s1 f (full f)) (fun k a => ∀ b, (full f)[(k + 1) % (full f).length]? = some b → lstT a < fstT b + (if k + 1 = (full f).length then f.Period else 0)) (no := .ret false) (yes := .go ()) (fun k a hk _ => by
   obtain ⟨h1, h2⟩ := Z7D hk
   have hkl : k < (full f).length := by omega
   have hmod : (k + 1) % (full f).length < (full f).length := Nat.mod_lt _ (by omega)
   have hnext : at? (full f) ((((k + 1) % (full f).length : Nat) : Int)) = some (full f)[(k + 1) % (full f).length] := at?_nat hmod
   obtain ⟨ha1, ha2⟩ := hmem a (List.mem_of_getElem? hk)
   obtain ⟨hb1, hb2⟩ := hmem _ (List.getElem_mem hmod)
   have hra := hs.core a ha1
   have hrb := hs.core _ hb1
   have hal : a.length - 1 < a.length := by have := List.length_pos_iff.2 ha2; omega
   have hlast : at? a (w64 ((a.length : Int) - 1)) = some a[a.length - 1] := by
    have := Z40 (b := 15) (hl.sets a ha1).1
    rw [Zx (by omega), show (a.length : Int) - 1 = ((a.length - 1 : Nat) : Int) by omega, at?_nat hal]
   have hlt : lstT a = a[a.length - 1].To := by unfold lstT; rw [List.getLast?_eq_getElem?, List.getElem?_eq_getElem hal]; rfl
   unfold Zy.s1
   rw [Zs h2, cond_true, h1, nz?_ok (by omega), Zx (x := (k : Int) + 1) (by omega)]
   have htm : ((k : Int) + 1).tmod ((full f).length : Int) = (((k + 1) % (full f).length : Nat) : Int) := by
    rw [Int.tmod_eq_emod_of_nonneg (by omega)]; push_cast; rfl
   simp only [Option.bind_some, htm, hnext, hlast]
   rw [List.getElem?_eq_getElem hmod]
   generalize (full f)[(k + 1) % (full f).length] = b at *
   have hb0 : at? b 0 = some (b.head hb2) := by
    cases b with
    | nil => exact absurd rfl hb2
    | cons y b => rfl
   have hbf : fstT b = (b.head hb2).From := by unfold fstT; rw [List.head?_eq_some_head hb2]; rfl
   have htick := (lst_tick hrb hb2).2
   unfold ZL at htick
   have hper := hs.per
   by_cases hl1 : k + 1 = (full f).length
   ·have e : ((k : Int) + 1 == ((full f).length : Int)) = true := beq_t (by omega)
    rw [e, cond_true]
    simp only [Option.bind_some, hb0, ← hbf, Zx (show -9223372036854775808 ≤ fstT b + f.Period ∧ fstT b + f.Period ≤ 9223372036854775807 by omega), ← hlt, if_pos hl1]
    by_cases hc : lstT a ≥ fstT b + f.Period
    ·rw [Zs hc]; exact .inr ⟨rfl, fun h => by have := h b rfl; omega⟩
    ·rw [Z07 hc]; exact .inl ⟨rfl, fun b' hb' => by cases hb'; omega⟩
   ·have e : ((k : Int) + 1 == ((full f).length : Int)) = false := beq_f (by omega)
    rw [e, cond_false]
    simp only [Option.bind_some, hb0, ← hbf, Zx (show -9223372036854775808 ≤ fstT b + 0 ∧ fstT b + 0 ≤ 9223372036854775807 by omega), ← hlt, if_neg hl1]
    by_cases hc : lstT a ≥ fstT b + 0
    ·rw [Zs hc]; exact .inr ⟨rfl, fun h => by have := h b rfl; omega⟩
    ·rw [Z07 hc]; exact .inl ⟨rfl, fun b' hb' => by cases hb'; omega⟩) (by unfold Zy.s1; rw [Z07 (by omega)]; rfl) with ⟨h1, h2⟩ | ⟨h1, h2⟩
 ·rw [h1]
  refine ⟨true, rfl, fun _ => ⟨fun k a b ha hb => ?_, fun a b ha hb => ?_⟩, fun _ => rfl⟩
  ·have hkl := (List.getElem?_eq_some_iff.1 hb).1
   have := h2 k a ha b (by rw [Nat.mod_eq_of_lt hkl]; exact hb)
   rw [if_neg (by omega)] at this; omega
  ·have hn : full f ≠ [] := by rintro e; rw [e] at ha; simp at ha
   have hpos := List.length_pos_iff.2 hn
   rw [List.getLast?_eq_getElem?] at ha
   have e1 : (full f).length - 1 + 1 = (full f).length := by omega
   have := h2 _ a ha b (by rw [e1, Nat.mod_self, ← List.head?_eq_getElem?]; exact hb)
   rw [if_pos e1] at this; exact this
 ·rw [h1]
  refine ⟨false, rfl, fun h => (by cases h), fun h => absurd (fun k a hk b hb => ?_) h2⟩
  have hkl := (List.getElem?_eq_some_iff.1 hk).1
  by_cases hl1 : k + 1 = (full f).length
  ·rw [if_pos hl1]
   rw [hl1, Nat.mod_self, ← List.head?_eq_getElem?] at hb
   exact h.2 a b (by rw [List.getLast?_eq_getElem?, ← hl1]; exact hk) hb
  ·rw [if_neg hl1]
   rw [Nat.mod_eq_of_lt (by omega)] at hb
   have := h.1 k a b hk hb; omega

end Go.Dn

namespace Go.Dn
open Go

theorem Z7z {l : List (List Span)} {p : List Span → Bool} (hl : l.length * 24 ≤ reachBytes) : ZU l (fun z => some (p z)) = some (decide (∃ x ∈ l, p x = true)) := by
 have hlen := Z40 (b := 23) hl
 unfold ZU ZE
 by_cases hall : ∀ (k : Nat) (x : List Span), l[k]? = some x → ¬ p x = true
 ·have : ZM (ZE.s0 l (fun z => some (p z))) 0 = some (.go ()) := by
   refine Z37 (I := fun (s : Int) r => r = .go () ∧ ∃ k : Nat, s = k ∧ k ≤ l.length) (fun s => l.length - s.toNat) ?_ ⟨rfl, 0, rfl, Nat.zero_le _⟩
   rintro s r ⟨rfl, k, rfl, hk⟩
   unfold ZE.s0
   by_cases hlt : k < l.length
   ·rw [Zs (show (k : Int) < l.length by omega), cond_true, at?_nat hlt, Zx (by omega)]
    have := hall k _ (List.getElem?_eq_getElem hlt)
    simp only [Option.bind_some, Bool.not_eq_true] at this ⊢
    rw [this]
    exact .inl ⟨_, rfl, ⟨trivial, k + 1, by push_cast; rfl, hlt⟩, by simp; omega⟩
   ·rw [Z07 (show ¬ (k : Int) < l.length by omega)]; exact .inr rfl
  rw [this, Z07 (by rintro ⟨x, hx, hp⟩; obtain ⟨k, hk⟩ := List.getElem?_of_mem hx; exact hall k x hk hp)]
  rfl
 ·obtain ⟨k0, x0, hx0, hb0, hg⟩ := Z7W (good := fun _ x => ¬ p x = true) hall
  have hb0 : p x0 = true := Classical.byContradiction hb0
  have hlt0 := (List.getElem?_eq_some_iff.1 hx0).1
  have : ZM (ZE.s0 l (fun z => some (p z))) 0 = some (.ret (k0 : Int)) := by
   refine Z37 (I := fun (s : Int) r => r = .ret (k0 : Int) ∧ ∃ k : Nat, s = k ∧ k ≤ k0) (fun s => l.length - s.toNat) ?_ ⟨rfl, 0, rfl, Nat.zero_le _⟩
   rintro s r ⟨rfl, k, rfl, hk⟩
   unfold ZE.s0
   have hkl : k < l.length := by omega
   rw [Zs (show (k : Int) < l.length by omega), cond_true, at?_nat hkl, Zx (by omega)]
   by_cases hlt : k < k0
   ·have := hg k _ hlt (List.getElem?_eq_getElem hkl)
    simp only [Option.bind_some, Bool.not_eq_true] at this ⊢
    rw [this]
    exact .inl ⟨_, rfl, ⟨trivial, k + 1, by push_cast; rfl, hlt⟩, by simp; omega⟩
   ·have : k = k0 := by omega
    subst this
    rw [List.getElem?_eq_getElem hkl] at hx0
    cases hx0
    simp only [Option.bind_some, hb0]
    exact .inr rfl
  rw [this, Zs ⟨x0, List.mem_of_getElem? hx0, hb0⟩]
  simp only [Option.bind_some, Jx.elim]
  rw [Zs (by omega)]

def Bare (f : Form) : Prop := ∀ l ∈ f.Core, l = []
theorem Z6i {f : Form} (hl : Lim f) : ∃ b, Z30 f = some b ∧ (b = true ↔ Bare f) := by
 unfold Z30
 rw [Z7z hl.core]
 refine ⟨_, rfl, ?_⟩
 simp only [Z3M, Bool.not_eq_true', decide_eq_false_iff_not, decide_eq_true_eq]
 constructor
 ·intro h l hm
  apply Classical.byContradiction
  intro hn
  exact h ⟨l, hm, by have := List.length_pos_iff.2 hn; omega⟩
 ·rintro h ⟨l, hm, hp⟩
  rw [h l hm] at hp; simp at hp

theorem Z4x {f : Form} (hs : Shape f) (hb : Bare f) {i : Int} (ho : ¬ Z2s f i) : Za f i = [] := by
 by_cases h0 : f.Count = 0
 ·exact Z22 ho h0
 ·exact (Z1M ho h0).2 (hb _ (Z1X hs h0 i).2)

def UpTo (f : Form) (i : Int) (r : Int × Bool) : Prop := (r.2 = true ∧ i ≤ r.1 ∧ ZL r.1 ∧ Za f r.1 ≠ [] ∧ ∀ k, i ≤ k → k < r.1 → Za f k = []) ∨ (r.2 = false ∧ r.1 = 0 ∧ ∀ k, i ≤ k → ZL k → Za f k = [])
def DownTo (f : Form) (i : Int) (r : Int × Bool) : Prop := (r.2 = true ∧ r.1 ≤ i ∧ ZL r.1 ∧ Za f r.1 ≠ [] ∧ ∀ k, k ≤ i → r.1 < k → Za f k = []) ∨ (r.2 = false ∧ r.1 = 0 ∧ ∀ k, k ≤ i → ZL k → Za f k = [])

theorem odd_split {f : Form} (hs : Shape f) {p : Nat} {i : Int} (hp : ∀ (k : Nat) (g : Granule), f.Odd[k]? = some g → (k < p ↔ g.Index < i)) {j : Int} (hj : Z2s f j) : ∃ (k : Nat) (g : Granule), f.Odd[k]? = some g ∧ g.Index = j ∧ (k < p ↔ j < i) := by
 obtain ⟨g, hg, rfl⟩ := hj
 obtain ⟨k, hk⟩ := List.getElem?_of_mem hg
 exact ⟨k, g, hk, rfl, hp k g hk⟩

theorem gran_step_up {f : Form} (hl : Lim f) (hs : Shape f) {i : Int} (hi : -1099511627776 ≤ i ∧ i ≤ 1099511627776) : ∃ r, Zl f i 1 = some r ∧ UpTo f i r := by
 have hi64 : In64 i := by unfold In64; omega
 obtain ⟨b, hb, hbb⟩ := Z6i hl
 have holen := Z40 (b := 31) hl.odd
 unfold Zl
 rw [hb]
 simp only [Option.bind_some]
 cases b with
 | true =>
  have hbare := hbb.1 rfl
  rw [cond_true]
  obtain ⟨p, h1, h2, h3⟩ := Z45 hl hs.inc i
  rw [h3]
  simp only [Option.bind_some, Z07 (show ¬ (1 : Int) < 0 by omega), Bool.false_and, cond_false]
  obtain ⟨r, hr, hpost⟩ := Z12 (step := Zl.s0 f 1) (I := fun (s : Int) => ∃ k : Nat, s = k ∧ p ≤ k ∧ k ≤ f.Odd.length ∧ ∀ (j : Nat) (g : Granule), f.Odd[j]? = some g → p ≤ j → j < k → g.Ticks = []) (fun s => f.Odd.length - s.toNat)
   (fun r => (∃ (k : Nat) (g : Granule), r = .ret (g.Index, true) ∧ f.Odd[k]? = some g ∧ p ≤ k ∧ g.Ticks ≠ [] ∧ ∀ (j : Nat) (g' : Granule), f.Odd[j]? = some g' → p ≤ j → j < k → g'.Ticks = []) ∨ (r = .go () ∧ ∀ (j : Nat) (g' : Granule), f.Odd[j]? = some g' → p ≤ j → g'.Ticks = [])) (by
   rintro s ⟨k, rfl, hpk, hk, hn⟩
   unfold Zl.s0
   by_cases hlt : k < f.Odd.length
   ·rw [Zs (show (k : Int) ≥ 0 by omega), Zs (show (k : Int) < f.Odd.length by omega), Bool.and_self, cond_true, at?_nat hlt, Zx (by omega)]
    simp only [Option.bind_some]
    have hget := List.getElem?_eq_getElem hlt
    by_cases hc : f.Odd[k].Ticks = []
    ·rw [hc]
     refine .inl ⟨(k : Int) + 1, rfl, ⟨k + 1, by push_cast; rfl, by omega, hlt, fun j g hj hpj hjk => ?_⟩, by simp; omega⟩
     rcases Nat.lt_or_ge j k with h | h
     ·exact hn j g hj hpj h
     ·have : j = k := by omega
      subst this; rw [hget] at hj; cases hj; exact hc
    ·rw [Zs (show ((f.Odd[k].Ticks.length : Int) > 0) by have := List.length_pos_iff.2 hc; omega), cond_true]
     exact .inr ⟨_, rfl, .inl ⟨k, _, rfl, hget, hpk, hc, hn⟩⟩
   ·rw [Z07 (show ¬ (k : Int) < f.Odd.length by omega), Bool.and_false, cond_false]
    refine .inr ⟨_, rfl, .inr ⟨rfl, fun j g hj hpj => hn j g hj hpj ?_⟩⟩
    have := (List.getElem?_eq_some_iff.1 hj).1; omega) (p : Int) ⟨p, rfl, Nat.le_refl _, h1, fun j g _ h h' => by omega⟩
  rw [hr]
  simp only [Option.bind_some]
  rcases hpost with ⟨k, g, rfl, hk, hpk, hne, hn⟩ | ⟨rfl, hn⟩
  ·have hset := Z1l hs.inc (List.mem_of_getElem? hk)
   have hgi : ¬ g.Index < i := fun h => by have := (h2 k g hk).2 h; omega
   refine ⟨_, rfl, .inl ⟨rfl, by simp only; omega, (hs.odd g (List.mem_of_getElem? hk)).2, by simp only; rw [hset]; exact hne, fun j hij hjg => ?_⟩⟩
   simp only at hjg
   by_cases ho : Z2s f j
   ·obtain ⟨k', g', hk', rfl, hiff⟩ := odd_split hs h2 ho
    rw [Z1l hs.inc (List.mem_of_getElem? hk')]
    refine hn k' g' hk' ?_ ?_
    ·rcases Nat.lt_or_ge k' p with h | h
     ·have := hiff.1 h; omega
     ·exact h
    ·rcases Nat.lt_or_ge k' k with h | h
     ·exact h
     ·rcases Nat.lt_or_ge k k' with h' | h'
      ·have := hs.inc k k' g g' h' hk hk'; omega
      ·have : k = k' := by omega
       subst this; rw [hk] at hk'; cases hk'; omega
   ·exact Z4x hs hbare ho
  ·refine ⟨_, rfl, .inr ⟨rfl, rfl, fun j hij _ => ?_⟩⟩
   by_cases ho : Z2s f j
   ·obtain ⟨k', g', hk', rfl, hiff⟩ := odd_split hs h2 ho
    rw [Z1l hs.inc (List.mem_of_getElem? hk')]
    refine hn k' g' hk' ?_
    rcases Nat.lt_or_ge k' p with h | h
    ·have := hiff.1 h; omega
    ·exact h
   ·exact Z4x hs hbare ho
 | false =>
  rw [cond_false]
  obtain ⟨r, hr, hpost⟩ := Z12 (step := Zl.s1 f 1) (I := fun (s : Int) => i ≤ s ∧ s ≤ 1099511627777 ∧ ∀ k, i ≤ k → k < s → Za f k = []) (fun s => (1099511627777 - s).toNat)
   (fun r => (∃ j, r = .ret (j, true) ∧ i ≤ j ∧ ZL j ∧ Za f j ≠ [] ∧ ∀ k, i ≤ k → k < j → Za f k = []) ∨ (r = .go () ∧ ∀ k, i ≤ k → ZL k → Za f k = [])) (by
   rintro s ⟨hs1, hs2, hn⟩
   unfold Zl.s1
   rw [Z4o]
   by_cases ht : ZL s
   ·rw [Zs ht, cond_true, Z6m hl hs (Z1o ht), Zx (by unfold ZL at ht; omega)]
    simp only [Option.bind_some]
    by_cases hc : Za f s = []
    ·rw [hc]
     refine .inl ⟨s + 1, by simp, ⟨by omega, by unfold ZL at ht; omega, fun k hk hks => ?_⟩, by unfold ZL at ht; omega⟩
     by_cases h : k = s
     ·rw [h]; exact hc
     ·exact hn k hk (by omega)
    ·rw [Zs hc, cond_true]
     exact .inr ⟨_, rfl, .inl ⟨s, rfl, hs1, ht, hc, hn⟩⟩
   ·rw [Z07 ht, cond_false]
    exact .inr ⟨_, rfl, .inr ⟨rfl, fun k hk htk => hn k hk (by unfold ZL at ht htk; omega)⟩⟩) i ⟨Int.le_refl _, by omega, fun k h h' => by omega⟩
  rw [hr]
  simp only [Option.bind_some]
  rcases hpost with ⟨j, rfl, h1, h2, h3, h4⟩ | ⟨rfl, hn⟩
  ·exact ⟨_, rfl, .inl ⟨rfl, h1, h2, h3, h4⟩⟩
  ·exact ⟨_, rfl, .inr ⟨rfl, rfl, hn⟩⟩

theorem Z8E {f : Form} (hl : Lim f) (hs : Shape f) {i : Int} (hi : -1099511627776 ≤ i ∧ i ≤ 1099511627776) : ∃ r, Zl f i (-1) = some r ∧ DownTo f i r := by
 have hi64 : In64 i := by unfold In64; omega
 obtain ⟨b, hb, hbb⟩ := Z6i hl
 have holen := Z40 (b := 31) hl.odd
 unfold Zl
 rw [hb]
 simp only [Option.bind_some]
 cases b with
 | true =>
  have hbare := hbb.1 rfl
  rw [cond_true]
  obtain ⟨p, h1, h2, h3⟩ := Z45 hl hs.inc i
  rw [h3]
  -- the number of exceptions up to the index
  obtain ⟨q, hq1, hq2, hq3⟩ : ∃ q : Nat, q ≤ f.Odd.length ∧ (∀ (k : Nat) (g : Granule), f.Odd[k]? = some g → (k < q ↔ g.Index ≤ i)) ∧ ((bif (decide ((-1 : Int) < 0) && !decide (∃ g, f.Odd[p]? = some g ∧ g.Index = i)) then some (w64 ((p : Int) - 1)) else some (p : Int)) : Option Int) = some ((q : Int) - 1) := by
   by_cases he : ∃ g, f.Odd[p]? = some g ∧ g.Index = i
   ·obtain ⟨g, hg, hgi⟩ := he
    have hpl := (List.getElem?_eq_some_iff.1 hg).1
    refine ⟨p + 1, by omega, fun k g' hk => ?_, by rw [Zs (p := ∃ g, f.Odd[p]? = some g ∧ g.Index = i) ⟨g, hg, hgi⟩]; simp⟩
    have := h2 k g' hk
    constructor
    ·intro h
     rcases Nat.lt_or_ge k p with h' | h'
     ·have := this.1 h'; omega
     ·have : k = p := by omega
      subst this; rw [hg] at hk; cases hk; omega
    ·intro h
     rcases Nat.lt_or_ge p k with h' | h'
     ·have := hs.inc p k g g' h' hg hk; omega
     ·omega
   ·refine ⟨p, h1, fun k g' hk => ?_, by rw [Z07 (p := ∃ g, f.Odd[p]? = some g ∧ g.Index = i) he, Zx (by omega)]; simp⟩
    have := h2 k g' hk
    constructor
    ·intro h; have := this.1 h; omega
    ·intro h
     by_cases hgi : g'.Index = i
     ·exfalso
      have hkp : ¬ k < p := fun h' => by have := this.1 h'; omega
      rcases Nat.lt_or_ge p k with h' | h'
      ·have hpl : p < f.Odd.length := by have := (List.getElem?_eq_some_iff.1 hk).1; omega
       have h5 := hs.inc p k _ g' h' (List.getElem?_eq_getElem hpl) hk
       have h6 := (h2 p _ (List.getElem?_eq_getElem hpl)).2 (by omega)
       omega
      ·have : k = p := by omega
       subst this
       exact he ⟨g', hk, hgi⟩
     ·exact this.2 (by omega)
  simp only [Option.bind_some]
  rw [hq3]
  simp only [Option.bind_some]
  obtain ⟨r, hr, hpost⟩ := Z12 (step := Zl.s0 f (-1)) (I := fun (s : Int) => ∃ k : Nat, s = (k : Int) - 1 ∧ k ≤ q ∧ ∀ (j : Nat) (g : Granule), f.Odd[j]? = some g → k ≤ j → j < q → g.Ticks = []) (fun s => (s + 1).toNat)
   (fun r => (∃ (k : Nat) (g : Granule), r = .ret (g.Index, true) ∧ f.Odd[k]? = some g ∧ k < q ∧ g.Ticks ≠ [] ∧ ∀ (j : Nat) (g' : Granule), f.Odd[j]? = some g' → k < j → j < q → g'.Ticks = []) ∨ (r = .go () ∧ ∀ (j : Nat) (g' : Granule), f.Odd[j]? = some g' → j < q → g'.Ticks = [])) (by
   rintro s ⟨k, rfl, hk, hn⟩
   unfold Zl.s0
   by_cases h0 : 0 < k
   ·have hlt : k - 1 < f.Odd.length := by omega
    rw [Zs (show (k : Int) - 1 ≥ 0 by omega), Zs (show (k : Int) - 1 < f.Odd.length by omega), Bool.and_self, cond_true, show (k : Int) - 1 = ((k - 1 : Nat) : Int) by omega, at?_nat hlt, Zx (by omega)]
    simp only [Option.bind_some]
    have hget := List.getElem?_eq_getElem hlt
    by_cases hc : f.Odd[k - 1].Ticks = []
    ·rw [hc]
     refine .inl ⟨((k - 1 : Nat) : Int) + -1, rfl, ⟨k - 1, by omega, by omega, fun j g hj hpj hjk => ?_⟩, by simp; omega⟩
     rcases Nat.lt_or_ge j k with h | h
     ·have : j = k - 1 := by omega
      subst this; rw [hget] at hj; cases hj; exact hc
     ·exact hn j g hj h hjk
    ·rw [Zs (show ((f.Odd[k - 1].Ticks.length : Int) > 0) by have := List.length_pos_iff.2 hc; omega), cond_true]
     exact .inr ⟨_, rfl, .inl ⟨k - 1, _, rfl, hget, by omega, hc, fun j g hj h1 h2 => hn j g hj (by omega) h2⟩⟩
   ·rw [Z07 (show ¬ (k : Int) - 1 ≥ 0 by omega), Bool.false_and, cond_false]
    exact .inr ⟨_, rfl, .inr ⟨rfl, fun j g hj hjq => hn j g hj (by omega) hjq⟩⟩) ((q : Int) - 1) ⟨q, rfl, Nat.le_refl _, fun j g _ h h' => by omega⟩
  rw [hr]
  simp only [Option.bind_some]
  rcases hpost with ⟨k, g, rfl, hk, hkq, hne, hn⟩ | ⟨rfl, hn⟩
  ·have hset := Z1l hs.inc (List.mem_of_getElem? hk)
   have hgi := (hq2 k g hk).1 hkq
   refine ⟨_, rfl, .inl ⟨rfl, hgi, (hs.odd g (List.mem_of_getElem? hk)).2, by simp only; rw [hset]; exact hne, fun j hij hjg => ?_⟩⟩
   simp only at hjg
   by_cases ho : Z2s f j
   ·obtain ⟨g', hg', rfl⟩ := ho
    obtain ⟨k', hk'⟩ := List.getElem?_of_mem hg'
    rw [Z1l hs.inc hg']
    refine hn k' g' hk' ?_ ((hq2 k' g' hk').2 hij)
    rcases Nat.lt_or_ge k k' with h | h
    ·exact h
    ·rcases Nat.lt_or_ge k' k with h' | h'
     ·have := hs.inc k' k g' g h' hk' hk; omega
     ·have : k = k' := by omega
      subst this; rw [hk] at hk'; cases hk'; omega
   ·exact Z4x hs hbare ho
  ·refine ⟨_, rfl, .inr ⟨rfl, rfl, fun j hij _ => ?_⟩⟩
   by_cases ho : Z2s f j
   ·obtain ⟨g', hg', rfl⟩ := ho
    obtain ⟨k', hk'⟩ := List.getElem?_of_mem hg'
    rw [Z1l hs.inc hg']
    exact hn k' g' hk' ((hq2 k' g' hk').2 hij)
   ·exact Z4x hs hbare ho
 | false =>
  rw [cond_false]
  obtain ⟨r, hr, hpost⟩ := Z12 (step := Zl.s1 f (-1)) (I := fun (s : Int) => s ≤ i ∧ -1099511627777 ≤ s ∧ ∀ k, k ≤ i → s < k → Za f k = []) (fun s => (s + 1099511627777).toNat)
   (fun r => (∃ j, r = .ret (j, true) ∧ j ≤ i ∧ ZL j ∧ Za f j ≠ [] ∧ ∀ k, k ≤ i → j < k → Za f k = []) ∨ (r = .go () ∧ ∀ k, k ≤ i → ZL k → Za f k = [])) (by
   rintro s ⟨hs1, hs2, hn⟩
   unfold Zl.s1
   rw [Z4o]
   by_cases ht : ZL s
   ·rw [Zs ht, cond_true, Z6m hl hs (Z1o ht), Zx (by unfold ZL at ht; omega)]
    simp only [Option.bind_some]
    by_cases hc : Za f s = []
    ·rw [hc]
     refine .inl ⟨s + -1, by simp, ⟨by omega, by unfold ZL at ht; omega, fun k hk hks => ?_⟩, by unfold ZL at ht; omega⟩
     by_cases h : k = s
     ·rw [h]; exact hc
     ·exact hn k hk (by omega)
    ·rw [Zs hc, cond_true]
     exact .inr ⟨_, rfl, .inl ⟨s, rfl, hs1, ht, hc, hn⟩⟩
   ·rw [Z07 ht, cond_false]
    exact .inr ⟨_, rfl, .inr ⟨rfl, fun k hk htk => hn k hk (by unfold ZL at ht htk; omega)⟩⟩) i ⟨Int.le_refl _, by omega, fun k h h' => by omega⟩
  rw [hr]
  simp only [Option.bind_some]
  rcases hpost with ⟨j, rfl, h1, h2, h3, h4⟩ | ⟨rfl, hn⟩
  ·exact ⟨_, rfl, .inl ⟨rfl, h1, h2, h3, h4⟩⟩
  ·exact ⟨_, rfl, .inr ⟨rfl, rfl, hn⟩⟩

def Above (f : Form) (i : Int) (r : Int × Bool) : Prop := (r.2 = true ∧ i < r.1 ∧ ZL r.1 ∧ Za f r.1 ≠ [] ∧ ∀ k, i < k → k < r.1 → ZL k → Za f k = []) ∨ (r.2 = false ∧ r.1 = 0 ∧ ∀ k, i < k → ZL k → Za f k = [])
def Under (f : Form) (i : Int) (r : Int × Bool) : Prop := (r.2 = true ∧ r.1 < i ∧ ZL r.1 ∧ Za f r.1 ≠ [] ∧ ∀ k, k < i → r.1 < k → ZL k → Za f k = []) ∨ (r.2 = false ∧ r.1 = 0 ∧ ∀ k, k < i → ZL k → Za f k = [])

theorem Z1z {f : Form} (hl : Lim f) (hs : Shape f) {i : Int} (hi : In64 i) : ∃ r, Z0l f i = some r ∧ Above f i r := by
 unfold Z0l
 by_cases h : i ≥ 1099511627776
 ·rw [Zs h, cond_true]
  exact ⟨_, rfl, .inr ⟨rfl, rfl, fun k hk ht => by unfold ZL at ht; omega⟩⟩
 ·rw [Z07 h, cond_false, Zx (by unfold In64 at hi; omega)]
  have hm : iMax (i + 1) (-1099511627776) = max (i + 1) (-1099511627776) := by unfold iMax; omega
  rw [hm]
  obtain ⟨r, h1, h2⟩ := gran_step_up hl hs (i := max (i + 1) (-1099511627776)) (by omega)
  rw [h1]
  refine ⟨r, rfl, ?_⟩
  rcases h2 with ⟨a, b, c, d, e⟩ | ⟨a, b, e⟩
  ·exact .inl ⟨a, by omega, c, d, fun k hk hkr ht => e k (by unfold ZL at ht; omega) hkr⟩
  ·exact .inr ⟨a, b, fun k hk ht => e k (by have := ht; unfold ZL at this; omega) ht⟩

theorem Z3p {f : Form} (hl : Lim f) (hs : Shape f) {i : Int} (hi : In64 i) : ∃ r, Z0u f i = some r ∧ Under f i r := by
 unfold Z0u
 by_cases h : i ≤ -1099511627776
 ·rw [Zs h, cond_true]
  exact ⟨_, rfl, .inr ⟨rfl, rfl, fun k hk ht => by unfold ZL at ht; omega⟩⟩
 ·rw [Z07 h, cond_false, Zx (by unfold In64 at hi; omega)]
  have hm : iMin (i - 1) 1099511627776 = min (i - 1) 1099511627776 := by unfold iMin; omega
  rw [hm]
  obtain ⟨r, h1, h2⟩ := Z8E hl hs (i := min (i - 1) 1099511627776) (by omega)
  rw [h1]
  refine ⟨r, rfl, ?_⟩
  rcases h2 with ⟨a, b, c, d, e⟩ | ⟨a, b, e⟩
  ·exact .inl ⟨a, by omega, c, d, fun k hk hkr ht => e k (by unfold ZL at ht; omega) hkr⟩
  ·exact .inr ⟨a, b, fun k hk ht => e k (by have := ht; unfold ZL at this; omega) ht⟩

end Go.Dn

namespace Go.Dn
open Go

def BesideR (f : Form) (i : Int) (lo hi : Int × Bool) : Prop :=
 fits f i ∧ (lo.2 = true → fits f lo.1 ∧ Z2T (Za f lo.1) (Za f i)) ∧ (hi.2 = true → fits f hi.1 ∧ Z2T (Za f i) (Za f hi.1)) ∧ (lo.2 = true → hi.2 = true → Z2T (Za f lo.1) (Za f hi.1))

theorem aheadL_nil_l (b : List Span) : Z2T [] b := by intro x hx; cases hx
theorem aheadL_nil_r (a : List Span) : Z2T a [] := by intro x _ y hy; cases hy

theorem Z7N {f : Form} (hl : Lim f) (hs : Shape f) (i : Int) : Len (Za f i) := by
 by_cases ho : Z2s f i
 ·obtain ⟨g, hg, rfl⟩ := ho
  rw [Z1l hs.inc hg]; exact (hl.ticks g hg).2.1
 ·by_cases h0 : f.Count = 0
  ·rw [Z22 ho h0]; unfold Len; simp
  ·rw [Z25 ho h0]; unfold Len; rw [List.length_map]; exact (hl.sets _ (Z1X hs h0 i).2).1

theorem Z5b {f : Form} (hs : Shape f) {i : Int} (hf : fits f i) : RightL (Za f i) := by
 by_cases ho : Z2s f i
 ·obtain ⟨g, hg, rfl⟩ := ho
  rw [Z1l hs.inc hg]; exact (hs.odd g hg).1
 ·by_cases h0 : f.Count = 0
  ·rw [Z22 ho h0]; exact ⟨by simp, by simp⟩
  ·unfold fits at hf
   rw [Z25 ho h0] at hf ⊢
   exact (hs.core _ (Z1X hs h0 i).2).shift fun s hs' => hf (Z0f (Z3b f i) s) (List.mem_map.2 ⟨s, hs', rfl⟩)

theorem near_l {c : Bool} {X S : List Span} : Z2T (if c = true then X else []) S ↔ (c = true → Z2T X S) := by
 cases c
 ·simp [aheadL_nil_l]
 ·simp
theorem near_r {c : Bool} {X S : List Span} : Z2T S (if c = true then X else []) ↔ (c = true → Z2T S X) := by
 cases c
 ·simp [aheadL_nil_r]
 ·simp

noncomputable def sideG (f : Form) (r : Int × Bool) : Option (Jx (List Span) Bool) :=
 (bif r.2 then (Z09 f r.1).bind fun x => (bif (x.2 != 0) then some (.ret false) else some (.go x.1)) else some (.go []))

open Classical in
theorem sideG_eq {f : Form} (hl : Lim f) (hs : Shape f) {r : Int × Bool} (ht : r.2 = true → ZL r.1) : (r.2 = true ∧ ¬ fits f r.1 ∧ sideG f r = some (.ret false)) ∨ ((r.2 = true → fits f r.1) ∧ sideG f r = some (.go (if r.2 = true then Za f r.1 else []))) := by
 obtain ⟨j, c⟩ := r
 unfold sideG
 cases c with
 | false => exact .inr ⟨by simp, by simp⟩
 | true =>
  simp only [cond_true]
  rw [Z48 hl hs (Z1o (ht rfl))]
  by_cases hfl : fits f j
  ·rw [if_pos ⟨ht rfl, hfl⟩]; exact .inr ⟨fun _ => hfl, by simp⟩
  ·rw [if_neg (fun h => hfl h.2)]; exact .inl ⟨trivial, hfl, rfl⟩

open Classical in
theorem Z8S {f : Form} (hl : Lim f) (hs : Shape f) {i : Int} (hi : ZL i) {lo hi' : Int × Bool} (hlo : Z0u f i = some lo) (hhi : Z0l f i = some hi') (tlo : lo.2 = true → ZL lo.1) (thi : hi'.2 = true → ZL hi'.1) :
  ∃ b, Z14 f i = some b ∧ (b = true ↔ BesideR f i lo hi') := by
 have e : Z14 f i = (Z09 f i).bind fun x1 => (bif (x1.2 != 0) then some false else (sideG f lo).bind fun y1 => y1.elim (fun r' => some r') fun a2 => (sideG f hi').bind fun y2 => y2.elim (fun r' => some r') fun a4 =>
   (Z0P a2 x1.1).bind fun x6 => ((bif x6 then (Z0P x1.1 a4).bind fun x7 => some x7 else some false)).bind fun y3 => ((bif y3 then (Z0P a2 a4).bind fun x8 => some x8 else some false)).bind fun y4 => some y4) := by
  unfold Z14 sideG
  rw [hlo, hhi]
  simp only [Option.bind_some]
 rw [e, Z48 hl hs (Z1o hi)]
 clear e
 by_cases hf : fits f i
 ·rw [if_pos ⟨hi, hf⟩]
  simp only [Option.bind_some, bne_self_eq_false, cond_false]
  rcases sideG_eq hl hs tlo with ⟨h1, h2, h0⟩ | ⟨h1, h0⟩
  ·rw [h0]
   exact ⟨false, rfl, fun h => (by cases h), fun h => absurd (h.2.1 h1).1 h2⟩
  ·rw [h0]
   simp only [Option.bind_some, Jx.elim]
   rcases sideG_eq hl hs thi with ⟨h3, h4, h0'⟩ | ⟨h3, h0'⟩
   ·rw [h0']
    exact ⟨false, rfl, fun h => (by cases h), fun h => absurd (h.2.2.1 h3).1 h4⟩
   ·rw [h0']
    simp only [Option.bind_some]
    have lenA : Len (if lo.2 = true then Za f lo.1 else []) := by
     by_cases hc : lo.2 = true
     ·rw [if_pos hc]; exact Z7N hl hs _
     ·rw [if_neg hc]; unfold Len; simp
    generalize hA : (if lo.2 = true then Za f lo.1 else []) = A at lenA
    generalize hB : (if hi'.2 = true then Za f hi'.1 else []) = B
    obtain ⟨r1, q1, p1⟩ := Z3s (b := Za f i) lenA
    obtain ⟨r2, q2, p2⟩ := Z3s (a := Za f i) (b := B) (Z7N hl hs i)
    obtain ⟨r3, q3, p3⟩ := Z3s (b := B) lenA
    rw [q1, q2, q3]
    subst hA hB
    rw [near_l] at p1
    rw [near_r] at p2
    rw [near_l, near_r] at p3
    refine ⟨r1 && r2 && r3, by cases r1 <;> cases r2 <;> rfl, ?_⟩
    rw [Bool.and_eq_true, Bool.and_eq_true, p1, p2, p3]
    constructor
    ·rintro ⟨⟨a, b⟩, c⟩
     exact ⟨hf, fun h => ⟨h1 h, a h⟩, fun h => ⟨h3 h, b h⟩, c⟩
    ·rintro ⟨_, a, b, c⟩
     exact ⟨⟨fun h => (a h).2, fun h => (b h).2⟩, c⟩
 ·rw [if_neg (fun h => hf h.2)]
  exact ⟨false, rfl, fun h => (by cases h), fun h => absurd h.1 hf⟩

def Beside (f : Form) (i : Int) : Prop := ∀ lo hi, Under f i lo → Above f i hi → BesideR f i lo hi

theorem Under.uniq {f : Form} {i : Int} {r r' : Int × Bool} (h : Under f i r) (h' : Under f i r') : r = r' := by
 obtain ⟨a, b⟩ := r
 obtain ⟨a', b'⟩ := r'
 rcases h with ⟨rfl, h1, h2, h3, h4⟩ | ⟨rfl, rfl, h4⟩ <;> rcases h' with ⟨rfl, k1, k2, k3, k4⟩ | ⟨rfl, rfl, k4⟩
 ·simp only at *
  rcases Int.lt_trichotomy a a' with h | h | h
  ·exact absurd (h4 a' k1 h k2) k3
  ·rw [h]
  ·exact absurd (k4 a h1 h h2) h3
 ·exact absurd (k4 a h1 h2) h3
 ·exact absurd (h4 a' k1 k2) k3
 ·rfl
theorem Above.uniq {f : Form} {i : Int} {r r' : Int × Bool} (h : Above f i r) (h' : Above f i r') : r = r' := by
 obtain ⟨a, b⟩ := r
 obtain ⟨a', b'⟩ := r'
 rcases h with ⟨rfl, h1, h2, h3, h4⟩ | ⟨rfl, rfl, h4⟩ <;> rcases h' with ⟨rfl, k1, k2, k3, k4⟩ | ⟨rfl, rfl, k4⟩
 ·simp only at *
  rcases Int.lt_trichotomy a a' with h | h | h
  ·exact absurd (k4 a h1 h h2) h3
  ·rw [h]
  ·exact absurd (h4 a' k1 h k2) k3
 ·exact absurd (k4 a h1 h2) h3
 ·exact absurd (h4 a' k1 k2) k3
 ·rfl

theorem Z7x {f : Form} (hl : Lim f) (hs : Shape f) {i : Int} (hi : ZL i) : ∃ b, Z14 f i = some b ∧ (b = true ↔ Beside f i) := by
 obtain ⟨lo, h1, h2⟩ := Z3p hl hs (Z1o hi)
 obtain ⟨hi', h3, h4⟩ := Z1z hl hs (Z1o hi)
 obtain ⟨b, h5, h6⟩ := Z8S hl hs hi h1 h3 (fun h => by rcases h2 with ⟨_, _, h, _⟩ | ⟨h', _⟩ <;> simp_all) (fun h => by rcases h4 with ⟨_, _, h, _⟩ | ⟨h', _⟩ <;> simp_all)
 refine ⟨b, h5, h6.trans ⟨fun h lo' hi'' q1 q2 => ?_, fun h => h lo hi' h2 h4⟩⟩
 rw [q1.uniq h2, q2.uniq h4]; exact h

def sizeF (f : Form) : Nat := (f.Core.map List.length).sum + (f.Odd.map (·.Ticks.length)).sum

theorem sum_take {α : Type} (g : α → Nat) {l : List α} {k : Nat} (h : k < l.length) : ((l.take (k + 1)).map g).sum = ((l.take k).map g).sum + g l[k] := by
 rw [List.take_succ_eq_append_getElem h, List.map_append, List.sum_append]; simp

theorem Z76 {f : Form} (hl : Lim f) (hc : f.Core.length ≤ 6000) (ho : f.Odd.length ≤ 6000) : Zq f = some (sizeF f : Int) := by
 have hr := Z1L
 have lenC : ∀ l ∈ f.Core, l.length ≤ 8796093022207 := fun l hm => by have := (hl.sets l hm).1; unfold Len at this; omega
 have lenO : ∀ g ∈ f.Odd, g.Ticks.length ≤ 8796093022207 := fun l hm => by have := (hl.ticks l hm).2.1; unfold Len at this; omega
 obtain ⟨a, h1, h2, h3⟩ := fold_loop (l := f.Core) (step := Zq.s0 f) (f := fun a _ x => a + (x.length : Int)) (fin := id) (a0 := (0 : Int)) (fun k a => a = ((((f.Core.take k).map List.length).sum : Nat) : Int) ∧ a ≤ k * 8796093022207) ⟨by simp, by simp⟩ (fun k x a hk ⟨ha, hb⟩ => by
   obtain ⟨q1, q2⟩ := Z7D hk
   have hx := lenC x (List.mem_of_getElem? hk)
   have hkl : k < f.Core.length := by omega
   have h0 : 0 ≤ a := by rw [ha]; omega
   unfold Zq.s0
   simp only
   rw [Zs q2, cond_true, q1, Zx (x := (k : Int) + 1) (by omega)]
   simp only [Option.bind_some]
   rw [Zx (x := a + (x.length : Int)) (by omega)]
   refine ⟨rfl, ?_, by push_cast; omega⟩
   rw [sum_take _ hkl]
   rw [List.getElem?_eq_getElem hkl] at hk
   cases hk; rw [ha]; push_cast; rfl) (fun a _ => by unfold Zq.s0; simp only; rw [Z07 (by omega)]; rfl)
 rw [List.take_length] at h2
 obtain ⟨b, h4, h5, h6⟩ := fold_loop (l := f.Odd) (step := Zq.s1 f) (f := fun a _ x => a + (x.Ticks.length : Int)) (fin := id) (a0 := a) (fun k b => b = a + ((((f.Odd.take k).map (·.Ticks.length)).sum : Nat) : Int) ∧ b ≤ a + k * 8796093022207) ⟨by simp, by simp⟩ (fun k x b hk ⟨ha, hb⟩ => by
   obtain ⟨q1, q2⟩ := Z7D hk
   have hx := lenO x (List.mem_of_getElem? hk)
   have hkl : k < f.Odd.length := by omega
   have h0 : 0 ≤ b := by rw [ha, h2]; omega
   unfold Zq.s1
   simp only
   rw [Zs q2, cond_true, q1, Zx (x := (k : Int) + 1) (by omega)]
   simp only [Option.bind_some]
   rw [Zx (x := b + (x.Ticks.length : Int)) (by omega)]
   refine ⟨rfl, ?_, by push_cast; omega⟩
   rw [sum_take _ hkl]
   rw [List.getElem?_eq_getElem hkl] at hk
   cases hk; rw [ha]; push_cast; omega) (fun a _ => by unfold Zq.s1; simp only; rw [Z07 (by omega)]; rfl)
 rw [List.take_length] at h5
 unfold Zq
 rw [h1]
 simp only [Option.bind_some, id]
 rw [h4]
 simp only [Option.bind_some, id, h5, h2, sizeF]
 push_cast; rfl

structure RightF (f : Form) : Prop where
 shape : Shape f
 turns : Turns f
 beside : ∀ g ∈ f.Odd, Beside f g.Index
def LongF (f : Form) : Prop := 6000 < f.Core.length ∨ 6000 < f.Odd.length ∨ 60000 < sizeF f

theorem gran_Right_eq {f : Form} (hl : Lim f) : (LongF f ∧ Zm f = some 3) ∨ (¬ LongF f ∧ RightF f ∧ Zm f = some 0) ∨ (¬ LongF f ∧ ¬ RightF f ∧ Zm f = some 50) := by
 have holen := Z40 (b := 31) hl.odd
 unfold Zm
 by_cases h1 : 6000 < f.Core.length ∨ 6000 < f.Odd.length
 ·have e : (decide ((f.Core.length : Int) > 6000) || decide ((f.Odd.length : Int) > 6000)) = true := by
   rcases h1 with h | h
   ·rw [Zs (show (f.Core.length : Int) > 6000 by omega)]; rfl
   ·rw [Zs (show (f.Odd.length : Int) > 6000 by omega)]; simp
  rw [e]
  exact .inl ⟨h1.elim .inl (fun h => .inr (.inl h)), rfl⟩
 ·have e : (decide ((f.Core.length : Int) > 6000) || decide ((f.Odd.length : Int) > 6000)) = false := by
   rw [Z07 (show ¬ (f.Core.length : Int) > 6000 by omega), Z07 (show ¬ (f.Odd.length : Int) > 6000 by omega)]; rfl
  rw [e, cond_false, Z76 hl (by omega) (by omega)]
  simp only [Option.bind_some]
  by_cases h2 : 60000 < sizeF f
  ·rw [Zs (show (sizeF f : Int) > 60000 by omega)]
   exact .inl ⟨.inr (.inr h2), rfl⟩
  ·have hnl : ¬ LongF f := by unfold LongF; omega
   rw [Z07 (show ¬ (sizeF f : Int) > 60000 by omega), cond_false]
   obtain ⟨b, hb, hbs⟩ := gran_shape_eq hl
   rw [hb]
   simp only [Option.bind_some]
   refine .inr ?_
   cases b with
   | false => exact .inr ⟨hnl, fun h => (by have := hbs.2 h.shape; cases this), rfl⟩
   | true =>
    have hs := hbs.1 rfl
    obtain ⟨c, hc, hct⟩ := gran_turns_eq hl hs
    rw [hc]
    simp only [Option.bind_some, Bool.not_true, cond_false]
    cases c with
    | false => exact .inr ⟨hnl, fun h => (by have := hct.2 h.turns; cases this), rfl⟩
    | true =>
     simp only [Bool.not_true, cond_false]
     rcases Z5K (l := f.Odd) (step := Zm.s0 f) (fun _ g => Beside f g.Index) (no := .ret 50) (yes := .go ()) (fun k g hk _ => by
       obtain ⟨q1, q2⟩ := Z7D hk
       obtain ⟨b, hb, hbb⟩ := Z7x hl hs (hs.odd g (List.mem_of_getElem? hk)).2
       unfold Zm.s0
       rw [Zs q2, cond_true, q1, Zx (by omega)]
       simp only [Option.bind_some, hb]
       cases b
       ·exact .inr ⟨rfl, fun h => by have := hbb.2 h; cases this⟩
       ·exact .inl ⟨rfl, hbb.1 rfl⟩) (by unfold Zm.s0; rw [Z07 (by omega)]; rfl) with ⟨q1, q2⟩ | ⟨q1, q2⟩
     ·rw [q1]
      exact .inl ⟨hnl, ⟨hs, hct.1 rfl, fun g hg => by obtain ⟨k, hk⟩ := List.getElem?_of_mem hg; exact q2 k g hk⟩, rfl⟩
     ·rw [q1]
      exact .inr ⟨hnl, fun h => q2 fun k g hk => h.beside g (List.mem_of_getElem? hk), rfl⟩

def SmallF (f : Form) : Prop := f.Core.length ≤ 12 ∧ f.Odd.length ≤ 8 ∧ sizeF f ≤ 60
theorem Z5s {f : Form} (hl : Lim f) : ∃ b, Z0M f = some b ∧ (b = true ↔ SmallF f) := by
 unfold Z0M
 by_cases h : f.Core.length ≤ 12 ∧ f.Odd.length ≤ 8
 ·rw [Zs (show (f.Core.length : Int) ≤ 12 by omega), Zs (show (f.Odd.length : Int) ≤ 8 by omega), Z76 hl (by omega) (by omega)]
  refine ⟨decide ((sizeF f : Int) ≤ 60), rfl, ?_⟩
  rw [decide_eq_true_iff]
  exact ⟨fun h' => ⟨h.1, h.2, by omega⟩, fun h' => by have := h'.2.2; omega⟩
 ·have e : (decide ((f.Core.length : Int) ≤ 12) && decide ((f.Odd.length : Int) ≤ 8)) = false := by
   by_cases h1 : f.Core.length ≤ 12
   ·rw [Z07 (show ¬ (f.Odd.length : Int) ≤ 8 by omega)]; simp
   ·rw [Z07 (show ¬ (f.Core.length : Int) ≤ 12 by omega)]; rfl
  rw [e]
  exact ⟨false, rfl, fun h => (by cases h), fun h' => absurd ⟨h'.1, h'.2.1⟩ h⟩

end Go.Dn

namespace Go.Dn
open Go

theorem Z4Z {f : Form} {l : List Span} : l ∈ full f ↔ l ∈ f.Core ∧ l ≠ [] := by
 unfold full
 rw [List.mem_filter, decide_eq_true_iff, gt_iff_lt, List.length_pos_iff]

theorem full_pair {f : Form} (hs : Shape f) (ht : Turns f) : (full f).Pairwise (fun a b => lstT a < fstT b) := by
 have hm : ∀ x ∈ full f, fstT x ≤ lstT x := fun x hx => Z4v (hs.core x (Z4Z.1 hx).1) (Z4Z.1 hx).2
 have h1 := ht.1
 generalize full f = l at hm h1
 induction l with
 | nil => exact .nil
 | cons x l ih =>
  have ih := ih (fun y hy => hm y (List.mem_cons_of_mem _ hy)) (fun k a b ha hb => h1 (k + 1) a b ha hb)
  refine List.pairwise_cons.2 ⟨fun y hy => ?_, ih⟩
  cases l with
  | nil => cases hy
  | cons z l =>
   have hxz := h1 0 x z rfl rfl
   rcases List.mem_cons.1 hy with rfl | hy
   ·exact hxz
   ·have := (List.pairwise_cons.1 ih).1 y hy
    have := hm z (by simp)
    omega

theorem core_pair {f : Form} (hs : Shape f) (ht : Turns f) {j k : Nat} {a b : List Span} (hjk : j < k) (ha : f.Core[j]? = some a) (hb : f.Core[k]? = some b) (na : a ≠ []) (nb : b ≠ []) : lstT a < fstT b := by
 have h := full_pair hs ht
 unfold full at h
 rw [List.pairwise_filter] at h
 have hj := (List.getElem?_eq_some_iff.1 ha)
 have hk := (List.getElem?_eq_some_iff.1 hb)
 obtain ⟨hj, rfl⟩ := hj
 obtain ⟨hk, rfl⟩ := hk
 exact List.pairwise_iff_getElem.1 h j k hj hk hjk (by rw [decide_eq_true_iff]; exact List.length_pos_iff.2 na) (by rw [decide_eq_true_iff]; exact List.length_pos_iff.2 nb)

theorem core_turn {f : Form} (hs : Shape f) (ht : Turns f) {a b : List Span} (ha : a ∈ f.Core) (hb : b ∈ f.Core) (na : a ≠ []) (nb : b ≠ []) : lstT a < fstT b + f.Period := by
 have hA := Z4Z.2 ⟨ha, na⟩
 have hB := Z4Z.2 ⟨hb, nb⟩
 have hm : ∀ x ∈ full f, fstT x ≤ lstT x := fun x hx => Z4v (hs.core x (Z4Z.1 hx).1) (Z4Z.1 hx).2
 have hn : full f ≠ [] := List.ne_nil_of_mem hA
 have hlast := List.getLast?_eq_some_getLast hn
 have hhead := List.head?_eq_some_head hn
 have h2 := ht.2 _ _ hlast hhead
 have hp := full_pair hs ht
 have e1 : lstT a ≤ lstT ((full f).getLast hn) := by
  obtain ⟨j, hj⟩ := List.getElem?_of_mem hA
  obtain ⟨hjl, hj⟩ := List.getElem?_eq_some_iff.1 hj
  by_cases hc : j = (full f).length - 1
  ·subst hc
   rw [List.getLast_eq_getElem, hj]
   exact Int.le_refl _
  ·have := List.pairwise_iff_getElem.1 hp j ((full f).length - 1) hjl (by omega) (by omega)
   rw [hj] at this
   have h5 := hm _ (List.getLast_mem hn)
   rw [List.getLast_eq_getElem] at h5 ⊢
   omega
 have e2 : fstT ((full f).head hn) ≤ fstT b := by
  obtain ⟨j, hj⟩ := List.getElem?_of_mem hB
  obtain ⟨hjl, hj⟩ := List.getElem?_eq_some_iff.1 hj
  have hh : (full f).head hn = (full f)[0]'(by omega) := List.head_eq_getElem hn
  by_cases hc : j = 0
  ·subst hc
   rw [hh, hj]
   exact Int.le_refl _
  ·have := List.pairwise_iff_getElem.1 hp 0 j (by omega) hjl (by omega)
   rw [hj, ← hh] at this
   have h5 := hm _ (List.head_mem hn)
   omega
 omega

theorem Z8g {f : Form} (hs : Shape f) (h0 : f.Count ≠ 0) (i : Int) : f.Core[(i % f.Count).toNat]? = some (Z1U f i) := by
 have := (Z1X hs h0 i).1
 unfold at? at this
 rwa [if_pos (Int.emod_nonneg i h0)] at this

theorem core_order {f : Form} (hs : Shape f) (ht : Turns f) (h0 : f.Count ≠ 0) {i k : Int} (hik : i < k) (ni : Z1U f i ≠ []) (nk : Z1U f k ≠ []) : lstT (Z1U f i) + Z3b f i < fstT (Z1U f k) + Z3b f k := by
 have hp := Z6q hs h0
 have di := Int.emod_add_mul_ediv i f.Count
 have dk := Int.emod_add_mul_ediv k f.Count
 have mi := Int.emod_nonneg i h0
 have mk := Int.emod_nonneg k h0
 have li := Int.emod_lt_of_pos i hp
 have lk := Int.emod_lt_of_pos k hp
 have hq : i / f.Count ≤ k / f.Count := Int.ediv_le_ediv hp (by omega)
 unfold Z3b
 rcases Int.lt_or_eq_of_le hq with h | h
 ·have h1 := core_turn hs ht (Z1X hs h0 i).2 (Z1X hs h0 k).2 ni nk
  have h2 : (i / f.Count + 1) * f.Period ≤ k / f.Count * f.Period := Int.mul_le_mul_of_nonneg_right (by omega) hs.per.1
  rw [Int.add_mul, Int.one_mul] at h2
  omega
 ·rw [h] at di ⊢
  have : i % f.Count < k % f.Count := by omega
  have h1 := core_pair hs ht (j := (i % f.Count).toNat) (k := (k % f.Count).toNat) (by omega) (Z8g hs h0 i) (Z8g hs h0 k) ni nk
  omega

theorem lst_shift {l : List Span} (d : Int) (hn : l ≠ []) : lstT (l.map (Z0f d)) = lstT l + d ∧ fstT (l.map (Z0f d)) = fstT l + d := by
 unfold lstT fstT
 rw [List.getLast?_map, List.head?_map, List.getLast?_eq_some_getLast hn, List.head?_eq_some_head hn]
 exact ⟨rfl, rfl⟩

theorem under_some {f : Form} (hl : Lim f) (hs : Shape f) {i k : Int} (hk : In64 k) (hik : i < k) (ti : ZL i) (ni : Za f i ≠ []) : ∃ j, Under f k (j, true) ∧ i ≤ j := by
 obtain ⟨r, _, h⟩ := Z3p hl hs hk
 obtain ⟨j, b⟩ := r
 have h' := h
 rcases h with ⟨rfl, h1, h2, h3, h4⟩ | ⟨rfl, _, h4⟩
 ·refine ⟨j, h', ?_⟩
  apply Classical.byContradiction
  intro hc
  exact ni (h4 i hik (by simp only; omega) ti)
 ·exact absurd (h4 i hik ti) ni
theorem above_some {f : Form} (hl : Lim f) (hs : Shape f) {i k : Int} (hk : In64 k) (hik : k < i) (ti : ZL i) (ni : Za f i ≠ []) : ∃ j, Above f k (j, true) ∧ j ≤ i := by
 obtain ⟨r, _, h⟩ := Z1z hl hs hk
 obtain ⟨j, b⟩ := r
 have h' := h
 rcases h with ⟨rfl, h1, h2, h3, h4⟩ | ⟨rfl, _, h4⟩
 ·refine ⟨j, h', ?_⟩
  apply Classical.byContradiction
  intro hc
  exact ni (h4 i hik (by simp only; omega) ti)
 ·exact absurd (h4 i hik ti) ni

theorem RightF.order {f : Form} (hl : Lim f) (hr : RightF f) : ∀ (n : Nat) (i k : Int), (k - i).toNat = n → i < k → ZL i → ZL k → fits f i → fits f k → Za f i ≠ [] → Za f k ≠ [] → lstT (Za f i) < fstT (Za f k) := by
 have hs := hr.shape
 intro n
 induction n using Nat.strongRecOn with
 | _ n ih =>
  intro i k hn hik ti tk fi fk ni nk
  by_cases ok : Z2s f k
  ·obtain ⟨g, hg, rfl⟩ := ok
   obtain ⟨j, hj, hij⟩ := under_some hl hs (Z1o tk) hik ti ni
   obtain ⟨hi', _, hab⟩ := Z1z hl hs (Z1o tk)
   obtain ⟨_, hlo, _, _⟩ := hr.beside g hg _ _ hj hab
   obtain ⟨fj, aj⟩ := hlo rfl
   have hj2 := hj
   rcases hj2 with ⟨_, j1, j2, j3, j4⟩ | ⟨h, _⟩
   ·simp only at fj aj j1 j2 j3
    have hjk := (Z8F j3 nk).1 aj
    by_cases hji : i = j
    ·rw [hji]; exact hjk
    ·have h1 := ih (j - i).toNat (by omega) i j rfl (by omega) ti j2 fi fj ni j3
     have h2 := Z4v (Z5b hs fj) j3
     omega
   ·cases h
  ·by_cases oi : Z2s f i
   ·obtain ⟨g, hg, rfl⟩ := oi
    obtain ⟨j, hj, hij⟩ := above_some hl hs (Z1o ti) hik tk nk
    obtain ⟨lo', _, hun⟩ := Z3p hl hs (Z1o ti)
    obtain ⟨_, _, hhi, _⟩ := hr.beside g hg _ _ hun hj
    obtain ⟨fj, aj⟩ := hhi rfl
    have hj2 := hj
    rcases hj2 with ⟨_, j1, j2, j3, j4⟩ | ⟨h, _⟩
    ·simp only at fj aj j1 j2 j3
     have hjk := (Z8F ni j3).1 aj
     by_cases hji : j = k
     ·rw [← hji]; exact hjk
     ·have h1 := ih (k - j).toNat (by omega) j k rfl (by omega) j2 tk fj fk j3 nk
      have h2 := Z4v (Z5b hs fj) j3
      omega
    ·cases h
   ·have h0 : f.Count ≠ 0 := fun h => ni (Z22 oi h)
    have ni' := fun h => ni ((Z1M oi h0).2 h)
    have nk' := fun h => nk ((Z1M ok h0).2 h)
    rw [Z25 oi h0, Z25 ok h0, (lst_shift _ ni').1, (lst_shift _ nk').2]
    exact core_order hs hr.turns h0 hik ni' nk'

end Go.Dn

namespace Go.Dn
open Go

theorem Above.tick {f : Form} {i : Int} {r : Int × Bool} (h : Above f i r) (hr : r.2 = true) : i < r.1 ∧ ZL r.1 ∧ Za f r.1 ≠ [] ∧ ∀ k, i < k → k < r.1 → ZL k → Za f k = [] := by
 rcases h with ⟨_, h1, h2, h3, h4⟩ | ⟨h, _⟩
 ·exact ⟨h1, h2, h3, h4⟩
 ·rw [hr] at h; cases h
theorem Under.tick {f : Form} {i : Int} {r : Int × Bool} (h : Under f i r) (hr : r.2 = true) : r.1 < i ∧ ZL r.1 ∧ Za f r.1 ≠ [] ∧ ∀ k, k < i → r.1 < k → ZL k → Za f k = [] := by
 rcases h with ⟨_, h1, h2, h3, h4⟩ | ⟨h, _⟩
 ·exact ⟨h1, h2, h3, h4⟩
 ·rw [hr] at h; cases h

end Go.Dn

namespace Go.Dn
open Go

end Go.Dn

namespace Go.Dn
open Go

noncomputable def cs (f : Form) (i : Int) : List Span := (Z1U f i).map (Z0f (Z3b f i))

theorem Z5M (l : List Span) (a b : Int) : (l.map (Z0f a)).map (Z0f b) = l.map (Z0f (a + b)) := by
 rw [List.map_map]
 congr 1
 funext s
 simp only [Function.comp, Z0f, Span.mk.injEq]
 omega

theorem cs_period {f : Form} (h0 : f.Count ≠ 0) (i : Int) : cs f (i + f.Count) = (cs f i).map (Z0f f.Period) := by
 unfold cs Z1U Z3b
 rw [Z5M, Int.add_emod_right, Int.add_ediv_of_dvd_right (Int.dvd_refl _), Int.ediv_self h0, Int.add_mul, Int.one_mul]

theorem cs_small {f : Form} {i : Int} (h0 : 0 ≤ i) (h1 : i < f.Count) : cs f i = f.Core.getD i.toNat [] := by
 unfold cs Z1U Z3b
 rw [Int.emod_eq_of_lt h0 h1, Int.ediv_eq_zero_of_lt h0 h1, Int.zero_mul, shift0]

def TurnZ (f : Form) (d q : Int) : Prop := ∀ i, cs f (i + d) = (cs f i).map (Z0f q)

def wrapI (f : Form) (d k : Int) : Int := if k + d ≥ f.Count then k + d - f.Count else k + d
def wrapP (f : Form) (d k : Int) : Int := if k + d ≥ f.Count then f.Period else 0

end Go.Dn

namespace Go.Dn
open Go

structure Good (f : Form) (d : Int) : Prop where
 pos : 1 ≤ d
 dvd : d ∣ f.Count
 rest : f.Period % (f.Count / d) = 0
 turn : TurnZ f d (f.Period / (f.Count / d))

end Go.Dn

namespace Go.Dn
open Go

def Turn (h : Int → List Span) (d q : Int) : Prop := ∀ i, h (i + d) = (h i).map (Z0f q)

theorem Turn.neg {h : Int → List Span} {d q : Int} (t : Turn h d q) : Turn h (-d) (-q) := fun i => by
 have := t (i + -d)
 rw [show i + -d + d = i by omega] at this
 rw [this, Z5M, Int.add_right_neg, shift0]

theorem Turn.add {h : Int → List Span} {d q d' q' : Int} (t : Turn h d q) (t' : Turn h d' q') : Turn h (d + d') (q + q') := fun i => by
 rw [show i + (d + d') = (i + d) + d' by omega, t', t, Z5M]

theorem Turn.zero (h : Int → List Span) : Turn h 0 0 := fun i => by rw [Int.add_zero, shift0]

theorem Turn.nat {h : Int → List Span} {d q : Int} (t : Turn h d q) : ∀ k : Nat, Turn h (k * d) (k * q)
 | 0 => by simpa using Turn.zero h
 | k + 1 => by
  have := (Turn.nat t k).add t
  push_cast
  rw [Int.add_mul, Int.one_mul, Int.add_mul, Int.one_mul]
  exact this

theorem Turn.mul {h : Int → List Span} {d q : Int} (t : Turn h d q) (k : Int) : Turn h (k * d) (k * q) := by
 rcases Int.natAbs_eq k with e | e
 ·rw [e]; exact t.nat _
 ·rw [e, Int.neg_mul, Int.neg_mul]; exact (t.nat _).neg

theorem Turn.agree {h h' : Int → List Span} {d q a : Int} (t : Turn h d q) (t' : Turn h' d q) (hd : 0 < d) (he : ∀ i, a ≤ i → i < a + d → h i = h' i) : h = h' := by
 funext i
 have e : i = ((i - a) % d + a) + (i - a) / d * d := by
  have := Int.emod_add_mul_ediv (i - a) d
  rw [Int.mul_comm] at this
  omega
 have h1 := Int.emod_nonneg (i - a) (show d ≠ 0 by omega)
 have h2 := Int.emod_lt_of_pos (i - a) hd
 rw [e, t.mul, t'.mul, he _ (by omega) (by omega)]

noncomputable def csz (f : Form) (i : Int) : List Span := if f.Count = 0 then [] else cs f i

theorem csz_pos {f : Form} (h0 : 0 < f.Count) : csz f = cs f := by funext i; exact if_neg (by omega)
theorem setAt_csz {f : Form} {i : Int} (h : ¬ Z2s f i) : Za f i = csz f i := by
 unfold csz
 by_cases h0 : f.Count = 0
 ·rw [if_pos h0, Z22 h h0]
 ·rw [if_neg h0, Z25 h h0]; rfl
theorem csz_bare {f : Form} (hs : Shape f) (hb : Bare f) (i : Int) : csz f i = [] := by
 unfold csz
 by_cases h0 : f.Count = 0
 ·rw [if_pos h0]
 ·rw [if_neg h0]; unfold cs; rw [hb _ (Z1X hs h0 i).2]; rfl

def Z4Q (f c : Form) : Prop := (Bare f ∧ c = Form.mk 0 0 [] []) ∨ (¬ Bare f ∧ 0 < f.Count ∧ ∃ d, Good f d ∧ (∀ d', Good f d' → d ≤ d') ∧ c = Form.mk (f.Period / (f.Count / d)) d (f.Core.take d.toNat) [])

theorem Z4Q.odd {f c : Form} (h : Z4Q f c) : c.Odd = [] := by
 rcases h with ⟨_, rfl⟩ | ⟨_, _, d, _, _, rfl⟩ <;> rfl

theorem Z4Q.csz {f c : Form} (hs : Shape f) (h : Z4Q f c) : csz c = csz f := by
 rcases h with ⟨hb, rfl⟩ | ⟨hb, h0, d, hg, _, rfl⟩
 ·funext i; rw [csz_bare hs hb]; rfl
 ·have hd := hg.pos
  have hdn : d ≤ f.Count := Int.le_of_dvd h0 hg.dvd
  have hcnt := hs.count
  rw [csz_pos h0, csz_pos (show 0 < (Form.mk (f.Period / (f.Count / d)) d (f.Core.take d.toNat) []).Count by show 0 < d; omega)]
  refine Turn.agree (a := 0) (d := d) (q := f.Period / (f.Count / d)) (cs_period (f := Form.mk (f.Period / (f.Count / d)) d (f.Core.take d.toNat) []) (show d ≠ 0 by omega)) hg.turn (by omega) (fun i i0 i1 => ?_)
  rw [cs_small i0 (show i < d by omega), cs_small i0 (by omega)]
  show (f.Core.take d.toNat).getD i.toNat [] = _
  rw [List.getD_eq_getElem?_getD, List.getD_eq_getElem?_getD, List.getElem?_take_of_lt (by omega)]

theorem Z4Q.shape {f c : Form} (hs : Shape f) (h : Z4Q f c) : Shape c := by
 rcases h with ⟨hb, rfl⟩ | ⟨hb, h0, d, hg, _, rfl⟩
 ·exact ⟨rfl, by simp, by simp, by simp, by simp, fun j k a b _ h => by simp at h⟩
 ·have hd := hg.pos
  have hdn : d ≤ f.Count := Int.le_of_dvd h0 hg.dvd
  have hcnt := hs.count
  have hm : 0 < f.Count / d := Int.ediv_pos_of_pos_of_dvd h0 (by omega) hg.dvd
  have hp : 0 < f.Period := by
   have := hs.per; have := hs.zero
   rcases Int.lt_or_le 0 f.Period with h | h
   ·exact h
   ·have : f.Period = 0 := by omega
    have := hs.zero.2 this
    omega
  have hq : 0 < f.Period / (f.Count / d) := Int.ediv_pos_of_pos_of_dvd hp (by omega) (Int.dvd_of_emod_eq_zero hg.rest)
  have hq2 : f.Period / (f.Count / d) ≤ f.Period := Int.ediv_le_self _ (by omega)
  refine ⟨?_, ?_, ?_, ?_, by simp, fun j k a b _ h => by simp at h⟩
  ·simp only [List.length_take]; omega
  ·simp only; omega
  ·simp only; have := hs.per; omega
  ·intro l hl'; exact hs.core l (List.mem_of_mem_take hl')

theorem Z4Q.lim {f c : Form} (hl : Lim f) (hs : Shape f) (h : Z4Q f c) : Lim c := by
 have hsc := h.shape hs
 have hn : c.Core.length ≤ f.Core.length ∧ ∀ l ∈ c.Core, l ∈ f.Core := by
  rcases h with ⟨hb, rfl⟩ | ⟨hb, h0, d, hg, _, rfl⟩
  ·exact ⟨Nat.zero_le _, fun l hl' => by cases hl'⟩
  ·exact ⟨by simp only [List.length_take]; omega, fun l hl' => List.mem_of_mem_take hl'⟩
 have hc := hl.core
 have h24 := Nat.mul_le_mul_right 24 hn.1
 have hp := hsc.per
 have hcnt := hsc.count
 have hcl : (f.Core.length : Int) < 4611686018427387904 := Z40 (b := 23) hl.core
 exact ⟨by omega, fun l hl' => hl.sets l (hn.2 l hl'), by rw [h.odd]; simp [Z1L], by rw [h.odd]; simp, by unfold In64; omega, by unfold In64; omega⟩

theorem Z4Q.Za {f c : Form} (hs : Shape f) (h : Z4Q f c) (i : Int) : Za c i = Go.Dn.csz f i := by
 rw [setAt_csz (by rintro ⟨g, hg, _⟩; rw [h.odd] at hg; cases hg), h.csz hs]

open Classical in
noncomputable def oddly (f : Form) (g : Granule) : Bool := decide (¬ csz f g.Index = g.Ticks)

noncomputable def canonF (f c : Form) : Form := Form.mk c.Period c.Count c.Core (f.Odd.filter (oddly f))

end Go.Dn

namespace Go.Dn
open Go

end Go.Dn

namespace Go.Dn
open Go

theorem Z78 {l : List Granule} : Inc l ↔ l.Pairwise (fun a b => a.Index < b.Index) := by
 rw [List.pairwise_iff_getElem]
 constructor
 ·intro h i j hi hj hij
  exact h i j _ _ hij (List.getElem?_eq_getElem hi) (List.getElem?_eq_getElem hj)
 ·intro h j k a b hjk ha hb
  obtain ⟨h1, rfl⟩ := List.getElem?_eq_some_iff.1 ha
  obtain ⟨h2, rfl⟩ := List.getElem?_eq_some_iff.1 hb
  exact h j k h1 h2 hjk

theorem Inc.filter {l : List Granule} (h : Inc l) (p : Granule → Bool) : Inc (l.filter p) := Z78.2 ((Z78.1 h).filter p)

end Go.Dn

namespace Go.Dn
open Go

end Go.Dn

namespace Go.Dn
open Go

theorem shift_ne {l : List Span} (hn : l ≠ []) {a b : Int} (h : l.map (Z0f a) = l.map (Z0f b)) : a = b := by
 cases l with
 | nil => exact absurd rfl hn
 | cons s l =>
  simp only [List.map_cons, List.cons.injEq, Z0f, Span.mk.injEq] at h
  omega

theorem Turn.uniq {h : Int → List Span} {d q q' : Int} (t : Turn h d q) (t' : Turn h d q') {i : Int} (hn : h i ≠ []) : q = q' := shift_ne hn ((t i).symm.trans (t' i))

def NearF (f : Form) (m : Int) : Prop := ∀ g ∈ f.Odd, -m ≤ g.Index ∧ g.Index ≤ m

end Go.Dn

namespace Go.Dn
open Go

end Go.Dn

namespace Go.Dn
open Go

end Go.Dn

namespace Go.Dn
open Go

def Mid (x : Int) : Prop := -1000000000000000000 ≤ x ∧ x ≤ 1000000000000000000

end Go.Dn

namespace Go.Dn
open Go

end Go.Dn

namespace Go.Dn
open Go

theorem hull_eq {l : List Span} (hl : Len l) : Z1A l = some (if l = [] then (⟨0, 0⟩, false) else (⟨fstT l, lstT l⟩, true)) := by
 have hlen := Z40 (b := 15) hl
 unfold Z1A
 by_cases h : l = []
 ·subst h; rfl
 ·have hp : 0 < l.length := List.length_pos_iff.2 h
  rw [if_neg h, beq_f (by omega), cond_false, Zx (by omega)]
  have e1 : at? l 0 = some (l.head h) := by
   have := at?_nat (l := l) (k := 0) hp
   rw [show ((0 : Nat) : Int) = 0 from rfl] at this
   rw [this, List.head_eq_getElem]
  have e2 : at? l ((l.length : Int) - 1) = some (l.getLast h) := by
   have := at?_nat (l := l) (k := l.length - 1) (by omega)
   rw [show ((l.length - 1 : Nat) : Int) = (l.length : Int) - 1 by omega] at this
   rw [this, List.getLast_eq_getElem]
  rw [e1, e2]
  simp only [Option.bind_some]
  unfold fstT lstT
  rw [List.head?_eq_some_head h, List.getLast?_eq_some_getLast h]
  rfl

def spotOf (g : Form) (j : Nat) : Option size_spot := if g.Core.getD j [] = [] then none else some ⟨(j : Int), ⟨fstT (g.Core.getD j []), lstT (g.Core.getD j [])⟩⟩
def spotsUp (g : Form) (k : Nat) : List size_spot := (List.range k).filterMap (spotOf g)
abbrev spotsOf (g : Form) : List size_spot := spotsUp g g.Core.length

structure Spots (g : Form) (l : List size_spot) : Prop where
 mem : ∀ s ∈ l, 0 ≤ s.index ∧ s.index < g.Count ∧ cs g s.index ≠ [] ∧ s.place.first = fstT (cs g s.index) ∧ s.place.last = lstT (cs g s.index)
 all : ∀ j, 0 ≤ j → j < g.Count → cs g j ≠ [] → ∃ s ∈ l, s.index = j
 inc : l.Pairwise (fun a b => a.index < b.index)

def LastC (g : Form) (t i : Int) : Prop := cs g i ≠ [] ∧ fstT (cs g i) ≤ t ∧ ∀ k, i < k → cs g k ≠ [] → t < fstT (cs g k)
def FirstC (g : Form) (t i : Int) : Prop := cs g i ≠ [] ∧ t ≤ lstT (cs g i) ∧ ∀ k, k < i → cs g k ≠ [] → lstT (cs g k) < t

structure Fit (g : Form) : Prop where
 lim : Lim g
 shape : Shape g
 turns : Turns g
 few : g.Core.length ≤ 12
 odds : g.Odd.length ≤ 8

theorem Fit.per {g : Form} (h : Fit g) (h0 : 0 < g.Count) : 0 < g.Period := by
 have h1 := h.shape.per
 have h2 := h.shape.zero
 omega

def BigT (t : Int) : Prop := -4398046511104 ≤ t ∧ t ≤ 4398046511104

end Go.Dn

namespace Go.Dn
open Go

def putB (b : Int × Bool) (n : Int) : Int × Bool := if b.2 = false ∨ n > b.1 then (n, true) else b
structure Best (S : Int → Prop) (b : Int × Bool) : Prop where
 yes : b.2 = true → S b.1 ∧ ∀ n, S n → n ≤ b.1
 no : b.2 = false → b.1 = 0 ∧ ∀ n, ¬ S n
theorem Best.put {S S' : Int → Prop} {b : Int × Bool} {n : Int} (h : Best S b) (hS : ∀ m, S' m ↔ S m ∨ m = n) : Best S' (putB b n) := by
 unfold putB
 split
 ·rename_i hc
  refine ⟨fun _ => ⟨(hS n).2 (.inr rfl), fun m hm => ?_⟩, fun h => by cases h⟩
  rcases (hS m).1 hm with h1 | h1
  ·cases hb : b.2 with
   | false => exact absurd h1 ((h.no hb).2 m)
   | true =>
    have := (h.yes hb).2 m h1
    rcases hc with h2 | h2
    ·rw [hb] at h2; cases h2
    ·simp only; omega
  ·subst h1; exact Int.le_refl _
 ·rename_i hc
  have hb : b.2 = true := by cases hb : b.2 <;> simp_all
  refine ⟨fun _ => ⟨(hS b.1).2 (.inl (h.yes hb).1), fun m hm => ?_⟩, fun h => by rw [hb] at h; cases h⟩
  rcases (hS m).1 hm with h1 | h1
  ·exact (h.yes hb).2 m h1
  ·subst h1
   have : ¬ (m > b.1) := fun h => hc (.inr h)
   omega
theorem Best.congr {S S' : Int → Prop} {b : Int × Bool} (h : Best S b) (hS : ∀ m, S' m ↔ S m) : Best S' b :=
 ⟨fun hb => ⟨(hS _).2 (h.yes hb).1, fun n hn => (h.yes hb).2 n ((hS n).1 hn)⟩, fun hb => ⟨(h.no hb).1, fun n hn => (h.no hb).2 n ((hS n).1 hn)⟩⟩
theorem Best.none {S : Int → Prop} (h : ∀ n, ¬ S n) : Best S (0, false) := ⟨fun h => by (cases h), fun _ => ⟨rfl, h⟩⟩
end Go.Dn

namespace Go.Dn
open Go

def byU (up : Bool) : Int := if up then 1 else -1
def sgU (up : Bool) : Int := if up then -1 else 1

def AtP (g : Form) (up : Bool) (t i : Int) : Prop := Za g i ≠ [] ∧ (if up then t ≤ lstT (Za g i) else fstT (Za g i) ≤ t)

end Go.Dn

namespace Go.Dn
open Go

def CoreP (g : Form) (up : Bool) (d i j : Int) : Prop := cs g i ≠ [] ∧ cs g j ≠ [] ∧ (if up then d ≤ lstT (cs g j) - fstT (cs g i) else fstT (cs g j) - lstT (cs g i) ≤ d)
def Z59 (g : Form) (up : Bool) (d i j : Int) : Prop := Za g i ≠ [] ∧ Za g j ≠ [] ∧ (if up then d ≤ lstT (Za g j) - fstT (Za g i) else fstT (Za g j) - lstT (Za g i) ≤ d)

def BigI (n : Int) : Prop := -600000000000000 ≤ n ∧ n ≤ 600000000000000
end Go.Dn

namespace Go.Dn
open Go

structure DownS (f : Form) (d : Int) (r : Int × Bool) : Prop where
 yes : r.2 = true → (∃ i j, Z59 f false d i j ∧ r.1 = j - i) ∧ ∀ i j, Z59 f false d i j → j - i ≤ r.1
 no : r.2 = false → ∀ i j, ¬ Z59 f false d i j
structure UpS (f : Form) (d : Int) (r : Int × Bool) : Prop where
 yes : r.2 = true → (∃ i j, Z59 f true d i j ∧ r.1 = j - i) ∧ ∀ i j, Z59 f true d i j → r.1 ≤ j - i
 no : r.2 = false → ∀ i j, ¬ Z59 f true d i j

theorem down_mono {f : Form} {d d' i j : Int} (h : Z59 f false d i j) (hd : d ≤ d') : Z59 f false d' i j := by
 unfold Z59 at *
 simp only [Bool.false_eq_true, if_false] at *
 exact ⟨h.1, h.2.1, by omega⟩
noncomputable def bad (low high : Bound) : Bool := (((!(Z0w low)) || (!(Z0w high))) || (low.Inf == 1)) || (high.Inf == (-1))
structure RangeS (f : Form) (low high : Bound) (r : Range) (ok : Bool) : Prop where
 none : ok = false → r = Range.mk 0 0 false false
 hi : ok = true → (r.HasHigh = true ↔ high.Inf = 0 ∧ high.N ≤ 1099511627776)
 lo : ok = true → (r.HasLow = true ↔ low.Inf = 0 ∧ -1099511627776 ≤ low.N)
 atH : ok = true → r.HasHigh = true → DownS f (max high.N (-1099511627776)) (r.High, true)
 atL : ok = true → r.HasLow = true → UpS f (min low.N 1099511627776) (r.Low, true)
 nhi : ok = true → r.HasHigh = false → r.High = 0
 nlo : ok = true → r.HasLow = false → r.Low = 0
 not : ok = false → (high.Inf = 0 ∧ high.N ≤ 1099511627776 ∧ ∀ i j, ¬ Z59 f false (max high.N (-1099511627776)) i j) ∨ (low.Inf = 0 ∧ -1099511627776 ≤ low.N ∧ ∀ i j, ¬ Z59 f true (min low.N 1099511627776) i j)

def Near (f : Form) (m d : Int) : Prop := ∃ i j, Z59 f false d i j ∧ m ≤ j - i
theorem Near.mono {f : Form} {m m' d d' : Int} (h : Near f m d) (hm : m' ≤ m) (hd : d ≤ d') : Near f m' d' := by
 obtain ⟨i, j, h1, h2⟩ := h
 exact ⟨i, j, down_mono h1 hd, by omega⟩
def farI (m : Int) : Int := min (max m (-4611686018427387904)) 4611686018427387904
def LowD (f : Form) (m d : Int) : Prop := -1099511627776 ≤ d ∧ d ≤ 1099511627776 ∧ (∀ z, -1099511627776 ≤ z → z < d → ¬ Near f m z) ∧ (d < 1099511627776 → Near f m d)
def boundD (d : Int) : Bound := if d = -1099511627776 then ⟨-1, 0⟩ else ⟨0, d⟩

theorem LowD.mono {f : Form} {m m' d d' : Int} (h : LowD f m d) (h' : LowD f m' d') (hm : m ≤ m') : d ≤ d' := by
 obtain ⟨a1, a2, a3, a4⟩ := h
 obtain ⟨b1, b2, b3, b4⟩ := h'
 by_cases hd : d ≤ d'
 ·exact hd
 ·exact absurd ((b4 (by omega)).mono hm (Int.le_refl _)) (a3 d' b1 (by omega))
def boundH (d : Int) : Bound := if d = -1099511627776 then ⟨1, 0⟩ else ⟨0, -d⟩
def goodB (x : Bound) : Prop := Z0w x = true ∧ x.N ≤ 1099511627776 ∧ -1099511627776 ≤ x.N
end Go.Dn

namespace Go.Dn
open Go

theorem w64_in (x : Int) : In64 (w64 x) := by unfold w64 In64; rw [Z3w]; omega

theorem has_found {l : List Span} {t : Int} (hl : Len l) : ∃ b, Z38 l t = some b ∧ (b = true → ∃ s ∈ l, s.From ≤ t ∧ t ≤ s.To) := by
 have hlen : (l.length : Int) < 4611686018427387904 := by have := Z1L; unfold Len at hl; omega
 obtain ⟨r, h1, p, rfl, hp⟩ := Z12 (step := Z7.s0 l t (fun z0 z1 => some (Z24 z0 z1)))
  (I := fun s => ∃ i j : Nat, s = ((i : Int), (j : Int)) ∧ i ≤ j ∧ j ≤ l.length)
  (fun s => (s.2 - s.1).toNat)
  (fun r => ∃ p : Nat, r = (p : Int) ∧ p ≤ l.length) (by
  rintro s ⟨i, j, rfl, hij, hj⟩
  unfold Z7.s0
  by_cases hlt : i < j
  ·have hm : w64 ((IntKind.u64.wrap (w64 ((i : Int) + j))).fdiv (2 ^ 1)) = ((i + j) / 2 : Nat) := by
    rw [Zx (x := (i : Int) + j) (by omega), Z4f, Int.fdiv_eq_ediv_of_nonneg _ (by decide), Zx (by omega)]
    omega
   have hml : (i + j) / 2 < l.length := by omega
   simp only [hm]
   rw [Zs (show (i : Int) < j by omega), cond_true, at?_nat hml]
   simp only [Option.bind_some]
   refine .inl ?_
   by_cases hc : Z24 l[(i + j) / 2] t < 0
   ·rw [Zs hc]
    refine ⟨((((i + j) / 2 + 1 : Nat) : Int), (j : Int)), ?_, ⟨(i + j) / 2 + 1, j, rfl, by omega, hj⟩, by simp; omega⟩
    rw [Zx (by omega)]; simp
   ·rw [Z07 hc]
    exact ⟨((i : Int), (((i + j) / 2 : Nat) : Int)), by simp, ⟨i, (i + j) / 2, rfl, by omega, by omega⟩, by simp; omega⟩
  ·exact .inr ⟨(i : Int), by rw [Z07 (show ¬ (i : Int) < j by omega)]; rfl, i, rfl, by omega⟩) (0, (l.length : Int)) ⟨0, l.length, rfl, Nat.zero_le _, Nat.le_refl _⟩
 unfold Z38 Z7
 rw [h1]
 simp only [Option.bind_some]
 by_cases hlt : p < l.length
 ·rw [Zs (show (p : Int) < l.length by omega), cond_true, at?_nat hlt]
  simp only [Option.bind_some, Bool.and_true]
  refine ⟨_, rfl, fun h => ⟨l[p], List.getElem_mem hlt, ?_⟩⟩
  simp only [Bool.and_eq_true] at h
  have h := eq_of_beq h.1
  unfold Z24 at h
  by_cases q1 : l[p].To < t
  ·rw [Zs q1] at h; simp at h
  ·by_cases q2 : l[p].From > t
   ·rw [Z07 q1, Zs q2] at h; simp at h
   ·omega
 ·rw [Z07 (show ¬ (p : Int) < l.length by omega), cond_false]
  simp only [Option.bind_some, Bool.and_false]
  exact ⟨false, rfl, fun h => by cases h⟩

def Z6A (f : Form) : Form := Form.mk f.Period f.Count f.Core []
theorem bareF_lim {f : Form} (h : Lim f) : Lim (Z6A f) := ⟨h.core, h.sets, by simp [Z6A], by simp [Z6A], h.count, h.period⟩
theorem bareF_shape {f : Form} (h : Shape f) : Shape (Z6A f) := ⟨h.count, h.zero, h.per, h.core, by simp [Z6A], by intro j k a b _ hj; simp [Z6A] at hj⟩

theorem place_tot {f : Form} (hl : Lim f) (t : Int) : ∃ r, ZA f t = some r ∧ In64 r.1 := by
 have hlen : (f.Core.length : Int) < 4611686018427387904 := by have := Z1L; have := hl.core; omega
 obtain ⟨r, h1, h2⟩ := Z12 (step := ZA.s0 f t)
  (I := fun s => (∃ k : Nat, s.2.2 = (k : Int) ∧ k ≤ f.Core.length) ∧ In64 s.1)
  (fun s => f.Core.length - s.2.2.toNat) (fun r => In64 r.1) (by
  rintro ⟨at', ok, idx⟩ ⟨⟨k, hk, hle⟩, hi⟩
  simp only at hk hi
  subst hk
  unfold ZA.s0
  simp only
  by_cases hlt : k < f.Core.length
  ·refine .inl ?_
   rw [Zs (show (k : Int) < f.Core.length by omega), cond_true, at?_nat hlt]
   simp only [Option.bind_some]
   rw [hull_eq (hl.sets _ (List.getElem_mem hlt)).1]
   simp only [Option.bind_some]
   have hw : w64 ((k : Int) + 1) = ((k + 1 : Nat) : Int) := by rw [Zx (by omega)]; push_cast; rfl
   by_cases hn : f.Core[k] = []
   ·rw [if_pos hn]
    exact ⟨_, rfl, ⟨⟨k + 1, hw, hlt⟩, hi⟩, by simp only [hw]; omega⟩
   ·rw [if_neg hn]
    simp only [Bool.not_true, cond_false]
    unfold Z5f
    rw [Z60 (w64_in _) hl.period]
    simp only [Option.bind_some]
    rw [pickB]
    split
    ·simp only [Option.bind_some, Jx.elim]
     exact ⟨_, rfl, ⟨⟨k + 1, hw, hlt⟩, w64_in _⟩, by simp only [hw]; omega⟩
    ·simp only [Option.bind_some, Jx.elim]
     exact ⟨_, rfl, ⟨⟨k + 1, hw, hlt⟩, hi⟩, by simp only [hw]; omega⟩
  ·refine .inr ⟨(at', ok), ?_, hi⟩
   rw [Z07 (show ¬ (k : Int) < f.Core.length by omega), cond_false]) (0, false, 0) ⟨⟨0, rfl, Nat.zero_le _⟩, by unfold In64; simp⟩
 refine ⟨r, ?_, h2⟩
 unfold ZA
 rw [h1]
 rfl

theorem plain_tot {f : Form} (hl : Lim f) (hs : Shape f) (t : Int) : ∃ r, Z3 f t = some r ∧ (r.2 = true → ZL r.1) := by
 obtain ⟨x1, e1, i1⟩ := place_tot hl t
 unfold Z3
 rw [e1]
 simp only [Option.bind_some]
 cases hx : x1.2 with
 | false => exact ⟨(0, false), rfl, fun h => by cases h⟩
 | true =>
 simp only [Bool.not_true, cond_false]
 have hlen : (f.Odd.length : Int) < 4611686018427387904 := by have := Z1L; have := hl.odd; omega
 obtain ⟨kv, e2, _⟩ := Z12 (step := Z3.s0 f)
  (I := fun s => ∃ k : Nat, s.1 = (k : Int) ∧ k ≤ f.Odd.length)
  (fun s => f.Odd.length - s.1.toNat) (fun _ => True) (by
  rintro ⟨idx, kv⟩ ⟨k, hk, hle⟩
  simp only at hk
  subst hk
  unfold Z3.s0
  simp only
  by_cases hlt : k < f.Odd.length
  ·have hw : w64 ((k : Int) + 1) = ((k + 1 : Nat) : Int) := by rw [Zx (by omega)]; push_cast; rfl
   rw [Zs (show (k : Int) < f.Odd.length by omega), cond_true, at?_nat hlt]
   simp only [Option.bind_some]
   exact .inl ⟨_, rfl, ⟨k + 1, hw, hlt⟩, by simp only [hw]; omega⟩
  ·exact .inr ⟨kv, by rw [Z07 (show ¬ (k : Int) < f.Odd.length by omega), cond_false], trivial⟩) (0, []) ⟨0, rfl, Nat.zero_le _⟩
 rw [e2]
 simp only [Option.bind_some]
 have bl := bareF_lim hl
 have bs := bareF_shape hs
 obtain ⟨x3, e3, a3⟩ := Z1z bl bs (i := w64 (x1.1 - 1)) (w64_in _)
 rw [show Form.mk f.Period f.Count f.Core [] = Z6A f from rfl, e3]
 simp only [Option.bind_some]
 have tickA : ∀ {i : Int} {r : Int × Bool}, Above (Z6A f) i r → r.2 = true → i < r.1 ∧ ZL r.1 := fun h hr => ⟨(h.tick hr).1, (h.tick hr).2.1⟩
 obtain ⟨y, e4, h4⟩ := Z12 (step := Z3.s1 f kv)
  (I := fun s => (s.2.1 = true → ZL s.1) ∧ 0 ≤ s.2.2 ∧ s.2.2 ≤ 2)
  (fun s => if s.2.1 = true then (1099511627777 - s.1).toNat + 1 else 0)
  (fun y => ∀ r, y = .ret r → r.2 = true → ZL r.1) (by
  rintro ⟨i, ok, by_⟩ ⟨hi, hb0, hb2⟩
  simp only at hi hb0 hb2
  unfold Z3.s1
  simp only
  rw [show Form.mk f.Period f.Count f.Core [] = Z6A f from rfl]
  by_cases hc : ok = true ∧ by_ < 2
  ·obtain ⟨rfl, hb⟩ := hc
   have ti := hi rfl
   rw [Zs hb]
   simp only [Bool.and_self, cond_true]
   obtain ⟨x5, e5, a5⟩ := Z1z bl bs (i := i) (Z1o ti)
   have go : ∀ b' : Int, 0 ≤ b' → b' ≤ 2 → ∃ s' : Int × Bool × Int, (some (Sum.inl (x5.1, x5.2, b')) : Option ((Int × Bool × Int) ⊕ Jx Unit (Int × Bool))) = some (.inl s') ∧ ((s'.2.1 = true → ZL s'.1) ∧ 0 ≤ s'.2.2 ∧ s'.2.2 ≤ 2) ∧
     (if s'.2.1 = true then (1099511627777 - s'.1).toNat + 1 else 0) < (1099511627777 - i).toNat + 1 := fun b' q1 q2 => by
    refine ⟨_, rfl, ⟨fun h => (tickA a5 h).2, q1, q2⟩, ?_⟩
    simp only
    split
    ·rename_i h
     have := tickA a5 h
     have t2 := this.2
     unfold ZL at t2 ti
     omega
    ·omega
   obtain ⟨g, hg⟩ : ∃ g, Z09 (Z6A f) i = some g := ⟨_, Z48 bl bs (Z1o ti)⟩
   rw [hg]
   simp only [Option.bind_some, if_true]
   have hwb : w64 (by_ + 1) = by_ + 1 := Zx (by omega)
   rw [hwb]
   cases hgc : (g.2 != 0) with
   | true =>
    simp only [cond_true, Option.bind_some, Jx.elim]
    rw [e5]
    simp only [Option.bind_some]
    exact .inl (go _ (by omega) (by omega))
   | false =>
    simp only [cond_false]
    cases hm : (mget kv i == 0) with
    | true =>
     simp only [cond_true, Option.bind_some, Jx.elim]
     exact .inr ⟨_, rfl, fun r hr _ => by cases hr; exact ti⟩
    | false =>
     simp only [cond_false, Option.bind_some, Jx.elim]
     rw [e5]
     simp only [Option.bind_some]
     exact .inl (go _ hb0 hb2)
  ·have : (ok && decide (by_ < 2)) = false := by
    cases ok with
    | false => rfl
    | true => rw [Z07 (fun h => hc ⟨rfl, h⟩)]; rfl
   rw [this, cond_false]
   exact .inr ⟨_, rfl, fun r hr => by cases hr⟩) (x3.1, x3.2, 0) ⟨fun h => (tickA a3 h).2, by simp, by simp⟩
 rw [e4]
 simp only [Option.bind_some]
 cases y with
 | ret r => exact ⟨r, rfl, h4 r rfl⟩
 | go u => exact ⟨(0, false), rfl, fun h => by cases h⟩

theorem nearest_tot {f : Form} (hl : Lim f) (hs : Shape f) (t : Int) : ∃ r, Z6 f t = some r ∧ (r.2 = true → ZL r.1) := by
 obtain ⟨x1, e1, i1⟩ := plain_tot hl hs (iMax (iMin t 1099511627777) (-1099511627777))
 have hlen : (f.Odd.length : Int) < 4611686018427387904 := by have := Z1L; have := hl.odd; omega
 obtain ⟨r, e2, h2⟩ := Z12 (step := Z6.s0 f t)
  (I := fun s => (∃ k : Nat, s.2.2 = (k : Int) ∧ k ≤ f.Odd.length) ∧ (s.2.1 = true → ZL s.1))
  (fun s => f.Odd.length - s.2.2.toNat) (fun r => r.2 = true → ZL r.1) (by
  rintro ⟨i, ok, idx⟩ ⟨⟨k, hk, hle⟩, hi⟩
  simp only at hk hi
  subst hk
  unfold Z6.s0
  simp only
  by_cases hlt : k < f.Odd.length
  ·have hw : w64 ((k : Int) + 1) = ((k + 1 : Nat) : Int) := by rw [Zx (by omega)]; push_cast; rfl
   have hm : f.Odd[k] ∈ f.Odd := List.getElem_mem hlt
   rw [Zs (show (k : Int) < f.Odd.length by omega), cond_true, at?_nat hlt]
   simp only [Option.bind_some]
   obtain ⟨g, hg⟩ : ∃ g, Z1A f.Odd[k].Ticks = some g := ⟨_, hull_eq (hl.ticks _ hm).2.1⟩
   rw [hg]
   simp only [Option.bind_some]
   refine .inl ?_
   rw [pickB]
   split
   ·simp only [Option.bind_some]
    exact ⟨_, rfl, ⟨⟨k + 1, hw, hlt⟩, fun _ => (hs.odd _ hm).2⟩, by simp only [hw]; omega⟩
   ·simp only [Option.bind_some]
    exact ⟨_, rfl, ⟨⟨k + 1, hw, hlt⟩, hi⟩, by simp only [hw]; omega⟩
  ·exact .inr ⟨(i, ok), by rw [Z07 (show ¬ (k : Int) < f.Odd.length by omega), cond_false], hi⟩) (x1.1, x1.2, 0) ⟨⟨0, rfl, Nat.zero_le _⟩, i1⟩
 refine ⟨r, ?_, h2⟩
 unfold Z6
 rw [e1]
 simp only [Option.bind_some]
 rw [e2]
 rfl

def Bears (f : Form) (i t : Int) : Prop := ZL i ∧ fits f i ∧ ∃ s ∈ Za f i, s.From ≤ t ∧ t ≤ s.To

theorem Z6F {f : Form} (hl : Lim f) (hs : Shape f) (t : Int) : ∃ r, Z3L f t = some r ∧ (r.2 = true → Bears f r.1 t) ∧ (r.2 = false → r.1 = 0) := by
 obtain ⟨x1, e1, i1⟩ := nearest_tot hl hs t
 unfold Z3L Z3m
 rw [e1]
 simp only [Option.bind_some]
 cases hx : x1.2 with
 | false => exact ⟨(0, false), rfl, (fun h => by cases h), fun _ => rfl⟩
 | true =>
 have ti := i1 hx
 simp only [Bool.not_true, cond_false]
 rw [Z48 hl hs (Z1o ti)]
 simp only [Option.bind_some]
 by_cases hf : ZL x1.1 ∧ fits f x1.1
 ·rw [if_pos hf]
  obtain ⟨b, e2, h2⟩ := has_found (l := Za f x1.1) (t := t) (Z7N hl hs _)
  rw [e2]
  simp only [Option.bind_some]
  cases b with
  | false => exact ⟨(0, false), rfl, (fun h => by cases h), fun _ => rfl⟩
  | true => exact ⟨(x1.1, true), rfl, fun _ => ⟨hf.1, hf.2, h2 rfl⟩, (fun h => by cases h)⟩
 ·rw [if_neg hf]
  obtain ⟨b, e2, h2⟩ := has_found (l := []) (t := t) (by unfold Len; simp)
  rw [e2]
  simp only [Option.bind_some]
  cases b with
  | false => exact ⟨(0, false), rfl, (fun h => by cases h), fun _ => rfl⟩
  | true => obtain ⟨s, hs, _⟩ := h2 rfl; cases hs

theorem Bears.ends {f : Form} (hs : Shape f) {i t : Int} (h : Bears f i t) : Za f i ≠ [] ∧ fstT (Za f i) ≤ t ∧ t ≤ lstT (Za f i) ∧ ZL t := by
 obtain ⟨h1, h2, s, h3, h4, h5⟩ := h
 have hr := Z5b hs h2
 have hn : Za f i ≠ [] := fun e => by rw [e] at h3; cases h3
 obtain ⟨k, hk, he⟩ := List.getElem_of_mem h3
 have hlt := hk
 have key : fstT (Za f i) ≤ s.From ∧ s.To ≤ lstT (Za f i) := by
  have h0 : ∀ (l : List Span), RightL l → ∀ (s : Span), s ∈ l → fstT l ≤ s.From ∧ s.To ≤ lstT l := by
   intro l
   induction l with
   | nil => intro _ s hs; cases hs
   | cons a l ih =>
    intro hr s hs
    have ha := hr.ok 0 a rfl
    have e1 : fstT (a :: l) = a.From := rfl
    cases l with
    | nil =>
     rw [List.mem_singleton] at hs
     subst hs
     exact ⟨by rw [e1]; omega, by show s.To ≤ s.To; omega⟩
    | cons b l =>
     have hg := hr.gap 0 a b rfl rfl
     have e2 : lstT (a :: b :: l) = lstT (b :: l) := by unfold lstT; rw [List.getLast?_cons_cons]
     have hrt := hr.tail
     rcases List.mem_cons.1 hs with rfl | hs
     ·have := ih hrt b (by simp)
      have hb := hrt.ok 0 b rfl
      refine ⟨by rw [e1]; omega, by rw [e2]; omega⟩
     ·have := ih hrt s hs
      have e3 : fstT (b :: l) = b.From := rfl
      rw [e3] at this
      refine ⟨by rw [e1]; omega, by rw [e2]; exact this.2⟩
  exact h0 _ hr s h3
 have hl := lst_tick hr hn
 unfold ZL at *
 exact ⟨hn, by omega, by omega, by omega⟩

end Go.Dn

namespace Go.Dn
open Go

theorem Z5p {f : Form} {a b : Int} {A B : Int × Bool} (eA : Z3L f a = some A) (eB : Z3L f b = some B) (hA : A.2 = true → Bears f A.1 a) (hB : B.2 = true → Bears f B.1 b) :
  Z04 f a b = some (if A.2 = true ∧ B.2 = true then (B.1 - A.1, true) else (0, false)) := by
 unfold Z04
 rw [eA]
 simp only [Option.bind_some]
 cases hx : A.2 with
 | false => simp
 | true =>
 simp only [Bool.not_true, cond_false]
 rw [eB]
 simp only [Option.bind_some]
 cases hy : B.2 with
 | false => simp
 | true =>
  have tx := (hA hx).1
  have ty := (hB hy).1
  unfold ZL at tx ty
  rw [Zx (by omega)]
  simp

theorem Z8X {f : Form} (hl : Lim f) (hr : RightF f) {i k a b : Int} (hi : Bears f i a) (hk : Bears f k b) (h : a ≤ b) : i ≤ k := by
 apply Classical.byContradiction
 intro hn
 obtain ⟨a1, a2, a3, _⟩ := hi.ends hr.shape
 obtain ⟨b1, b2, b3, _⟩ := hk.ends hr.shape
 have := hr.order hl _ k i rfl (by omega) hk.1 hi.1 hk.2.1 hi.2.1 b1 a1
 omega

theorem small_right {f : Form} (hl : Lim f) : ∃ x1 y, Z0M f = some x1 ∧ ((bif (!x1) then some true else (Zm f).bind fun x2 => some (x2 != 0)) : Option Bool) = some y ∧ (y = false → SmallF f ∧ RightF f) := by
 obtain ⟨b, e, i⟩ := Z5s hl
 cases b with
 | false => exact ⟨false, true, e, rfl, fun h => by cases h⟩
 | true =>
  rcases gran_Right_eq hl with ⟨_, h⟩ | ⟨_, q, h⟩ | ⟨_, _, h⟩
  ·exact ⟨true, true, e, by rw [h]; rfl, fun h => by cases h⟩
  ·exact ⟨true, false, e, by rw [h]; rfl, fun _ => ⟨i.1 rfl, q⟩⟩
  ·exact ⟨true, true, e, by rw [h]; rfl, fun h => by cases h⟩

theorem tagAdds_true (f : Form) (a b c : Int) (hf : f.ok) (ha : okI .i64 a) (hb : okI .i64 b) (hc : okI .i64 c) : Z1V f a b c = some true := by
 have hl := Form.lim hf
 unfold Z1V
 obtain ⟨x1, y, e1, e2, h2⟩ := small_right hl
 rw [e1]
 simp only [Option.bind_some]
 rw [e2]
 simp only [Option.bind_some]
 cases y with
 | true => rfl
 | false =>
 obtain ⟨sf, rf⟩ := h2 rfl
 simp only [cond_false]
 obtain ⟨⟨i, oa⟩, eA, hA, _⟩ := Z6F hl rf.shape a
 obtain ⟨⟨k, ob⟩, eB, hB, _⟩ := Z6F hl rf.shape b
 obtain ⟨⟨m, oc⟩, eC, hC, _⟩ := Z6F hl rf.shape c
 rw [Z5p eA eB hA hB, Z5p eB eA hB hA, Z5p eB eC hB hC, Z5p eA eC hA hC, Z5p eA eA hA hA, Z5p eB eB hB hB]
 simp only [Option.bind_some] at *
 cases oa with
 | false => cases ob <;> simp [bne] <;> rfl
 | true =>
 cases ob with
 | false => simp; rfl
 | true =>
 have bi := hA rfl
 have bk := hB rfl
 have ti := bi.1
 have tk := bk.1
 unfold ZL at ti tk
 have w1 : w64 (0 - (i - k)) = k - i := by rw [Zx (by omega)]; omega
 have o1 : (decide (a ≤ b) && decide (k - i < 0)) = false := by
  by_cases h : a ≤ b
  ·have := Z8X hl rf bi bk h
   rw [Z07 (show ¬ k - i < 0 by omega), Bool.and_false]
  ·rw [Z07 h, Bool.false_and]
 have o2 : (decide (a ≥ b) && decide (k - i > 0)) = false := by
  by_cases h : a ≥ b
  ·have := Z8X hl rf bk bi h
   rw [Z07 (show ¬ k - i > 0 by omega), Bool.and_false]
  ·rw [Z07 h, Bool.false_and]
 simp only [and_self, if_true, w1, Int.sub_self, o1, o2, Bool.true_and, Bool.not_true, Bool.false_and, Bool.or_false]
 cases oc with
 | false => simp [bne]; rfl
 | true =>
  have tm := (hC rfl).1
  unfold ZL at tm
  have w2 : w64 (k - i + (m - k)) = m - i := by rw [Zx (by omega)]; omega
  simp [bne, w2]
  rfl

end Go.Dn
